/- Part of the proof of a statement about executions of litmus programs: walks and laws. -/
import Derived.Test.YtmgnpoleilcjoaaGreatVPaa
import Derived.Test.YtmgnpoleilcjoaaGreatProg
import Derived.RangeFuncIn
import Derived.RangeFuncNested
set_option maxHeartbeats 8000000
set_option maxRecDepth 8000
set_option linter.unusedSimpArgs false
set_option linter.unusedVariables false
set_option linter.unusedSectionVars false
namespace Go.EV
variable {P : Program}
def Kd (ops : Array Oper) (s : Nat) (g : Option (Nat × Bool)) : Nat → Nat → Option Nat
 | _, 0 => none
 | i, n + 1 => match ops[i]? with
  | some o => if o.guard = g then (match o.op with
    | .pick (.tmp s') _ _ => if s' = s then some i else Kd ops s g (i + 1) n
    | _ => Kd ops s g (i + 1) n) else Kd ops s g (i + 1) n
  | none => none
def W5 (want : Bool) (s : Nat) : Op → Option Operand
 | .pick (.tmp s') x y => if s' = s then (if want then (match y with | .const (.bool false) => some x | _ => none) else (match x with | .const (.bool true) => some y | _ => none)) else none
 | _ => none
theorem pickOf_ok {want : Bool} {s : Nat} {op : Op} {x : Operand} (h : W5 want s op = some x) : op = if want then .pick (.tmp s) x (.const (.bool false)) else .pick (.tmp s) (.const (.bool true)) x := by
 unfold W5 at h
 split at h
 ·split at h
  ·rename_i e
   subst e
   split at h
   ·rename_i hw
    split at h
    ·cases h; simp [hw]
    ·cases h
   ·rename_i hw
    split at h
    ·cases h; simp [hw]
    ·cases h
  ·cases h
 ·cases h
def okG (g : Option (Nat × Bool)) (i : Nat) : Bool :=
 match g with
 | none => true
 | some p => decide (p.1 < i)
theorem okG_ok {g : Option (Nat × Bool)} {i : Nat} (h : okG g i = true) : ∀ p, g = some p → p.1 < i := by
 intro p e; subst e; simpa [okG] using h
def Ab5 : Op → Bool
 | .defer _ => true
 | _ => false
def Ak9 (d : Option Nat) (nt : Nat) : Bool :=
 match d with
 | none => true
 | some d => decide (d < nt)
def Fe3 (g : Option (Nat × Bool)) (og : Oper) (i0 gi : Nat) : Bool :=
 match g with
 | none => true
 | some _ => decide (i0 ≤ gi) && decide (og.guard = g)
def Vv (P : Program) (ops : Array Oper) (nt : Nat) : Nat → Option (Nat × Bool) → Nat → Nat → Nat → Option Sts
 | 0, _, _, _, _ => none
 | fuel + 1, g, i0, i, j =>
  if i = j then some .nil else
  (ops[i]?).bind fun o =>
  if o.guard = g then
   (if (okG g i && Ak9 o.dst nt && !Ab5 o.op) = true then (As6 P o).bind fun r => (Vv P ops nt fuel g i0 (i + 1) j).bind fun rest => some (.op o.dst r rest) else none)
  else match o.guard with
   | none => none
   | some (gi, want) => (ops[gi]?).bind fun og => og.dst.bind fun s => (Kd ops s g i (j - i)).bind fun m => (ops[m]?).bind fun p => p.dst.bind fun d =>
     (W5 want s p.op).bind fun x => (cA x).bind fun last =>
     if (decide (gi < i) && Fe3 g og i0 gi && okG g i && decide (p.guard = g) && decide (d < nt)) = true then
      (Vv P ops nt fuel (some (gi, want)) i i m).bind fun body => (Vv P ops nt fuel g i0 (m + 1) j).bind fun rest => some (.cnd s want body d last rest)
     else none
theorem compS_ok {ops : Array Oper} {nt : Nat} : ∀ {fuel : Nat} {g : Option (Nat × Bool)} {i0 i j : Nat} {sts : Sts}, Vv P ops nt fuel g i0 i j = some sts → CmpS P ops nt g i0 i j sts
 | 0, g, i0, i, j, sts, h => by simp [Vv] at h
 | fuel + 1, g, i0, i, j, sts, h => by
  unfold Vv at h
  split at h
  ·rename_i e; cases h; subst e; exact .nil
  ·simp only [lA3] at h
   obtain ⟨o, ho, h⟩ := h
   split at h
   ·rename_i hg
    split at h
    ·rename_i hc
     simp only [lA6] at hc
     obtain ⟨⟨h1, h2⟩, h3⟩ := hc
     simp only [lA3] at h
     obtain ⟨r, hr, rest, gU, e⟩ := h
     cases e
     refine .op ho hg (okG_ok h1) (comp_ok hr) ?_ ?_ (compS_ok gU)
     ·intro c e; simp [Ab5, e] at h3
     ·intro d e; simpa [Ak9, e] using h2
    ·cases h
   ·split at h
    ·cases h
    ·rename_i gi want se
     simp only [lA3] at h
     obtain ⟨og, dA, s, hs, m, hm, p, hp, d, hd, x, hx, last, hl, h⟩ := h
     split at h
     ·rename_i hc
      simp only [lA6, decide_eq_true_eq] at hc
      obtain ⟨⟨⟨⟨h1, h2⟩, h3⟩, h4⟩, h5⟩ := hc
      simp only [lA3] at h
      obtain ⟨body, hb, rest, hr, e⟩ := h
      cases e
      refine .cnd dA hs h1 ?_ (okG_ok h3) (compS_ok hb) hp h4 (pickOf_ok hx) hl hd h5 (compS_ok hr)
      intro gV
      cases g with
      | none => simp at gV
      | some q => simpa [Fe3] using h2
     ·cases h
def Vw (ops : Array Oper) : Bool :=
 (List.range ops.size).all fun t => (List.range ops.size).all fun t' =>
  t == t' || (match (ops[t]?).bind (·.dst), (ops[t']?).bind (·.dst) with | some d, some d' => !(d == d') | _, _ => true)
theorem oneDst_ok {ops : Array Oper} (h : Vw ops = true) : Qn ops := by
 intro t t' o o' d ho bD hd cu
 have h1 : t < ops.size := (lBs.1 ho).1
 have h2 : t' < ops.size := (lBs.1 bD).1
 have h3 := lB0.1 (lB0.1 h t (lAn.2 h1)) t' (lAn.2 h2)
 simpa [ho, bD, hd, cu] using h3
def Ab6 (ops : Array Oper) (V : List Nat) : Bool :=
 ops.toList.all fun o => match o.guard, o.dst with | some _, some d => !V.contains d | _, _ => true
theorem guardV_ok {ops : Array Oper} {V : List Nat} (h : Ab6 ops V = true) : ∀ (t : Nat) (o : Oper) (d : Nat), ops[t]? = some o → o.dst = some d → o.guard ≠ none → d ∉ V := by
 intro t o d ho hd hg hm
 have := lB0.1 h o (by simpa using Array.mem_of_getElem? ho)
 cases iV : o.guard with
 | none => exact hg iV
 | some g => simp [iV, hd, hm] at this
def Lz (o : Oper) (D : Nat) : Bool := o.after.toList.all fun e => !Region.binds .any e || bit D e.on
theorem depsIn_ok {ops : Array Oper} {i D : Nat} {o : Oper} (ho : ops[i]? = some o) (h : Lz o D = true) : ∀ p, dep ops p i → bit D p = true := by
 rintro p ⟨o', bD, e, he, hb, rfl⟩
 rw [ho] at bD; cases bD
 have := lB0.1 h e he
 simpa [hb] using this
theorem Ab7 {ops : Array Oper} {i D : Nat} {o : Oper} (ho : ops[i]? = some o) (h : Lz o D = false) : ∃ p, dep ops p i ∧ bit D p = false := by
 simp only [Lz, lEh] at h
 obtain ⟨e, he, h⟩ := h
 simp at h
 exact ⟨e.on, ⟨o, ho, e, he, h.1, rfl⟩, h.2⟩
def Ao3 (l : List Nat) (o : Oper) : Nat := o.after.toList.foldl (fun m e => if Region.binds .any e then m ||| (1 <<< e.on) ||| l.getD e.on 0 else m) 0
def ups (ops : Array Oper) : Nat → List Nat
 | 0 => []
 | n + 1 => let l := ups ops n; l ++ [match ops[n]? with | some o => Ao3 l o | none => 0]
theorem Qo (ops : Array Oper) : ∀ n, (ups ops n).length = n
 | 0 => rfl
 | n + 1 => by simp [ups, Qo ops n]
theorem upMask_ok {ops : Array Oper} {n : Nat} {o : Oper} (ho : ops[n]? = some o) {l : List Nat} (hl : ∀ i j, bit (l.getD j 0) i = true → Bef ops i j) {i : Nat} (h : bit (Ao3 l o) i = true) : Bef ops i n := by
 have key : ∀ (es : List Edge) (m : Nat), (∀ e ∈ es, e ∈ o.after.toList) → (bit m i = true → Bef ops i n) → bit (es.foldl (fun m e => if Region.binds .any e then m ||| (1 <<< e.on) ||| l.getD e.on 0 else m) m) i = true → Bef ops i n := by
  intro es
  induction es with
  | nil => intro m _ hm h; exact hm h
  | cons e es ih =>
   intro m gD hm h
   refine ih _ (fun e' sg => gD e' (by simp [sg])) ?_ h
   intro hb
   dsimp only at hb
   split at hb
   ·rename_i ng
    simp only [bit, lCz, Nat.one_shiftLeft, lCi, lAq, decide_eq_true_eq] at hb
    have hd : dep ops e.on n := ⟨o, ho, e, gD e (by simp), ng, rfl⟩
    rcases hb with (hb | hb) | hb
    ·exact hm hb
    ·subst hb; exact .one hd
    ·exact .step (hl _ _ hb) hd
   ·exact hm hb
 exact key o.after.toList 0 (fun e he => he) (fun h => by simp [bit] at h) h
theorem ups_ok {ops : Array Oper} : ∀ n i j, bit ((ups ops n).getD j 0) i = true → Bef ops i j := by
 intro n
 induction n with
 | zero => intro i j h; simp [ups, bit] at h
 | succ n ih =>
  intro i j h
  have aG := Qo ops n
  simp only [ups, List.getD_eq_getElem?_getD] at h
  by_cases hj : j < n
  ·rw [lDy (by omega)] at h
   exact ih i j (by rw [List.getD_eq_getElem?_getD]; exact h)
  ·by_cases e : j = n
   ·subst e
    rw [lEm (by omega), aG, lF5] at h
    simp only [lE5, lAr] at h
    split at h
    ·rename_i o ho; exact upMask_ok ho ih h
    ·simp [bit] at h
   ·rw [lCy (by simp [aG]; omega)] at h
    simp [bit] at h
def Ym (md : Region.Mode) (ops : Array Oper) : List Nat → Nat → Bool
 | [], D => (List.range ops.size).all fun i => bit D i
 | i :: l, D => match ops[i]? with
  | some o => (o.after.toList.all fun e => !Region.binds md e || bit D e.on) && Ym md ops l (bset D i)
  | none => false
theorem liveB_ok {md : Region.Mode} {ops : Array Oper} {listed : Array Bool} (aQ : listed.size = ops.size) (hr : Region.ready md ops listed = []) : ∀ {l : List Nat} {D : Nat}, Ym md ops l D = true → (∀ i, bit D i = true → listed.getD i false = true) →
  ∀ i, i < ops.size → listed.getD i false = true
 | [], D, h, hD, i, hi => hD i (lB0.1 h i (lAn.2 hi))
 | x :: l, D, h, hD, i, hi => by
  simp only [Ym] at h
  split at h
  ·rename_i o ho
   simp only [lA6] at h
   refine liveB_ok aQ hr h.2 ?_ i hi
   intro j hj
   rw [A0] at hj
   rcases E2 hj with rfl | hj
   ·cases hl : listed.getD j false with
    | true => rfl
    | false =>
     exfalso
     have aS : j < listed.size := by have := (lBs.1 ho).1; omega
     have := Ak6 (md := md) (listed := listed) ho (by simpa [lBw, aS] using hl) (fun e he hb => hD _ (by
      have := lB0.1 h.1 e he
      simpa [hb] using this))
     rw [hr] at this; cases this
   ·exact hD j hj
  ·cases h
def Cx4 (md : Region.Mode) (ops : Array Oper) : Nat → Nat → List Nat
 | 0, _ => []
 | fuel + 1, D => match (List.range ops.size).find? fun i => !bit D i && (match ops[i]? with | some o => o.after.toList.all fun e => !Region.binds md e || bit D e.on | none => false) with
  | some i => i :: Cx4 md ops fuel (bset D i)
  | none => []
def Vx (ops : Array Oper) : Bool :=
 Ym .any ops (Cx4 .any ops ops.size 0) 0 && Ym .text ops (Cx4 .text ops ops.size 0) 0 && Ym .gc ops (Cx4 .gc ops ops.size 0) 0
theorem liveAll_ok {ops : Array Oper} (h : Vx ops = true) (md : Region.Mode) (listed : Array Bool) (aQ : listed.size = ops.size) (hr : Region.ready md ops listed = []) : ∀ i, i < ops.size → listed.getD i false = true := by
 simp only [Vx, lA6] at h
 obtain ⟨⟨h1, h2⟩, h3⟩ := h
 cases md
 ·exact liveB_ok aQ hr h2 (by simp [bit])
 ·exact liveB_ok aQ hr h3 (by simp [bit])
 ·exact liveB_ok aQ hr h1 (by simp [bit])
def As7 (ops : Array Oper) (nt : Nat) (us : List Nat) : Bool :=
 Vw ops && Vx ops && (ops.toList.all fun o => Ak9 o.dst nt && (match o.op with | .select _ _ => false | .defer _ => false | _ => true)) &&
 (List.range ops.size).all fun i => match ops[i]? with
  | none => true
  | some o => (o.after.toList.all fun e => !Region.binds .any e || decide (e.on < i)) &&
   (o.looksAt ops).all fun t => (List.range ops.size).all fun j => match (ops[j]?).bind (·.dst) with
    | some d => !(d == t) || bit (us.getD i 0) j || bit (us.getD j 0) i
    | none => true
theorem planB_ok {ops : Array Oper} {nt n : Nat} (h : As7 ops nt (ups ops n) = true) : Plan ops nt := by
 simp only [As7, lA6] at h
 obtain ⟨⟨⟨h1, ld⟩, h2⟩, h3⟩ := h
 have hall : ∀ (i : Nat) (o : Oper), ops[i]? = some o → (∀ d, o.dst = some d → d < nt) ∧ (∀ cs b, o.op ≠ .select cs b) ∧ (∀ c, o.op ≠ .defer c) := by
  intro i o ho
  have := lB0.1 h2 o (by simpa using Array.mem_of_getElem? ho)
  simp only [lA6] at this
  refine ⟨fun d hd => by simpa [Ak9, hd] using this.1, fun cs b e => by simp [e] at this, fun c e => by simp [e] at this⟩
 have lI : ∀ (i : Nat) (o : Oper), ops[i]? = some o → (∀ e ∈ o.after.toList, Region.binds .any e = true → e.on < i) ∧
   ∀ t ∈ o.looksAt ops, ∀ (j : Nat) (oj : Oper), ops[j]? = some oj → oj.dst = some t → Bef ops j i ∨ Bef ops i j := by
  intro i o ho
  have hi : i < ops.size := (lBs.1 ho).1
  have := lB0.1 h3 i (lAn.2 hi)
  simp only [ho, lA6] at this
  refine ⟨fun e he hb => ?_, fun t ht j oj hj hd => ?_⟩
  ·have := lB0.1 this.1 e he
   simpa [hb] using this
  ·have aN : j < ops.size := (lBs.1 hj).1
   have := lB0.1 (lB0.1 this.2 t ht) j (lAn.2 aN)
   simp only [hj, Option.bind_some, hd, beq_self_eq_true, lBj, lDv, lAq] at this
   exact this.imp (ups_ok n _ _) (ups_ok n _ _)
 have jX : ∀ i j, dep ops i j → i < j := by
  rintro i j ⟨o, ho, e, he, hb, rfl⟩
  exact (lI j o ho).1 e he hb
 have jv : ∀ i j, Bef ops i j → i < j := by
  intro i j hb
  induction hb with
  | one h => exact jX _ _ h
  | step _ hd ih => exact Nat.lt_trans ih (jX _ _ hd)
 refine ⟨?_, fun i hb => by have := jv i i hb; omega, oneDst_ok h1, fun i o d ho hd => (hall i o ho).1 d hd, fun i o ho => (hall i o ho).2, liveAll_ok ld⟩
 intro i j oi oj t hi hj hd ht
 exact (lI i oi hi).2 t ht j oj hj hd
def Be4 (g : Option (Nat × Bool)) (og : Oper) (D0 gi : Nat) : Bool :=
 match g with
 | none => true
 | some _ => decide (og.guard = g) && !bit D0 gi
def P0 (P : Program) (ops : Array Oper) (Q : List Nat) : Nat → Option (Nat × Bool) → Bool → Nat → Nat → Nat → Nat → Option (QL × Nat)
 | 0, _, _, _, _, _, _ => none
 | fuel + 1, g, must, D0, i, j, D =>
  if j ≤ i then some (.nil, D) else
  if bit D i = true then P0 P ops Q fuel g must D0 (i + 1) j D else
  (ops[i]?).bind fun o =>
  if o.guard = g then
   (As6 P o).bind fun r =>
   if (Lz o D && To Q r) = true then (P0 P ops Q fuel g must D0 (i + 1) j (bset D i)).bind fun q => some (.op i o.dst r q.1, q.2)
   else if must = true then none else P0 P ops Q fuel g must D0 (i + 1) j D
  else match o.guard with
   | none => none
   | some (gi, want) => (ops[gi]?).bind fun og => og.dst.bind fun s => (Kd ops s g i (j - i)).bind fun m => (ops[m]?).bind fun p => p.dst.bind fun d =>
     (W5 want s p.op).bind fun x => (cA x).bind fun last =>
     match (if bit D gi = true then P0 P ops Q fuel (some (gi, want)) true D i m D else none) with
     | some q =>
      if (Be4 g og D0 gi && decide (p.guard = g) && !bit q.2 m && Lz p q.2) = true then
       (P0 P ops Q fuel g must D0 (m + 1) j (bset q.2 m)).bind fun q' => some (.g s want q.1 m d last q'.1, q'.2)
      else none
     | none => if must = true then none else P0 P ops Q fuel g must D0 (m + 1) j D
theorem takeQ_ok {ops : Array Oper} {nt : Nat} {Q : List Nat} : ∀ {fuel : Nat} {g : Option (Nat × Bool)} {must : Bool} {D0 i j D : Nat} {q : QL × Nat}, P0 P ops Q fuel g must D0 i j D = some q → CmpQL P ops nt Q g D0 D q.1 q.2
 | 0, g, must, D0, i, j, D, q, h => by simp [P0] at h
 | fuel + 1, g, must, D0, i, j, D, q, h => by
  unfold P0 at h
  split at h
  ·cases h; exact .nil
  ·split at h
   ·exact takeQ_ok h
   ·rename_i hD
    simp only [lA3] at h
    obtain ⟨o, ho, h⟩ := h
    split at h
    ·rename_i hg
     simp only [lA3] at h
     obtain ⟨r, hr, h⟩ := h
     split at h
     ·rename_i hc
      simp only [lA6] at hc
      simp only [lA3] at h
      obtain ⟨q', oY, e⟩ := h
      cases e
      exact .op ho hg (by simpa using hD) (depsIn_ok ho hc.1) (comp_ok hr) hc.2 (takeQ_ok oY)
     ·split at h
      ·cases h
      ·exact takeQ_ok h
    ·split at h
     ·cases h
     ·rename_i gi want se
      simp only [lA3] at h
      obtain ⟨og, dA, s, hs, m, hm, p, hp, d, hd, x, hx, last, hl, h⟩ := h
      split at h
      ·rename_i q1 i5
       split at i5
       ·rename_i hgi
        split at h
        ·rename_i hc
         simp only [lA6, decide_eq_true_eq, lB8] at hc
         obtain ⟨⟨⟨h1, h2⟩, h3⟩, h4⟩ := hc
         simp only [lA3] at h
         obtain ⟨q', oY, e⟩ := h
         cases e
         refine .g dA hs hgi ?_ (takeQ_ok i5) hp h2 h3 (depsIn_ok hp h4) (pickOf_ok hx) hl hd (takeQ_ok oY)
         intro gV
         cases g with
         | none => simp at gV
         | some q => simpa [Be4] using h1
        ·cases h
       ·cases i5
      ·split at h
       ·cases h
       ·exact takeQ_ok h
def Be5 (P : Program) (Q : List Nat) (o : Oper) : Bool := match As6 P o with | some r => To Q r | none => false
def Be6 (P : Program) (ops : Array Oper) (Q : List Nat) (Γ : Gam) (D : Nat) : Option (Nat × Oper × Nat × Bool) :=
 (List.range ops.size).findSome? fun i => if bit D i = true then none else match ops[i]? with
  | some o => match o.guard with
   | some (gi, want) => if (Lz o D && bit D gi && (!Γ.contains (gi, some want) || Be5 P Q o)) = true then some (i, o, gi, want) else none
   | none => none
  | none => none
theorem nextG_ok {ops : Array Oper} {Q : List Nat} {Γ : Gam} {D : Nat} {i gi : Nat} {o : Oper} {want : Bool} (h : Be6 P ops Q Γ D = some (i, o, gi, want)) : ops[i]? = some o ∧ o.guard = some (gi, want) ∧ bit D i = false ∧ Lz o D = true ∧ bit D gi = true := by
 obtain ⟨j, _, h⟩ := List.exists_of_findSome?_eq_some h
 split at h
 ·cases h
 ·rename_i hD
  split at h
  ·rename_i o' ho
   split at h
   ·rename_i gi' want' hg
    split at h
    ·rename_i hc
     simp only [lA6] at hc
     cases h
     exact ⟨ho, hg, by simpa using hD, hc.1.1, hc.1.2⟩
    ·cases h
   ·cases h
  ·cases h
def Vy (Γ : Gam) (g : Option (Nat × Bool)) : Bool :=
 match g with
 | none => true
 | some p => Γ.contains (p.1, some p.2)
theorem guardIn_ok {Γ : Gam} {g : Option (Nat × Bool)} (h : Vy Γ g = true) : ∀ p, g = some p → (p.1, some p.2) ∈ Γ := by
 intro p e
 subst e
 simpa [Vy] using h
def mkT (P : Program) (ops : Array Oper) (Q : List Nat) (us : List Nat) : Nat → Gam → Option Nat → Nat → Option AT
 | 0, _, _, _ => none
 | fuel + 1, Γ, none, D => (P0 P ops Q (ops.size + 1) none false D 0 ops.size D).bind fun q =>
   if ((List.range ops.size).all fun i => bit q.2 i) = true then some (.q q.1 .fin) else
   match Be6 P ops Q Γ q.2 with
   | some (i, o, gi, want) => match Γ.find? fun p => p.1 == gi with
    | some (gj, x) => if gj = gi ∧ (gj, x) ∈ Γ then
      (if x = some want then (As6 P o).bind fun r => if To Q r = true then (mkT P ops Q us fuel Γ none (bset q.2 i)).bind fun t => some (.q q.1 (.q (.op i o.dst r .nil) t))
        else (mkT P ops Q us fuel Γ (some 0) q.2).bind fun t => some (.q q.1 t)
       else (mkT P ops Q us fuel (if o.dst.isSome = true then (i, none) :: Γ else Γ) none (bset q.2 i)).bind fun t => some (.q q.1 (.sk i o.dst t)))
      else none
    | none => (ops[gi]?).bind fun og => og.dst.bind fun s => (mkT P ops Q us fuel ((gi, some true) :: Γ) none q.2).bind fun y => (mkT P ops Q us fuel ((gi, some false) :: Γ) none q.2).bind fun n => some (.q q.1 (.br s y n))
   | none => (mkT P ops Q us fuel Γ (some 0) q.2).bind fun t => some (.q q.1 t)
 | fuel + 1, Γ, some i, D =>
   if ops.size ≤ i then some .no else
   if bit D i = true then mkT P ops Q us fuel Γ (some (i + 1)) D else
   (ops[i]?).bind fun o =>
   if Lz o D = true then
    if Vy Γ o.guard = true then (As6 P o).bind fun r => (mkT P ops Q us fuel Γ none (bset D i)).bind fun t => (mkT P ops Q us fuel Γ (some (i + 1)) D).bind fun more =>
     some (.s i o.dst r (Nat.land D (us.getD i 0) == D) t more) else none
   else mkT P ops Q us fuel Γ (some (i + 1)) D
theorem mkT_ok {ops : Array Oper} {nt n : Nat} {Q : List Nat} : ∀ {fuel : Nat} {Γ : Gam} {mode : Option Nat} {D : Nat} {t : AT}, mkT P ops Q (ups ops n) fuel Γ mode D = some t → CmpA P ops nt Q Γ mode D t
 | 0, Γ, mode, D, t, h => by simp [mkT] at h
 | fuel + 1, Γ, none, D, t, h => by
  simp only [mkT, lA3] at h
  obtain ⟨q, hq, h⟩ := h
  have dO : ∀ p : Nat × Bool, (none : Option (Nat × Bool)) = some p → (p.1, some p.2) ∈ Γ := fun p e => by cases e
  split at h
  ·rename_i hall
   cases h
   exact .q dO (takeQ_ok hq) (.fin fun i hi => lB0.1 hall i (lAn.2 hi))
  ·rename_i hall
   have hne : ∃ i, i < ops.size ∧ bit q.2 i = false := by
    have hall : ((List.range ops.size).all fun i => bit q.2 i) = false := by simpa using hall
    obtain ⟨i, hi, hb⟩ := lEh.1 hall
    exact ⟨i, lAn.1 hi, by simpa using hb⟩
   split at h
   ·rename_i i o gi want hn
    obtain ⟨ho, hg, hD, hdep, hgD⟩ := nextG_ok hn
    split at h
    ·rename_i gj x _
     split at h
     ·rename_i hc
      obtain ⟨rfl, aI⟩ := hc
      split at h
      ·rename_i hx
       subst hx
       simp only [lA3] at h
       obtain ⟨r, hr, h⟩ := h
       split at h
       ·rename_i sh
        simp only [lA3] at h
        obtain ⟨t', eO, e⟩ := h
        cases e
        refine .q dO (takeQ_ok hq) (.q (g := some (gj, want)) (fun p e => by cases e; exact aI) (.op ho hg hD (depsIn_ok ho hdep) (comp_ok hr) sh .nil) (mkT_ok eO))
       ·simp only [lA3] at h
        obtain ⟨t', eO, e⟩ := h
        cases e
        exact .q dO (takeQ_ok hq) (.alts hne (mkT_ok eO))
      ·rename_i hx
       simp only [lA3] at h
       obtain ⟨t', eO, e⟩ := h
       cases e
       refine .q dO (takeQ_ok hq) (.sk ho hg aI hx hD (depsIn_ok ho hdep) ?_ (mkT_ok eO))
       intro y hy
       split at hy
       ·rename_i hs
        rcases lBo.1 hy with e | hy
        ·exact .inr ⟨e, Option.isSome_iff_exists.1 hs⟩
        ·exact .inl hy
       ·exact .inl hy
     ·cases h
    ·simp only [lA3] at h
     obtain ⟨og, dA, s, hs, y, hy, n', jw, e⟩ := h
     cases e
     exact .q dO (takeQ_ok hq) (.br dA hs hgD (mkT_ok hy) (mkT_ok jw))
   ·simp only [lA3] at h
    obtain ⟨t', eO, e⟩ := h
    cases e
    exact .q dO (takeQ_ok hq) (.alts hne (mkT_ok eO))
 | fuel + 1, Γ, some i, D, t, h => by
  simp only [mkT] at h
  split at h
  ·rename_i hi; cases h; exact .no hi
  ·split at h
   ·rename_i hD; exact .pass (.inl hD) (mkT_ok h)
   ·rename_i hD
    simp only [lA3] at h
    obtain ⟨o, ho, h⟩ := h
    split at h
    ·split at h
     ·rename_i hg
      simp only [lA3] at h
      obtain ⟨r, hr, t', eO, more, hm, e⟩ := h
      cases e
      refine .s ho (guardIn_ok hg) (by simpa using hD) (comp_ok hr) ?_ (mkT_ok eO) (mkT_ok hm)
      intro hre j hj
      have e : Nat.land D ((ups ops n).getD i 0) = D := by simpa using hre
      refine ups_ok n _ _ ?_
      have : bit (Nat.land D ((ups ops n).getD i 0)) j = true := by rw [e]; exact hj
      have h2 : bit (D &&& ((ups ops n).getD i 0)) j = true := this
      rw [bit, Nat.testBit_and, lA6] at h2
      exact h2.2
     ·cases h
    ·rename_i hd
     exact .pass (.inr (Ab7 ho (by simpa using hd))) (mkT_ok h)
def H6 (P : Program) (nt : Nat) (V Q : List Nat) : Code → Option RCode
 | .skip => some .skip
 | .region _ ops false => if (Vw ops && Ab6 ops V) = true then (Vv P ops nt (ops.size + 1) none 0 0 ops.size).bind fun s => some (.reg s) else none
 | .region _ ops true => if (As7 ops nt (ups ops ops.size) && Ab6 ops V) = true then (mkT P ops Q (ups ops ops.size) ((ops.size + 2) * (ops.size + 2)) [] none 0).bind fun t => some (.any t) else none
 | .seq a b => (H6 P nt V Q a).bind fun a' => (H6 P nt V Q b).bind fun b' => some (.seq a' b')
 | .cond c a b => (cA c).bind fun c' => (H6 P nt V Q a).bind fun a' => (H6 P nt V Q b).bind fun b' => some (.cond c' a' b')
 | .block id c => (H6 P nt V Q c).bind fun c' => some (.block id c')
 | .loop c => (H6 P nt V Q c).bind fun c' => some (.loop c')
 | .exit id => some (.exit id)
 | .ret => some .ret
 | .rangeFunc f ps a b => (cA f).bind fun f' => (H6 P nt V Q a).bind fun a' => (H6 P nt V Q b).bind fun b' => if (ps.toList.all fun t => decide (t < nt)) = true then some (.rangeF f' ps.toList a' b') else none
 | _ => none
theorem compC_ok {nt : Nat} {V Q : List Nat} : ∀ {c : Code} {r : RCode}, H6 P nt V Q c = some r → CmpC P nt V c r := by
 intro c
 induction c with
 | skip => intro r h; cases h; exact .skip
 | region id ops draw =>
  intro r h
  cases draw with
  | true =>
   simp only [H6] at h
   split at h
   ·rename_i hc
    simp only [lA6] at hc
    simp only [lA3] at h
    obtain ⟨t, ht, e⟩ := h
    cases e
    exact .any (planB_ok hc.1) (mkT_ok ht) (guardV_ok hc.2)
   ·cases h
  | false =>
   simp only [H6] at h
   split at h
   ·rename_i hc
    simp only [lA6] at hc
    simp only [lA3] at h
    obtain ⟨s, hs, e⟩ := h
    cases e
    exact .reg (compS_ok hs) (oneDst_ok hc.1) (guardV_ok hc.2)
   ·cases h
 | seq a b iha ihb =>
  intro r h
  simp only [H6, lA3] at h
  obtain ⟨a', ha, b', hb, e⟩ := h
  cases e; exact .seq (iha ha) (ihb hb)
 | cond c a b iha ihb =>
  intro r h
  simp only [H6, lA3] at h
  obtain ⟨c', hc, a', ha, b', hb, e⟩ := h
  cases e; exact .cond hc (iha ha) (ihb hb)
 | block id c ih =>
  intro r h
  simp only [H6, lA3] at h
  obtain ⟨c', hc, e⟩ := h
  cases e; exact .block (ih hc)
 | loop c ih =>
  intro r h
  simp only [H6, lA3] at h
  obtain ⟨c', hc, e⟩ := h
  cases e; exact .loop (ih hc)
 | exit id => intro r h; cases h; exact .exit
 | ret => intro r h; cases h; exact .ret
 | rangeFunc f ps a b iha ihb =>
  intro r h
  simp only [H6, lA3] at h
  obtain ⟨f', hf, a', ha, b', hb, e⟩ := h
  split at e
  ·rename_i hps
   cases e; exact .rangeF hf (fun t ht => by simpa using lB0.1 hps t ht) (iha ha) (ihb hb)
  ·cases e
 | _ => intro r h; cases h
def As8 (P : Program) : ResultVar → Option RRes
 | .tmp t => some (.tmp t)
 | .cell t T => match Nv P T with
  | some true => (szP P T).bind fun sz => some (.cellA t sz)
  | some false => some (.cell1 t)
  | none => none
theorem compR_ok {x : ResultVar} {y : RRes} (h : As8 P x = some y) : CmpR P x y := by
 cases x with
 | tmp t => cases h; exact .tmp
 | cell t T =>
  simp only [As8] at h
  split at h
  ·rename_i ha
   simp only [lA3] at h
   obtain ⟨sz, hs, e⟩ := h
   cases e; exact .cellA ha hs
  ·rename_i ha; cases h; exact .cell1 ha
  ·cases h
def W6 (P : Program) : List ResultVar → Option (List RRes)
 | [] => some []
 | x :: l => (As8 P x).bind fun y => (W6 P l).bind fun m => some (y :: m)
theorem compRs_ok : ∀ {l : List ResultVar} {m : List RRes}, W6 P l = some m → CmpRs P l m
 | [], m, h => by cases h; exact .nil
 | x :: l, m, h => by
  simp only [W6, lA3] at h
  obtain ⟨y, hy, m', hm, e⟩ := h
  cases e; exact .cons (compR_ok hy) (compRs_ok hm)
structure RFun where
 nt : Nat
 V : List Nat
 body : RCode
 res : List RRes
def Ak (P : Program) (V Q : List Nat) (f : FuncId) : Option RFun :=
 if Aj8 P f = true then
  (P.funcs[f]?).bind fun fn => fn.body.bind fun c => (H6 P fn.ntmps V Q c).bind fun r => (W6 P fn.results.toList).bind fun res => some ⟨fn.ntmps, V, r, res⟩
 else none
def Cx.fn (P : Program) (f : FuncId) (nt : Nat) (w0 : World) (F : List Nat) (M0 : Aa) (Φ : Value → Aa → Own → Prop) : Cx P where
 b := { (default : Frame) with fn := f, kind := .normal, roundOf := none }
 T := fun cs m => ∃ e w' fr, (∃ v, e = Ending.returned v ∧ ∃ M' G', EV.St w0 F M0 M' G' w' ∧ Φ v M' G') ∧ Comes P m (lone fr cs w') e ∧ fr.fn = f ∧ fr.leaving P w' e
 back := by
  rintro cs m m' hs ⟨e, w', fr, h1, h2, h3, h4⟩
  exact ⟨e, w', fr, h1, Comes.of_steps (.one hs) h2, h3, h4⟩
 nt := nt
 ds := []
 w0 := w0
 F := F
 M0 := M0
def A9 : Nat → List Value → Env
 | _, [] => []
 | i, v :: l => (i, v) :: A9 (i + 1) l
theorem Al0 {l : List Value} : ∀ {i t : Nat} {v : Value}, get (A9 i l) t = some v → i ≤ t ∧ l[t - i]? = some v := by
 induction l with
 | nil => intro i t v h; simp [A9, get] at h
 | cons u l ih =>
  intro i t v h
  simp only [A9, get] at h
  split at h
  ·rename_i e; subst e; cases h; simp
  ·rename_i e
   obtain ⟨h1, h2⟩ := ih h
   refine ⟨by omega, ?_⟩
   have : t - i = (t - (i + 1)) + 1 := by omega
   rw [this]; simpa using h2
theorem Con.enter {f : FuncId} {V Q : List Nat} {R : RFun} (hR : Ak P V Q f = some R) {args : List Value} (aG : args.length ≤ R.nt) {M : Aa} {G : Own} {Φ : Value → Aa → Own → Prop}
  (h : ∀ w0, EV (Cx.fn P f R.nt w0 (G.map (·.1)) M Φ) R.V [.code R.body] (A9 0 args) M G) : Con P f args.toArray M G Φ := by
 unfold Ak at hR
 split at hR
 ·rename_i hgo
  simp only [lA3] at hR
  obtain ⟨fn, cC, c, hc, r, hr, res, aF, e⟩ := hR
  cases e
  refine ⟨hgo, ?_⟩
  intro w hs cs
  have hE := h w [.code c] (.cons (.code (compC_ok hr)) .nil) { tmps := args.toArray ++ Array.replicate (fn.ntmps - args.toArray.size) undef, defers := [] } w
  have dU : E1 fn.ntmps (A9 0 args) { tmps := args.toArray ++ Array.replicate (fn.ntmps - args.toArray.size) undef, defers := [] } := by
   refine ⟨?_, ?_⟩
   ·simp only [Array.size_append, Array.size_replicate, lE0]
    dsimp only at aG
    omega
   ·intro t v ht
    obtain ⟨_, h2⟩ := Al0 ht
    simp only [Nat.sub_zero] at h2
    obtain ⟨aS, _⟩ := lCt.1 h2
    rw [lDq (by simpa using aS)]
    simpa using h2
  have := hE dU rfl hs cs
  have jx : Frame.enter P f args.toArray .normal = (Cx.fn P f fn.ntmps w (G.map (·.1)) M Φ).b.atR { tmps := args.toArray ++ Array.replicate (fn.ntmps - args.toArray.size) undef, defers := [] } [.code c] := by
   simp only [Frame.enter, Frame.atR, Cx.fn, cC, lC6, lAr, Option.bind_some, hc]
  rw [jx]
  exact this
 ·cases hR
section
variable {f : FuncId} {w0 : World} {F : List Nat} {M0 M : Aa} {G : Own} {Φ : Value → Aa → Own → Prop} {V Q : List Nat} {k : List RItem} {ρ : Env}
def Bd8 (R : RFun) (ρ : Env) (M : Aa) (G : Own) (Φ : Value → Aa → Own → Prop) : Prop := Aj5 ρ (M.add G) R.res fun vs => Φ (Be3 vs) M G
theorem EV.ret {R : RFun} (hR : Ak P V Q f = some R) (h : Bd8 R ρ M G Φ) : EV (Cx.fn P f R.nt w0 F M0 Φ) R.V (.code .ret :: k) ρ M G := by
 unfold Ak at hR
 split at hR
 ·rename_i hgo
  simp only [lA3] at hR
  obtain ⟨fn, cC, c, hc, r, hr, res, aF, e⟩ := hR
  cases e
  intro k' hk a w hf hd hs cs
  cases hk with
  | cons hx hk => cases hx with
   | code hc => cases hc with
    | ret =>
     obtain ⟨v, hv, hΦ⟩ := Hl (P := P) (fn := fn) (Q := fun v => Φ v M G) hf (fun b o hb => hs.agreeAdd hb) (compRs_ok aF) h
     refine ⟨.returned v, w, { (Cx.fn P f fn.ntmps w0 F M0 Φ).b.atR a (.code .ret :: _) with mode := .returning }, ⟨v, rfl, M, G, hs, hΦ⟩, .one (stepR_ret rfl), rfl, ?_⟩
     exact ⟨rfl, hd, rfl, fn, cC, hv⟩
 ·cases hR
theorem EV.done {R : RFun} (hR : Ak P V Q f = some R) (h : Bd8 R ρ M G Φ) : EV (Cx.fn P f R.nt w0 F M0 Φ) R.V [] ρ M G := by
 unfold Ak at hR
 split at hR
 ·rename_i hgo
  simp only [lA3] at hR
  obtain ⟨fn, cC, c, hc, r, hr, res, aF, e⟩ := hR
  cases e
  intro k' hk a w hf hd hs cs
  cases hk with
  | nil =>
   obtain ⟨v, hv, hΦ⟩ := Hl (P := P) (fn := fn) (Q := fun v => Φ v M G) hf (fun b o hb => hs.agreeAdd hb) (compRs_ok aF) h
   refine ⟨.returned v, w, { (Cx.fn P f fn.ntmps w0 F M0 Φ).b.atR a [] with mode := .returning }, ⟨v, rfl, M, G, hs, hΦ⟩, .one (stepR_end rfl), rfl, ?_⟩
   exact ⟨rfl, hd, rfl, fn, cC, hv⟩
 ·cases hR
end
theorem Au (i : Nat) : get [] i = none := rfl
theorem Al (j : Nat) (v : Value) (ρ : Env) (i : Nat) : get ((j, v) :: ρ) i = if i = j then some v else get ρ i := rfl
theorem Aq (ρ : Env) : Vf [] ρ = [] := rfl
theorem An (i : Nat) (V : List Nat) (ρ : Env) : Vf (i :: V) ρ = match get ρ i with | some v => (i, v) :: Vf V ρ | none => Vf V ρ := rfl
attribute [push_cast] W4 qW opW Cw Aj9 ev evs evp evo Au Al Aq An putE A9 Be0 Cz6 shV Cz7 Vk Cx1 sl? Py I6 Ak0 Cx2 fn? Pz H5 eqL Qi Value.cells Ak1 Ft Z6 Et Aj5 Be3 Bd8
 lB5 lC7 lE5 lEr lEp lDc lE6 lBr lAg lAl List.take_nil List.drop_nil lE4 List.replicate_zero lD9 lF7
attribute [push_cast] List.set_cons_zero List.set_cons_succ or_self or_false false_or and_self true_and and_true lBg lAw lDd Bool.false_xor Bool.true_xor if_true if_false lB2 lBd Int.toNat_zero ne_eq not_true_eq_false not_false_eq_true Value.oneCell' lE0 lAc lAa Array.append_empty lFi lA5 exists_eq_left exists_and_left lA8 Nat.sub_zero
variable {P : Program}
theorem w64 {x : Int} (h1 : -9223372036854775808 ≤ x) (h2 : x < 9223372036854775808) : IntKind.i64.wrap x = x := by
 have e : (2 : Int) ^ IntKind.i64.bits = 18446744073709551616 := rfl
 have e2 : (2 : Int) ^ (IntKind.i64.bits - 1) = 9223372036854775808 := rfl
 have e3 : IntKind.i64.signed = true := rfl
 simp only [IntKind.wrap, e, e2, e3, lC1, decide_eq_true_eq]
 split <;> omega
theorem Cb : ok1 [] ↔ True := by simp [ok1]
theorem Bp (v : Value) (l : List Value) : ok1 (v :: l) ↔ v.oneCell' = true ∧ ok1 l := by simp [ok1]
theorem Yn {ρ : Env} {t : Nat} {v : Value} (h : get ρ t = some v) : (t, v) ∈ ρ := by
 induction ρ with
 | nil => simp [get] at h
 | cons p ρ ih =>
  obtain ⟨j, u⟩ := p
  simp only [get] at h
  split at h
  ·rename_i e; subst e; cases h; simp
  ·exact lB6 _ (ih h)
section
variable {C : Cx P} {V : List Nat} {k : List RItem} {ρ ρ' : Env} {M : Aa} {G G' : Own}
theorem JA (h : EV C V k ρ' M G') (hρ : ∀ p ∈ ρ', get ρ p.1 = some p.2) (hG : G'.Sublist G) : EV C V k ρ M G :=
 h.weaken (fun t v ht => hρ (t, v) (Yn ht)) hG
theorem Ao4 {b off n : Nat} {T : TypeId} {cs : List Value} (i : Nat) (h : G[i]? = some (b, Cl T cs)) (hl : off + n ≤ cs.length) : rd (M.add G) b off n ((cs.drop off).take n) :=
 ⟨cs.toArray, T, (0, 0), .inr (lC9 h), by simpa using hl, by simp⟩
theorem Ap {b off n : Nat} {T : TypeId} {cs out : List Value} (i : Nat) (h : G[i]? = some (b, Cl T cs)) (e : (cs.drop off).take n = out) (hl : off + n ≤ cs.length) : rd (M.add G) b off n out :=
 e ▸ Ao4 i h hl
theorem As9 {b off n : Nat} {cs : List Value} (h : rd M b off n cs) : rd (M.add G) b off n cs := h.mono (JB _ _)
theorem Vz {sz n : Nat} {a : Option Addr} {cs : List Value} (h : rdS M sz a n cs) : rdS (M.add G) sz a n cs :=
 h.imp id fun ⟨b, off, e, h⟩ => ⟨b, off, e, As9 h⟩
theorem rdS.mono {H H' : Aa} (h : H.le H') {sz n : Nat} {a : Option Addr} {cs : List Value} (k : rdS H sz a n cs) : rdS H' sz a n cs :=
 k.imp id fun ⟨b, off, e, k⟩ => ⟨b, off, e, k.mono h⟩
theorem rd.part {H : Aa} {b off n i m : Nat} {cs : List Value} (h : rd H b off n cs) (hm : i + m ≤ n) : rd H b (off + i) m ((cs.drop i).take m) := by
 obtain ⟨c, T, fz, h1, h2, h3⟩ := h
 refine ⟨c, T, fz, h1, by omega, ?_⟩
 rw [h3, List.drop_take, lEn, lDb, lBx (by omega)]
end
def Sl {α : Type} (H : Aa) (sz : Nat) (enc : α → List Value) (v : Value) (xs : List α) : Prop :=
 ∃ a c, v = .slice a xs.length c ∧ rdS H sz a xs.length (xs.flatMap enc)
theorem L0 {α : Type} {sz : Nat} {enc : α → List Value} (cT : ∀ x, (enc x).length = sz) : ∀ {xs : List α} {i : Nat} (h : i < xs.length), ((xs.flatMap enc).drop (i * sz)).take sz = enc xs[i]
 | x :: xs, 0, _ => by simp [lC4, ← cT x]
 | x :: xs, i + 1, h => by
  have h' : i < xs.length := by simpa using h
  have := L0 cT h'
  simp only [lC4, lAs]
  rw [← this, lF8, lCs (by rw [cT, lEe]; omega), lAg, cT, lEe, lEs]
theorem F9 {α : Type} {sz : Nat} {enc : α → List Value} (cT : ∀ x, (enc x).length = sz) : ∀ (xs : List α), (xs.flatMap enc).length = xs.length * sz
 | [] => by simp
 | x :: xs => by simp [lC4, F9 cT xs, cT, lEe, lE3]
theorem Sl.at {α : Type} {H : Aa} {sz : Nat} {enc : α → List Value} (cT : ∀ x, (enc x).length = sz) (hpos : 0 < sz) {a : Option Addr} {xs : List α} (h : rdS H sz a xs.length (xs.flatMap enc)) (hn : 0 < xs.length) :
  ∃ b off, a = some ⟨b, off, none⟩ ∧ ∀ i (hi : i < xs.length), rd H b (off + i * sz) sz (enc xs[i]) := by
 rcases h with ⟨h0, _⟩ | ⟨b, off, e, h⟩
 ·exfalso
  rcases lFg.1 h0 with h0 | h0
  ·rw [h0] at hn; exact absurd hn (by simp)
  ·omega
 ·refine ⟨b, off, e, fun i hi => ?_⟩
  have := h.part (i := i * sz) (m := sz) (by
   have : (i + 1) * sz ≤ xs.length * sz := lBu _ hi
   rw [lEe] at this; exact this)
  rwa [L0 cT hi] at this
theorem Sl.mono {α : Type} {H H' : Aa} (hh : H.le H') {sz : Nat} {enc : α → List Value} {v : Value} {xs : List α} (h : Sl H sz enc v xs) : Sl H' sz enc v xs :=
 let ⟨a, c, e, h⟩ := h; ⟨a, c, e, h.mono hh⟩
def Ee {α : Type} (H : Aa) (sz : Nat) (enc : α → List Value) (v : Value) (xss : List (List α)) : Prop :=
 ∃ a c vs, v = .slice a xss.length c ∧ vs.length = xss.length ∧ rdS H 1 a xss.length vs ∧ ∀ i (h : i < vs.length) (h' : i < xss.length), Sl H sz enc vs[i] xss[i]
theorem Ee.mono {α : Type} {H H' : Aa} (hh : H.le H') {sz : Nat} {enc : α → List Value} {v : Value} {xss : List (List α)} (h : Ee H sz enc v xss) : Ee H' sz enc v xss :=
 let ⟨a, c, vs, e, hl, h, k⟩ := h; ⟨a, c, vs, e, hl, h.mono hh, fun i h h' => (k i h h').mono hh⟩
theorem Jf (vs : List Value) : vs.flatMap (fun v => [v]) = vs := by simp [List.flatMap_singleton']
theorem Ee.at {α : Type} {H : Aa} {sz : Nat} {enc : α → List Value} {a : Option Addr} {vs : List Value} {xss : List (List α)} (h : rdS H 1 a xss.length vs) (hl : vs.length = xss.length) (hk : ∀ i (h : i < vs.length) (h' : i < xss.length), Sl H sz enc vs[i] xss[i]) (hn : 0 < xss.length) :
  ∃ b off, a = some ⟨b, off, none⟩ ∧ ∀ i (hi : i < xss.length), ∃ a' c', rd H b (off + i * 1) 1 [.slice a' xss[i].length c'] ∧ rdS H sz a' xss[i].length (xss[i].flatMap enc) := by
 have h1 : rdS H 1 a vs.length (vs.flatMap fun v => [v]) := by rw [Jf, hl]; exact h
 obtain ⟨b, off, e, hr⟩ := Sl.at (sz := 1) (enc := fun v => [v]) (fun _ => rfl) (by omega) h1 (by omega)
 refine ⟨b, off, e, fun i hi => ?_⟩
 have be := hr i (by omega)
 obtain ⟨a', c', e', h'⟩ := hk i (by omega) hi
 rw [e'] at be
 exact ⟨a', c', be, h'⟩
attribute [push_cast] Cb Bp
theorem Be7 {M : Aa} {G : Own} {b off n : Nat} {T : TypeId} {cs : List Value} (h : (b, Cl T cs) ∈ G) (hl : off + n ≤ cs.length) : rd (M.add G) b off n ((cs.drop off).take n) := by
 obtain ⟨i, hi⟩ := List.mem_iff_getElem?.1 h
 exact Ao4 i hi hl
theorem B3 {M : Aa} {G : Own} {b off n : Nat} {T : TypeId} {cs out : List Value} (h : (b, Cl T cs) ∈ G) (e : (cs.drop off).take n = out) (hl : off + n ≤ cs.length) : rd (M.add G) b off n out := e ▸ Be7 h hl
theorem Ew {M : Aa} {G : Own} {sz n : Nat} {T : TypeId} {ov : Vec} {xs : List Value} (ae : Eo sz ov n xs) (hM : ∀ p ∈ osg T ov xs, p ∈ G) : rdS (M.add G) sz (oad ov) n xs := by
 cases ov with
 | none =>
  obtain ⟨rfl, rfl⟩ := ae
  exact .inl ⟨by simp, rfl⟩
 | some p =>
  obtain ⟨b, cap, sp⟩ := p
  obtain ⟨h1, h2, h3, h4⟩ := ae
  refine .inr ⟨b, 0, rfl, (xs ++ sp).toArray, T, (0, 0), .inr (hM _ (by simp [osg])), ?_, ?_⟩
  ·simp at h2 ⊢; omega
  ·simp [← h1]
def cat {α : Type} : List (List α) → List α
 | [] => []
 | [x] => x
 | x :: y :: l => x ++ cat (y :: l)
theorem W7 {α : Type} (x : List α) : ∀ l : List (List α), cat (x :: l) = x ++ cat l
 | [] => by simp [cat]
 | _ :: _ => rfl
theorem B4 {α : Type} : ∀ (l : List (List α)) (i : Nat) (h : i < l.length), (cat l).Perm (l[i] ++ cat (l.eraseIdx i))
 | x :: l, 0, _ => by simp [W7]
 | x :: l, i + 1, h => by
  have := B4 l i (by simpa using h)
  simp only [W7, lAs, lB7]
  refine (lEf x this).trans ?_
  rw [← lAc, ← lAc]
  exact List.Perm.append_right _ lBq
theorem C5 {α : Type} : cat ([] : List (List α)) = [] := rfl
theorem C6 {α : Type} (x : List α) : cat [x] = x := rfl
theorem C7 {α : Type} (x y : List α) (l : List (List α)) : cat (x :: y :: l) = x ++ cat (y :: l) := rfl
theorem JT {c want : Bool} {A : (Bool → Prop) → Prop} {K : Bool → Prop} (e : Bool) (h : c = want → A fun u => u = e) (hk : K (if want then c && e else c || e)) : R5 c want A K := ⟨e, h, hk⟩
theorem A5.intro {c want : Bool} {M : Aa} {G : Own} {A : (Bool → Aa → Own → Prop) → Prop} {K : Bool → Aa → Own → Prop} (h : c = want → A K) (h2 : c ≠ want → K c M G) : A5 c want M G A K := ⟨h, h2⟩
theorem Ay {G G' : Own} (h : G.Sublist G') : ∀ p, p ∈ G → p ∈ G' := fun _ hp => h.subset hp
theorem Ab8 {ρ : Env} {t : Nat} {x y : Int} (h : get ρ t = some (.int .i64 (IntKind.i64.wrap x))) (e : x = y) (h1 : -9223372036854775808 ≤ y) (h2 : y < 9223372036854775808) : get ρ t = some (.int .i64 y) := by
 subst e; rw [h, w64 h1 h2]
class At (G : Own) (b : Nat) (T : outParam TypeId) (cs : outParam (List Value)) : Prop where
 mem : (b, Cl T cs) ∈ G
instance At.here {G : Own} {b : Nat} {T : TypeId} {cs : List Value} : At ((b, Cl T cs) :: G) b T cs := ⟨lAz ..⟩
instance (priority := low) At.there {G : Own} {p : Nat × Obj} {b : Nat} {T : TypeId} {cs : List Value} [h : At G b T cs] : At (p :: G) b T cs := ⟨lB6 _ h.mem⟩
class Split (G : Own) (b : Nat) (T : outParam TypeId) (cs : outParam (List Value)) (Ga Gb : outParam Own) : Prop where
 eq : G = Ga ++ (b, Cl T cs) :: Gb
instance Split.here {G : Own} {b : Nat} {T : TypeId} {cs : List Value} : Split ((b, Cl T cs) :: G) b T cs [] G := ⟨rfl⟩
instance (priority := low) Split.there {G : Own} {p : Nat × Obj} {b : Nat} {T : TypeId} {cs : List Value} {Ga Gb : Own} [h : Split G b T cs Ga Gb] : Split (p :: G) b T cs (p :: Ga) Gb := ⟨by rw [h.eq]; rfl⟩
theorem xr {M : Aa} {G : Own} {b off n : Nat} {T : TypeId} {cs out : List Value} {K : List Value → Prop} [h : At G b T cs] (e : (cs.drop off).take n = out) (hl : off + n ≤ cs.length) (k : K out) : ∃ cs, rd (M.add G) b off n cs ∧ K cs := ⟨out, B3 h.mem e hl, k⟩
theorem xi {M : Aa} {G : Own} {b off : Nat} {T : TypeId} {cs : List Value} {α : Type} {f : α → Value} {x : α} {K : α → Prop} [h : At G b T cs] (e : (cs.drop off).take 1 = [f x]) (hl : off + 1 ≤ cs.length) (k : K x) : ∃ n, rd (M.add G) b off 1 [f n] ∧ K n := ⟨x, B3 h.mem e hl, k⟩
theorem xs {M : Aa} {G : Own} {b off : Nat} {T : TypeId} {cs : List Value} {a : Option Addr} {n c : Nat} {K : Option Addr → Nat → Nat → Prop} [h : At G b T cs] (e : (cs.drop off).take 1 = [.slice a n c]) (hl : off + 1 ≤ cs.length) (k : K a n c) : ∃ a n c, rd (M.add G) b off 1 [.slice a n c] ∧ K a n c := ⟨a, n, c, B3 h.mem e hl, k⟩
theorem xw {G Ga Gb : Own} {b : Nat} {T : TypeId} {cs : List Value} {K : TypeId → List Value → Own → Own → Prop} [h : Split G b T cs Ga Gb] (k : K T cs Ga Gb) : ∃ T cs Ga Gb, G = Ga ++ (b, Cl T cs) :: Gb ∧ K T cs Ga Gb := ⟨T, cs, Ga, Gb, h.eq, k⟩
theorem nx {A B : Prop} (h : B) (e : A = B := by simp only [wpS, wpA, J2, push_cast, lBd, reduceIte, Nat.reduceEqDiff, reduceCtorEq, Nat.reduceAdd, Nat.reduceSub, Nat.reduceMul, Int.reduceToNat, Nat.reduceLeDiff]; exact rfl) : A := Eq.mpr e h
theorem nz {A B : Prop} (h : B) (e : A = B := by simp only [push_cast, lBd, reduceIte, Nat.reduceEqDiff, reduceCtorEq, Nat.reduceAdd, Nat.reduceSub, Nat.reduceMul, Int.reduceToNat, Nat.reduceLeDiff]; exact rfl) : A := Eq.mpr e h
theorem Ai {A B : Prop} (h : A) (e : A → False := by intro h; first | exact h | exact h True.intro | omega | (simp only [not_true_eq_false, false_or, or_false] at h; omega)) : B := (e h).elim
theorem EV.condX {C : Cx P} {V : List Nat} {k : List RItem} {ρ : Env} {M : Aa} {G : Own} {c : A} {b : Bool} {x y : RCode} {p q : Prop} (hc : ev ρ c = some (.bool b)) (h1 : p → EV C V (.code x :: k) ρ M G) (h2 : q → EV C V (.code y :: k) ρ M G)
  (e1 : (b = true) = p := by first | (simp only [reduceCtorEq, reduceIte, if_true, if_false, lB8, lCd, decide_eq_true_eq, decide_eq_false_iff_not, lA6, lAq, lBm, lBn, false_and, and_false, true_and, and_true, false_or, or_false, true_or, or_true]; exact rfl) | exact rfl)
  (e2 : (b = false) = q := by first | (simp only [reduceCtorEq, reduceIte, if_true, if_false, lB8, lCd, decide_eq_true_eq, decide_eq_false_iff_not, lA6, lAq, lBm, lBn, false_and, and_false, true_and, and_true, false_or, or_false, true_or, or_true]; exact rfl) | exact rfl) : EV C V (.code (.cond c x y) :: k) ρ M G :=
 EV.cond hc (fun h => h1 (e1 ▸ h)) (fun h => h2 (e2 ▸ h))
theorem xrA {M : Aa} {G : Own} {b off n : Nat} {T : TypeId} {cs out : List Value} {K : List Value → Prop} [h : At G b T cs] (e : (cs.drop off).take n = out) (k : K out) (hl : off + n ≤ cs.length := by simp only [lB5, lC7]; omega) : ∃ cs, rd (M.add G) b off n cs ∧ K cs := xr e hl k
theorem xiA {M : Aa} {G : Own} {b off : Nat} {T : TypeId} {cs : List Value} {α : Type} {f : α → Value} {x : α} {K : α → Prop} [h : At G b T cs] (e : (cs.drop off).take 1 = [f x]) (k : K x) (hl : off + 1 ≤ cs.length := by simp only [lB5, lC7]; omega) : ∃ n, rd (M.add G) b off 1 [f n] ∧ K n := xi e hl k
theorem xsA {M : Aa} {G : Own} {b off : Nat} {T : TypeId} {cs : List Value} {a : Option Addr} {n c : Nat} {K : Option Addr → Nat → Nat → Prop} [h : At G b T cs] (e : (cs.drop off).take 1 = [.slice a n c]) (k : K a n c) (hl : off + 1 ≤ cs.length := by simp only [lB5, lC7]; omega) : ∃ a n c, rd (M.add G) b off 1 [.slice a n c] ∧ K a n c := xs e hl k
def Qq (A B : Prop) : Prop := A = B
theorem qqr {A : Prop} : Qq A A := rfl
theorem rg {P : Program} {C : Cx P} {V : List Nat} {k : List RItem} {ρ : Env} {M : Aa} {G : Own} {sts : Sts} {B : Prop} (h : B) (e : Qq (wpS C sts (Vf V ρ) M G (fun ρ' M' G' => EV C V k ρ' M' G')) B := by (conv => (arg 1; arg 2; whnf)); simp only [wpS, wpA, J2, push_cast, lBd, reduceIte, Nat.reduceEqDiff, reduceCtorEq, Nat.reduceAdd, Nat.reduceSub, Nat.reduceMul, Int.reduceToNat, Nat.reduceLeDiff]; exact qqr) : EV C V (.code (.reg sts) :: k) ρ M G := EV.reg (Eq.mpr e h)
theorem rt {P : Program} {f : Nat} {Q : List Nat} {w0 : World} {F : List Nat} {M0 : Aa} {k : List RItem} {ρ : Env} {M : Aa} {G : Own} {Φ : Value → Aa → Own → Prop} {R : RFun} {B : Prop} {V : List Nat} (hR : Ak P V Q f = some R) (h : B) (e : Qq (Bd8 R ρ M G Φ) B := by (conv => (arg 1; arg 1; whnf)); simp only [wpS, wpA, J2, push_cast, lBd, reduceIte, Nat.reduceEqDiff, reduceCtorEq, Nat.reduceAdd, Nat.reduceSub, Nat.reduceMul, Int.reduceToNat, Nat.reduceLeDiff]; exact qqr) : EV (Cx.fn P f R.nt w0 F M0 Φ) R.V (.code .ret :: k) ρ M G := EV.ret hR (Eq.mpr e h)
theorem cX {P : Program} {C : Cx P} {V : List Nat} {k : List RItem} {ρ : Env} {M : Aa} {G : Own} {c : A} {b : Bool} {x y : RCode} {p q : Prop} (h1 : p → EV C V (.code x :: k) ρ M G) (h2 : q → EV C V (.code y :: k) ρ M G) (hc : ev ρ c = some (.bool b) := by rfl)
 (e1 : (b = true) = p := by first | (simp only [reduceCtorEq, reduceIte, if_true, if_false, lB8, lCd, decide_eq_true_eq, decide_eq_false_iff_not, lA6, lAq, lBm, lBn, false_and, and_false, true_and, and_true, false_or, or_false, true_or, or_true]; exact rfl) | exact rfl)
 (e2 : (b = false) = q := by first | (simp only [reduceCtorEq, reduceIte, if_true, if_false, lB8, lCd, decide_eq_true_eq, decide_eq_false_iff_not, lA6, lAq, lBm, lBn, false_and, and_false, true_and, and_true, false_or, or_false, true_or, or_true]; exact rfl) | exact rfl) : EV C V (.code (.cond c x y) :: k) ρ M G :=
 EV.cond hc (fun h => h1 (e1 ▸ h)) (fun h => h2 (e2 ▸ h))
theorem xm {α : Type} {M : Aa} {G : Own} {b o m : Nat} {f : α → List Value} {x : α} {K : α → Prop} (k : K x) (h : rd M b o m (f x) := by assumption) : ∃ n, rd (M.add G) b o m (f n) ∧ K n := ⟨x, As9 h, k⟩
theorem xn {M : Aa} {G : Own} {b o m n c : Nat} {a : Option Addr} {K : Option Addr → Nat → Nat → Prop} (k : K a n c) (h : rd M b o m [.slice a n c] := by assumption) : ∃ a n c, rd (M.add G) b o m [.slice a n c] ∧ K a n c := ⟨a, n, c, As9 h, k⟩
attribute [push_cast] lBd
theorem eE {P : Prop} (h : P := by (repeat' first | (refine lBp.2 (lAd ?_ ?_)) | (intro _ ba; cases ba; done) | rfl | (refine Ab8 rfl (by first | rfl | (push_cast; first | rfl | omega)) (by omega) (by omega); done))) : P := h
theorem ZF {p q : Prop} (h : q) (k : p := by omega) : p ∧ q := ⟨k, h⟩
theorem eS {P : Prop} (h : P := by (repeat' first | exact lA0 _ | exact lAh _ | exact lAj _ _ | refine lAf _ ?_ | refine lAo ?_ _ | refine lAb ?_ | refine lAp _ ?_)) : P := h
section
variable {P : Program}
def stp : Nat → List RItem → List RItem
 | 0, k => k
 | n+1, .code (.seq a b) :: k => stp n (.code a :: .code b :: k)
 | n+1, .code .skip :: k => stp n k
 | n+1, .code (.block i c) :: k => stp n (.code c :: .inBlock i :: k)
 | n+1, .inBlock _ :: k => stp n k
 | n+1, .code (.exit i) :: k => match Nz i k with | some j => stp n j | none => .code (.exit i) :: k
 | _+1, k => k
def stn : Nat → List RItem → List RItem
 | 0, k => k
 | n+1, .code .skip :: k => stn n k
 | n+1, .code (.block i c) :: k => stn n (.code c :: .inBlock i :: k)
 | n+1, .inBlock _ :: k => stn n k
 | n+1, .code (.exit i) :: k => match Nz i k with | some j => stn n j | none => .code (.exit i) :: k
 | _+1, k => k
def stB : Bool → List RItem → Bool
 | s, .code (.seq _ _) :: _ => s
 | _, .code .skip :: _ => true
 | _, .code (.block _ _) :: _ => true
 | _, .inBlock _ :: _ => true
 | _, .code (.exit _) :: _ => true
 | _, _ => false
theorem stp_ok {C : Cx P} {V : List Nat} {ρ : Env} {M : Aa} {G : Own} : ∀ n k, EV C V (stp n k) ρ M G → EV C V k ρ M G := by
 intro n
 induction n with
 | zero => exact fun k h => h
 | succ n ih =>
 intro k h
 unfold stp at h
 split at h
 ·rename_i e; cases e
 ·rename_i e; cases e; exact EV.seq (ih _ h)
 ·rename_i e; cases e; exact EV.skip (ih _ h)
 ·rename_i e; cases e; exact EV.block (ih _ h)
 ·rename_i e; cases e; exact EV.inBlock (ih _ h)
 ·rename_i e; cases e
  split at h
  ·rename_i e; exact EV.exit e (ih _ h)
  ·exact h
 ·exact h
theorem stn_ok {C : Cx P} {V : List Nat} {ρ : Env} {M : Aa} {G : Own} : ∀ n k, EV C V (stn n k) ρ M G → EV C V k ρ M G := by
 intro n
 induction n with
 | zero => exact fun k h => h
 | succ n ih =>
 intro k h
 unfold stn at h
 split at h
 ·rename_i e; cases e
 ·rename_i e; cases e; exact EV.skip (ih _ h)
 ·rename_i e; cases e; exact EV.block (ih _ h)
 ·rename_i e; cases e; exact EV.inBlock (ih _ h)
 ·rename_i e; cases e
  split at h
  ·rename_i e; exact EV.exit e (ih _ h)
  ·exact h
 ·exact h
def stK : List RItem → Bool
 | [] => true
 | _ :: _ => true
theorem st {C : Cx P} {V : List Nat} {k k' : List RItem} {ρ : Env} {M : Aa} {G : Own} (h : EV C V k' ρ M G) (_ : stB true k = true := by exact rfl) (e : ∃ n, stp n k = k' ∧ (n = 1 ∨ stK k' = true) := by first | (refine ⟨99, ?_, .inr ?_⟩; (conv => (lhs; whnf)); exact rfl) | (refine ⟨1, ?_, .inl rfl⟩; (conv => (lhs; whnf)))) : EV C V k ρ M G := by
 obtain ⟨n, rfl, _⟩ := e
 exact stp_ok n k h
theorem su {C : Cx P} {V : List Nat} {k k' : List RItem} {ρ : Env} {M : Aa} {G : Own} (h : EV C V k' ρ M G) (_ : stB false k = true := by exact rfl) (e : ∃ n, stn n k = k' ∧ (n = 1 ∨ stK k' = true) := by first | (refine ⟨99, ?_, .inr ?_⟩; (conv => (lhs; whnf)); exact rfl) | (refine ⟨1, ?_, .inl rfl⟩; (conv => (lhs; whnf)))) : EV C V k ρ M G := by
 obtain ⟨n, rfl, _⟩ := e
 exact stn_ok n k h
end
open Go.Proofs

abbrev zA (d : Nat) (r : ROp) (k : Sts) : Sts := .op (some d) r k
abbrev zB (d n : Nat) (k : Sts) : Sts := .op (some d) (.mv (.t n)) k
abbrev zC (i d : Nat) (r : ROp) (k : QL) : QL := .op i (some d) r k
abbrev zD (i d n : Nat) (k : QL) : QL := .op i (some d) (.mv (.t n)) k
abbrev zE (i d : Nat) (r : ROp) (re : Bool) (k m : AT) : AT := .s i (some d) r re k m
abbrev zF (k : AT) : AT := .q .nil k
abbrev zG (d : Nat) (n : Int) (k : Sts) : Sts := .op (some d) (.mv (.c (.int .i64 n))) k
abbrev zH (k n d : Nat) : ROp := .iaddrS k (.t n) (.t d)
abbrev zI (k n : Nat) : ROp := .faddr k (.t n)
abbrev zJ (n : Nat) : ROp := .loadI .i64 (.t n)
abbrev zK (n : Nat) : ROp := .loadS (.t n)
abbrev zL (i d : Nat) (k : AT) : AT := .sk i (some d) k
abbrev zM (n : Nat) : ROp := .len (.t n)
abbrev zN (n : Nat) : A := .c (.int .i64 n)

abbrev Zn : Value := .slice none 0 0
abbrev Zi : Value := .int .i64 0
abbrev Zf : Value := .bool false
abbrev Zb (o : BinOp) (a b : Nat) : ROp := .bin o (.t a) (.t b)
abbrev Zc (o : BinOp) (a : Nat) (n : Int) : ROp := .bin o (.t a) (.c (.int .i64 n))
abbrev Z1 (f a : Nat) : ROp := .call f [.t a]
abbrev Z2 (f a b : Nat) : ROp := .call f [.t a, .t b]
abbrev Zk (a : Nat) : ROp := .nilck (.t a)
abbrev Zt (a : Nat) : ROp := .notb (.t a)
abbrev Zo (k a : Nat) : ROp := .loadA k (.t a)
abbrev Zg (a : Nat) : ROp := .loadB (.t a)
abbrev Zx (k a : Nat) : ROp := .extract k (.t a)
abbrev ZW (a b : Nat) (k : Sts) : Sts := .op none (.store 1 (.t a) (.t b)) k
abbrev Zw (n a b : Nat) (k : Sts) : Sts := .op none (.store n (.t a) (.t b)) k
abbrev ZP (a b c d x o : Nat) (k : Sts) : Sts := zB a x <| zA b (Zk a) <| zA c (zI o b) <| zA d (zK c) k
abbrev ZO (a b c x o : Nat) (k : Sts) : Sts := zB a x <| zA b (Zk a) <| zA c (zI o b) k
abbrev ZY (c d o b : Nat) (k : Sts) : Sts := zA c (zI o b) <| zA d (zK c) k
abbrev Zy (c d o b : Nat) (k : Sts) : Sts := zA c (zI o b) <| zA d (zJ c) k
abbrev ZZ (a b x n s : Nat) (k : Sts) : Sts := zB a x <| zA b (zH n s a) k
abbrev Zj (a b n s i : Nat) (k : Sts) : Sts := zA a (zH n s i) <| zA b (zJ a) k
abbrev Zr (s : Sts) (c : RCode) : RCode := .seq (.reg s) c
abbrev ZX (t e : Nat) : RCode := .cond (.t t) .skip (.exit e)
abbrev Zs (t e : Nat) : RCode := .cond (.t t) (.exit e) .skip
abbrev Zu (a x b : Nat) : Sts := zB a x <| zA b (Zc .add a 1) <| zB x b .nil
abbrev Zl (a x b y c d : Nat) : Sts := zB a x <| zB b y <| zA c (zM b) <| zA d (Zb .lss a c) .nil
abbrev Zm (d : Nat) (v : Value) (k : Sts) : Sts := .op (some d) (.mv (.c v)) k
abbrev Zq (d T a : Nat) (k : Sts) : Sts := .op (some d) (.box T (.t a)) k
abbrev ZQ : List Nat := [15, 20, 31, 71, 88, 41, 76, 86, 65, 83, 81, 114, 117, 119, 122, 68, 100, 103, 104, 105, 137, 138, 64, 72, 96, 99, 158, 159, 132, 56, 93, 94, 130, 131, 155, 62, 23, 170]

def Da2 : Sts := Zq 1 24 0<|Zm 2 Zf<|.nil
def Da3 : Sts := zA 9 (.call 10 [])<|zA 10 (Zt 9)<|.nil
def Da4 : Sts := Zm 2 Zf<|.nil
def Da5 : Sts := zA 12 (Zo 1 1)<|zA 13 (Z1 11 12)<|zB 11 13<|zA 14 (Zx 0 11)<|zA 15 (Zx 1 11)<|zB 3 14<|zB 4 15<|.nil
def Da6 : Sts := zA 17 (Zo 1 1)<|zA 18 (Z1 12 17)<|zB 16 18<|zA 19 (Zx 0 16)<|zA 20 (Zx 1 16)<|zB 5 19<|zB 6 20<|.nil
def Da7 : Sts := zA 21 (Zo 1 1)<|zA 22 (Z1 13 21)<|zB 7 22<|.nil
def Da8 : Sts := zB 23 7<|zA 24 (Zc .neq 23 0)<|.nil
def Da9 : Sts := zB 25 3<|zA 26 (zM 25)<|zA 27 (Zc .eql 26 0)<|zB 28 27<|.cnd 28 true (zB 29 5<|zA 30 (Zc .eql 29 0)<|.nil) 31 (.t 30)<|zB 32 31<|.cnd 32 true (zB 33 4<|zB 34 7<|zA 35 (Zb .eql 33 34)<|.nil) 36 (.t 35)<|zB 37 36<|.cnd 37 true (zB 38 6<|zB 39 7<|zA 40 (Zb .eql 38 39)<|.nil) 41 (.t 40)<|zB 2 41<|.nil
def Db0 : Sts := zA 42 (Zo 1 1)<|zA 43 (.call 14 [(.t 42), (zN 0)])<|zA 8 (.alloc 39 [Zn, Zn, Zn, Zn, Zn, Zn, Zn, Zi, Zi, Zn, Zn, Zn, Zn])<|Zw 13 8 43<|.nil
def Db1 : Sts := zB 44 3<|ZY 45 46 6 8<|zA 47 (Z2 15 44 46)<|zB 48 47<|.cnd 48 true (zB 49 5<|Zy 50 51 7 8<|zA 52 (Zb .eql 49 51)<|.nil) 53 (.t 52)<|zB 54 53<|.cnd 54 true (zB 55 4<|zA 56 (Zc .eql 55 0)<|.nil) 57 (.t 56)<|zB 58 57<|.cnd 58 true (zB 59 6<|zA 60 (Zc .eql 59 0)<|.nil) 61 (.t 60)<|zB 2 61<|.nil
def Q53 : RFun := ⟨62, [0, 1, 2, 3, 4, 5, 6, 7, 8], (Zr Da2 (.seq (Zr Da3 (.cond (.t 10) (Zr Da4 .ret) .skip)) (Zr Da5 (Zr Da6 (.seq (Zr Da7 (Zr Da8 (.cond (.t 24) (Zr Da9 .ret) .skip))) (Zr Db0 (Zr Db1 .ret))))))), [.tmp 2]⟩
theorem Q53_ok : Ak Tryz.prog Q53.V ZQ 3 = some Q53 := by kernel_rfl

def Db2 : Sts := Zm 0 Zf<|.nil
def Db3 : Sts := zA 4 (.call 32 [])<|zA 5 (Z1 11 4)<|zB 3 5<|zA 6 (Zx 0 3)<|zA 7 (Zx 1 3)<|zB 1 6<|zB 2 7<|.nil
def Db4 : Sts := zB 8 1<|zA 9 (zM 8)<|zA 10 (Zc .eql 9 4)<|zB 11 10<|.cnd 11 true (zB 12 1<|zA 13 (.iaddrS 1 (.t 12) (zN 0))<|zA 14 (zK 13)<|zA 15 (.buildSl 3 5 [Zi, Zi, Zi, Zi, Zi] [(0, 1, (zN 0)), (1, 1, (zN 0)), (2, 1, (zN 1)), (3, 1, (zN 1)), (4, 1, (zN 0))])<|zA 16 (Z2 20 14 15)<|.nil) 17 (.t 16)<|zB 18 17<|.cnd 18 true (zB 19 2<|zA 20 (Zc .eql 19 0)<|.nil) 21 (.t 20)<|zB 0 21<|.nil
def Q54 : RFun := ⟨22, [0, 1, 2], (Zr Db2 (Zr Db3 (Zr Db4 .ret))), [.tmp 0]⟩
theorem Q54_ok : Ak Tryz.prog Q54.V ZQ 10 = some Q54 := by kernel_rfl

def Ff1 : Sts := Zq 1 24 0<|Zm 2 Zn<|zG 3 0<|.nil
def Ff2 : Sts := zA 9 (Zo 1 1)<|zA 10 (Z1 33 9)<|zB 8 10<|zA 11 (Zx 0 8)<|zA 12 (Zx 1 8)<|zA 4 (.alloc 74 [Zn])<|ZW 4 11<|zB 5 12<|.nil
def Ff3 : Sts := zB 13 5<|zA 14 (Zc .neq 13 0)<|.nil
def Ff4 : Sts := zB 15 5<|Zm 2 Zn<|zB 3 15<|.nil
def Ff5 : Sts := zA 6 (.alloc 26 [Zn])<|.nil
def Ff6 : Sts := zA 16 (zK 4)<|zA 17 (Z1 34 16)<|.nil
def Ff7 : Sts := zA 7 (.alloc 45 [Zn, Zn, Zn, Zn])<|Zw 4 7 18<|.nil
def Fe4 : AT := .q (zC 0 19 (zK 6)<|zC 1 20 (zK 4)<|zC 2 21 (Zo 4 7)<|.nil)<|zE 3 22 (Z2 35 20 21) false (zF<|zE 4 23 (.buildSl 34 1 [Zn] [(0, 1, (.t 22))]) false (zF<|zE 5 24 (.append 34 1 24 [Zn] (.t 19) (.t 23)) true (zF<|.s 6 none (.store 1 (.t 6) (.t 24)) true (zF<|.fin)<|.no)<|.no)<|.no)<|.no
def Ff8 : Sts := zA 25 (zK 6)<|zA 26 (zM 25)<|zA 27 (Zc .gtr 26 4096)<|.nil
def Ff9 : Sts := zA 28 (zK 6)<|zA 29 (Z1 36 28)<|ZW 6 29<|.nil
def I7 : RCode := (.reg Ff7)
def I8 : RCode := (.block 1 (.seq (.any Fe4) (Zr Ff8 (.cond (.t 27) (.reg Ff9) .skip))))
def Db5 : Sts := zA 30 (zK 6)<|zA 31 (Z1 36 30)<|zB 2 31<|zG 3 0<|.nil
def Q2 : RFun := ⟨32, [0, 1, 2, 3, 4, 5, 6, 7, 17, 18], (Zr Ff1 (Zr Ff2 (.seq (Zr Ff3 (.cond (.t 14) (Zr Ff4 .ret) .skip)) (Zr Ff5 (.seq (Zr Ff6 (.block 0 (.rangeF (.t 17) [18] I7 I8))) (Zr Db5 .ret)))))), [.tmp 2, .tmp 3]⟩
theorem Q2_ok : Ak Tryz.prog Q2.V ZQ 11 = some Q2 := by kernel_rfl

def Fg0 : Sts := Zq 1 24 0<|zG 2 0<|zG 3 0<|.nil
def Fg1 : Sts := zA 8 (Zo 1 1)<|zA 9 (Z1 33 8)<|zB 7 9<|zA 10 (Zx 0 7)<|zA 11 (Zx 1 7)<|zB 4 10<|zB 5 11<|.nil
def Fg2 : Sts := zB 12 5<|zA 13 (Zc .neq 12 0)<|.nil
def Fg3 : Sts := zB 14 5<|zG 2 0<|zB 3 14<|.nil
def Fg4 : Sts := zA 6 (.alloc 3 [Zi])<|.op none (.store 1 (.t 6) (zN 0))<|.nil
def Fg5 : Sts := zB 15 4<|zA 16 (Z1 34 15)<|.nil
def Fg6 : Sts := zA 18 (zJ 6)<|zA 19 (Zc .add 18 1)<|ZW 6 19<|.nil
def Nb : RCode := .skip
def Nc : RCode := (.block 1 (.reg Fg6))
def Fg7 : Sts := zA 20 (zJ 6)<|zB 2 20<|zG 3 0<|.nil
def Q0 : RFun := ⟨21, [0, 1, 2, 3, 4, 5, 6, 16], (Zr Fg0 (Zr Fg1 (.seq (Zr Fg2 (.cond (.t 13) (Zr Fg3 .ret) .skip)) (Zr Fg4 (.seq (Zr Fg5 (.block 0 (.rangeF (.t 16) [17] Nb Nc))) (Zr Fg7 .ret)))))), [.tmp 2, .tmp 3]⟩
theorem Q0_ok : Ak Tryz.prog Q0.V ZQ 12 = some Q0 := by kernel_rfl

def Db6 : Sts := Zq 1 24 0<|zG 2 0<|.nil
def Db7 : Sts := zG 3 0<|.nil
def Db8 : Sts := zG 4 0<|.nil
def Db9 : Sts := zA 11 (.makeSl 3 1 8 [Zi] (zN 3) (zN 3))<|zB 5 11<|.nil
def Dc0 : Sts := ZY 12 13 0 1<|zA 14 (zM 13)<|zA 15 (Zc .gtr 14 0)<|zB 6 15<|.nil
def Dc1 : Sts := zG 7 0<|.nil
def Dc2 : Sts := zB 16 7<|ZY 17 18 0 1<|zA 19 (zM 18)<|zA 20 (Zb .lss 16 19)<|.nil
def Dc3 : Sts := zG 8 0<|.nil
def Dc4 : Sts := zB 23 8<|ZY 24 25 0 1<|ZZ 26 27 7 1 25<|zA 28 (zK 27)<|zA 29 (zM 28)<|zA 30 (Zb .lss 23 29)<|.nil
def Dc5 : Sts := ZY 33 34 0 1<|ZZ 35 36 7 1 34<|zA 37 (zK 36)<|ZZ 38 39 8 5 37<|zA 40 (Zo 5 39)<|zA 9 (.alloc 83 [Zi, Zi, Zi, Zi, Zi])<|Zw 5 9 40<|.nil
def Be8 : Sts := zB 41 6<|zB 42 41<|.cnd 42 true (zA 43 (Zo 5 9)<|zA 44 (Z1 37 43)<|.nil) 45 (.t 44)<|zB 6 45<|.nil
def Be9 : Sts := Zy 46 47 0 9<|zA 48 (Zc .eql 47 5)<|.nil
def Bf0 : Sts := Zu 49 4 50
def Bf1 : Sts := zA 51 (Zo 5 9)<|zA 52 (Z1 38 51)<|zA 53 (Zt 52)<|.nil
def Bf2 : Sts := Zu 54 3 55
def Bf3 : Sts := Zy 56 57 4 9<|zA 58 (Zc .eql 57 4)<|.nil
def Bf4 : Sts := zB 59 4<|zA 60 (Zc .add 59 2)<|zB 4 60<|.nil
def Bf5 : Sts := Zy 61 62 0 9<|zA 63 (Zc .gtr 62 0)<|zB 64 63<|.cnd 64 true (Zy 65 66 1 9<|zA 67 (Zc .geq 66 0)<|.nil) 68 (.t 67)<|zB 69 68<|.cnd 69 true (Zy 70 71 1 9<|zA 72 (Zc .lss 71 3)<|.nil) 73 (.t 72)<|.nil
def Bf6 : AT := .q (zD 0 74 5<|zC 1 75 (zI 1 9)<|zC 2 76 (zJ 75)<|zD 3 77 5<|zC 4 78 (zI 1 9)<|zC 5 79 (zJ 78)<|zC 6 80 (zH 1 77 79)<|zC 7 81 (zJ 80)<|zC 8 82 (Zc .add 81 1)<|zC 9 83 (zH 1 74 76)<|.nil)<|.s 10 none (.store 1 (.t 83) (.t 82)) true (zF<|.fin)<|.no
def Bf7 : Sts := Zu 31 8 32
def At0 : RCode := (.seq (Zr Dc4 (ZX 30 2)) (.seq (.block 3 (Zr Dc5 (Zr Be8 (.seq (Zr Be9 (.cond (.t 48) (.reg Bf0) .skip)) (.seq (Zr Bf1 (Zs 53 3)) (Zr Bf2 (.seq (Zr Bf3 (.cond (.t 58) (.reg Bf4) .skip)) (Zr Bf5 (.cond (.t 73) (.any Bf6) .skip))))))))) (.reg Bf7)))
def Bf8 : Sts := Zu 21 7 22
def At1 : RCode := (.seq (Zr Dc2 (ZX 20 0)) (.seq (.block 1 (Zr Dc3 (.block 2 (.loop At0)))) (.reg Bf8)))
def Bf9 : Sts := ZY 84 85 0 1<|zA 86 (zM 85)<|zA 87 (Zc .gtr 86 3)<|zB 88 87<|.cnd 88 false (zB 89 3<|zA 90 (Zc .gtr 89 6)<|.nil) 91 (.t 90)<|zB 92 91<|.cnd 92 false (zB 93 4<|zA 94 (Zc .gtr 93 8)<|.nil) 95 (.t 94)<|.nil
def Bg0 : Sts := zG 2 2<|.nil
def Bg1 : Sts := zG 10 0<|.nil
def Bg2 : Sts := Zl 96 10 97 5 98 99
def Bg3 : Sts := zB 102 5<|ZZ 103 104 10 1 102<|zA 105 (zJ 104)<|zA 106 (Zc .gtr 105 4)<|.nil
def Bg4 : Sts := zG 2 2<|.nil
def Bg5 : Sts := Zu 100 10 101
def At2 : RCode := (.seq (Zr Bg2 (ZX 99 4)) (.seq (.block 5 (Zr Bg3 (.cond (.t 106) (Zr Bg4 .ret) .skip))) (.reg Bg5)))
def Bg6 : Sts := zB 107 6<|zA 108 (Zt 107)<|.nil
def Bg7 : Sts := zG 2 1<|.nil
def Bg8 : Sts := zG 2 0<|.nil
def Q66 : RFun := ⟨109, [0, 1, 2, 3, 4, 5, 6, 7, 8, 9, 10], (Zr Db6 (Zr Db7 (Zr Db8 (Zr Db9 (Zr Dc0 (.seq (Zr Dc1 (.block 0 (.loop At1))) (.seq (Zr Bf9 (.cond (.t 95) (Zr Bg0 .ret) .skip)) (.seq (Zr Bg1 (.block 4 (.loop At2))) (.seq (Zr Bg6 (.cond (.t 108) (Zr Bg7 .ret) .skip)) (Zr Bg8 .ret)))))))))), [.tmp 2]⟩
theorem Q66_ok : Ak Tryz.prog Q66.V ZQ 13 = some Q66 := by kernel_rfl

def Bg9 : Sts := Zq 2 24 0<|zA 4 (.alloc 39 [Zn, Zn, Zn, Zn, Zn, Zn, Zn, Zi, Zi, Zn, Zn, Zn, Zn])<|.nil
def Bh0 : AT := .q (zC 0 6 (Zo 1 2)<|zC 1 7 (Zo 1 2)<|zD 3 9 1<|.nil)<|zE 2 8 (Z1 39 7) false (.q (zC 4 10 (.build [Zn, Zn, Zn, Zn, Zn, Zn, Zn, Zi, Zi, Zn, Zn, Zn, Zn] [(0, 1, (.t 6)), (1, 1, (.t 8)), (8, 1, (.t 9))])<|.nil)<|zE 5 5 (.alloc 39 [Zn, Zn, Zn, Zn, Zn, Zn, Zn, Zi, Zi, Zn, Zn, Zn, Zn]) false (zF<|.s 6 none (.store 13 (.t 5) (.t 10)) true (zF<|.fin)<|.no)<|.no)<|zE 5 5 (.alloc 39 [Zn, Zn, Zn, Zn, Zn, Zn, Zn, Zi, Zi, Zn, Zn, Zn, Zn]) false (zF<|zE 2 8 (Z1 39 7) false (.q (zC 4 10 (.build [Zn, Zn, Zn, Zn, Zn, Zn, Zn, Zi, Zi, Zn, Zn, Zn, Zn] [(0, 1, (.t 6)), (1, 1, (.t 8)), (8, 1, (.t 9))])<|.nil)<|.s 6 none (.store 13 (.t 5) (.t 10)) true (zF<|.fin)<|.no)<|.no)<|.no
def Bh1 : AT := .q (zC 0 11 (zI 1 5)<|zC 1 12 (zK 11)<|zC 2 13 (zM 12)<|zC 4 15 (zI 1 5)<|zC 5 16 (zK 15)<|zC 6 17 (zM 16)<|.nil)<|zE 3 14 (.makeSl 3 1 8 [Zi] (.t 13) (.t 13)) false (zF<|zE 7 18 (.makeSl 4 1 1 [Zf] (.t 17) (.t 17)) false (zF<|zE 8 19 (.makeSl 34 1 24 [Zn] (zN 3) (zN 3)) false (.q (zC 9 20 (.build [Zn, Zn, Zn, Zn] [(0, 1, (.t 14)), (1, 1, (.t 18)), (2, 1, (.t 19))])<|zC 10 21 (zI 2 5)<|.nil)<|.s 11 none (.store 4 (.t 21) (.t 20)) true (zF<|.fin)<|.no)<|.no)<|zE 8 19 (.makeSl 34 1 24 [Zn] (zN 3) (zN 3)) false (zF<|zE 7 18 (.makeSl 4 1 1 [Zf] (.t 17) (.t 17)) false (.q (zC 9 20 (.build [Zn, Zn, Zn, Zn] [(0, 1, (.t 14)), (1, 1, (.t 18)), (2, 1, (.t 19))])<|zC 10 21 (zI 2 5)<|.nil)<|.s 11 none (.store 4 (.t 21) (.t 20)) true (zF<|.fin)<|.no)<|.no)<|.no)<|zE 7 18 (.makeSl 4 1 1 [Zf] (.t 17) (.t 17)) false (zF<|zE 3 14 (.makeSl 3 1 8 [Zi] (.t 13) (.t 13)) false (zF<|zE 8 19 (.makeSl 34 1 24 [Zn] (zN 3) (zN 3)) false (.q (zC 9 20 (.build [Zn, Zn, Zn, Zn] [(0, 1, (.t 14)), (1, 1, (.t 18)), (2, 1, (.t 19))])<|zC 10 21 (zI 2 5)<|.nil)<|.s 11 none (.store 4 (.t 21) (.t 20)) true (zF<|.fin)<|.no)<|.no)<|zE 8 19 (.makeSl 34 1 24 [Zn] (zN 3) (zN 3)) false (zF<|zE 3 14 (.makeSl 3 1 8 [Zi] (.t 13) (.t 13)) false (.q (zC 9 20 (.build [Zn, Zn, Zn, Zn] [(0, 1, (.t 14)), (1, 1, (.t 18)), (2, 1, (.t 19))])<|zC 10 21 (zI 2 5)<|.nil)<|.s 11 none (.store 4 (.t 21) (.t 20)) true (zF<|.fin)<|.no)<|.no)<|.no)<|zE 8 19 (.makeSl 34 1 24 [Zn] (zN 3) (zN 3)) false (zF<|zE 3 14 (.makeSl 3 1 8 [Zi] (.t 13) (.t 13)) false (zF<|zE 7 18 (.makeSl 4 1 1 [Zf] (.t 17) (.t 17)) false (.q (zC 9 20 (.build [Zn, Zn, Zn, Zn] [(0, 1, (.t 14)), (1, 1, (.t 18)), (2, 1, (.t 19))])<|zC 10 21 (zI 2 5)<|.nil)<|.s 11 none (.store 4 (.t 21) (.t 20)) true (zF<|.fin)<|.no)<|.no)<|zE 7 18 (.makeSl 4 1 1 [Zf] (.t 17) (.t 17)) false (zF<|zE 3 14 (.makeSl 3 1 8 [Zi] (.t 13) (.t 13)) false (.q (zC 9 20 (.build [Zn, Zn, Zn, Zn] [(0, 1, (.t 14)), (1, 1, (.t 18)), (2, 1, (.t 19))])<|zC 10 21 (zI 2 5)<|.nil)<|.s 11 none (.store 4 (.t 21) (.t 20)) true (zF<|.fin)<|.no)<|.no)<|.no)<|.no
def Dc6 : Sts := zA 22 (.call 40 [(.t 5), (zN 0)])<|.nil
def Dc7 : Sts := zA 23 (Zo 13 5)<|Zw 13 4 23<|.nil
def Q72 : RFun := ⟨24, [0, 1, 2, 4, 5], (Zr Bg9 (.seq (.any Bh0) (.seq (.any Bh1) (Zr Dc6 (Zr Dc7 .ret))))), [.cellA 4 13]⟩
theorem Q72_ok : Ak Tryz.prog Q72.V ZQ 14 = some Q72 := by kernel_rfl

def Dc8 : Sts := Zm 4 Zf<|.nil
def Dc9 : Sts := zB 6 0<|zA 7 (zM 6)<|zB 8 1<|zA 9 (zM 8)<|zA 10 (Zb .neq 7 9)<|.nil
def Dd0 : Sts := Zm 4 Zf<|.nil
def Dd1 : Sts := zG 5 0<|.nil
def Dd2 : Sts := Zl 11 5 12 0 13 14
def Bh2 : AT := .q (zD 0 17 0<|zD 1 18 5<|zC 2 19 (zH 1 17 18)<|zC 3 20 (zK 19)<|zD 4 21 1<|zD 5 22 5<|zC 6 23 (zH 1 21 22)<|zC 7 24 (zK 23)<|zC 8 25 (Z2 20 20 24)<|zC 9 26 (Zt 25)<|.nil)<|.fin
def Dd3 : Sts := Zm 4 Zf<|.nil
def Dd4 : Sts := Zu 15 5 16
def Bh3 : RCode := (.seq (Zr Dd2 (ZX 14 0)) (.seq (.block 1 (.seq (.any Bh2) (.cond (.t 26) (Zr Dd3 .ret) .skip))) (.reg Dd4)))
def Dd5 : Sts := zA 4 (.mv (.c (.bool true)))<|.nil
def Q61 : RFun := ⟨27, [0, 1, 4, 5], (Zr Dc8 (.seq (Zr Dc9 (.cond (.t 10) (Zr Dd0 .ret) .skip)) (.seq (Zr Dd1 (.block 0 (.loop Bh3))) (Zr Dd5 .ret)))), [.tmp 4]⟩
theorem Q61_ok : Ak Tryz.prog Q61.V ZQ 15 = some Q61 := by kernel_rfl

def Dd6 : Sts := Zm 4 Zf<|.nil
def Dd7 : Sts := zB 6 0<|zA 7 (zM 6)<|zB 8 1<|zA 9 (zM 8)<|zA 10 (Zb .neq 7 9)<|.nil
def Dd8 : Sts := Zm 4 Zf<|.nil
def Dd9 : Sts := zG 5 0<|.nil
def De0 : Sts := Zl 11 5 12 0 13 14
def De1 : AT := .q (zD 0 17 0<|zD 1 18 5<|zC 2 19 (zH 1 17 18)<|zC 3 20 (zJ 19)<|zD 4 21 1<|zD 5 22 5<|zC 6 23 (zH 1 21 22)<|zC 7 24 (zJ 23)<|zC 8 25 (Zb .neq 20 24)<|.nil)<|.fin
def De2 : Sts := Zm 4 Zf<|.nil
def De3 : Sts := Zu 15 5 16
def Bh4 : RCode := (.seq (Zr De0 (ZX 14 0)) (.seq (.block 1 (.seq (.any De1) (.cond (.t 25) (Zr De2 .ret) .skip))) (.reg De3)))
def De4 : Sts := zA 4 (.mv (.c (.bool true)))<|.nil
def Q59 : RFun := ⟨26, [0, 1, 4, 5], (Zr Dd6 (.seq (Zr Dd7 (.cond (.t 10) (Zr Dd8 .ret) .skip)) (.seq (Zr Dd9 (.block 0 (.loop Bh4))) (Zr De4 .ret)))), [.tmp 4]⟩
theorem Q59_ok : Ak Tryz.prog Q59.V ZQ 20 = some Q59 := by kernel_rfl

def De5 : Sts := Zq 2 24 0<|Zq 3 37 1<|Zm 4 Zn<|.nil
def De6 : Sts := zA 14 (Zo 1 2)<|zA 15 (Z1 39 14)<|zB 5 15<|.nil
def De7 : Sts := zB 17 5<|zA 18 (Zo 4 3)<|zA 19 (Z2 45 17 18)<|zB 16 19<|zA 20 (Zx 0 16)<|zA 21 (Zx 1 16)<|zA 22 (Zx 2 16)<|zB 6 20<|zB 7 21<|zB 8 22<|.nil
def De8 : Sts := Zm 9 Zn<|.nil
def De9 : Sts := zG 10 0<|.nil
def Df0 : Sts := Zl 23 10 24 5 25 26
def Df1 : Sts := zB 29 5<|ZZ 30 31 10 6 29<|zA 32 (zI 1 31)<|zA 33 (Zo 5 32)<|zA 34 (Z1 56 33)<|.nil
def Df2 : Sts := zB 35 9<|zB 36 6<|ZZ 37 38 10 1 36<|zA 39 (zJ 38)<|zA 40 (.buildSl 3 1 [Zi] [(0, 1, (.t 39))])<|zA 41 (.append 3 1 8 [Zi] (.t 35) (.t 40))<|zB 9 41<|.nil
def Df3 : Sts := Zu 27 10 28
def Bh5 : RCode := (.seq (Zr Df0 (ZX 26 0)) (.seq (.block 1 (Zr Df1 (.cond (.t 34) (.reg Df2) .skip))) (.reg Df3)))
def Df4 : Sts := zG 11 0<|.nil
def Bh6 : Sts := zB 42 11<|zA 43 (Zc .lss 42 3)<|.nil
def Bh7 : Sts := zG 12 0<|.nil
def Bh8 : Sts := ZY 46 47 2 3<|ZZ 48 49 11 1 47<|zA 50 (zK 49)<|zA 51 (zM 50)<|zB 13 51<|.nil
def Bh9 : Sts := zB 52 13<|zA 53 (Zc .gtr 52 0)<|.nil
def Bi0 : Sts := zB 54 7<|ZY 55 56 2 3<|ZZ 57 58 11 1 56<|zA 59 (zK 58)<|zB 60 13<|zA 61 (Zc .sub 60 1)<|Zj 62 63 1 59 61<|Zj 64 65 1 54 63<|zB 12 65<|.nil
def Bi1 : Sts := zB 66 9<|zB 67 12<|zA 68 (.buildSl 3 1 [Zi] [(0, 1, (.t 67))])<|zA 69 (.append 3 1 8 [Zi] (.t 66) (.t 68))<|zB 9 69<|.nil
def Bi2 : Sts := Zu 44 11 45
def At3 : RCode := (.seq (Zr Bh6 (ZX 43 2)) (.seq (.block 3 (Zr Bh7 (.seq (Zr Bh8 (Zr Bh9 (.cond (.t 53) (.reg Bi0) .skip))) (.reg Bi1)))) (.reg Bi2)))
def Bi3 : Sts := zB 70 9<|zB 4 70<|.nil
def Q74 : RFun := ⟨71, [0, 1, 2, 3, 4, 5, 6, 7, 9, 10, 11, 12, 13], (Zr De5 (Zr De6 (Zr De7 (Zr De8 (.seq (Zr De9 (.block 0 (.loop Bh5))) (.seq (Zr Df4 (.block 2 (.loop At3))) (Zr Bi3 .ret))))))), [.tmp 4]⟩
theorem Q74_ok : Ak Tryz.prog Q74.V ZQ 21 = some Q74 := by kernel_rfl

def Df5 : Sts := Zq 1 24 0<|zG 2 0<|.nil
def Df6 : Sts := zA 9 (Zo 1 1)<|zA 10 (Z1 63 9)<|zA 11 (Zt 10)<|.nil
def Df7 : Sts := zG 2 2<|.nil
def Df8 : Sts := ZY 12 13 0 1<|zA 14 (zM 13)<|zA 15 (Zc .eql 14 0)<|.nil
def Df9 : Sts := zG 2 1<|.nil
def Dg0 : Sts := ZY 16 17 0 1<|zA 18 (zM 17)<|zG 19 0<|.nil
def Dg1 : Sts := zA 20 (Zb .lss 19 18)<|.nil
def Dg2 : Sts := zA 21 (zH 1 17 19)<|zA 22 (zK 21)<|zB 4 22<|.nil
def Dg3 : Sts := zB 23 4<|zA 24 (zM 23)<|zG 25 0<|.nil
def Dg4 : Sts := zA 26 (Zb .lss 25 24)<|.nil
def Bi4 : Sts := zA 27 (zH 5 23 25)<|zA 28 (Zo 5 27)<|zA 6 (.alloc 83 [Zi, Zi, Zi, Zi, Zi])<|Zw 5 6 28<|.nil
def Bi5 : Sts := Zy 30 31 0 6<|Zy 32 33 4 6<|zA 34 (Z2 64 31 33)<|zB 29 34<|zA 35 (Zx 0 29)<|zA 36 (Zx 1 29)<|zB 7 35<|zB 8 36<|.nil
def Bi6 : Sts := zB 37 8<|zA 38 (Zc .neq 37 0)<|zB 39 38<|.cnd 39 false (zB 40 7<|zA 41 (Zt 40)<|.nil) 42 (.t 41)<|zB 43 42<|.cnd 43 false (zA 44 (Zo 5 6)<|zA 45 (Z1 65 44)<|zA 46 (Zt 45)<|.nil) 47 (.t 46)<|.nil
def Bi7 : Sts := zG 2 1<|.nil
def Bi8 : Sts := zA 48 (Zc .add 25 1)<|zB 25 48<|.nil
def At4 : RCode := (Zr Dg4 (.seq (ZX 26 2) (.seq (.block 3 (Zr Bi4 (Zr Bi5 (Zr Bi6 (.cond (.t 47) (Zr Bi7 .ret) .skip))))) (.reg Bi8))))
def Bi9 : Sts := zA 49 (Zc .add 19 1)<|zB 19 49<|.nil
def At5 : RCode := (Zr Dg1 (.seq (ZX 20 0) (.seq (.block 1 (Zr Dg2 (Zr Dg3 (.block 2 (.loop At4))))) (.reg Bi9))))
def Bj0 : Sts := zG 2 0<|.nil
def Q44 : RFun := ⟨50, [0, 1, 2, 4, 6, 7, 8, 17, 18, 19, 23, 24, 25], (Zr Df5 (.seq (Zr Df6 (.cond (.t 11) (Zr Df7 .ret) .skip)) (.seq (Zr Df8 (.cond (.t 15) (Zr Df9 .ret) .skip)) (.seq (Zr Dg0 (.block 0 (.loop At5))) (Zr Bj0 .ret))))), [.tmp 2]⟩
theorem Q44_ok : Ak Tryz.prog Q44.V ZQ 24 = some Q44 := by kernel_rfl

def Dg5 : Sts := Zq 1 24 0<|zA 2 (.alloc 24 [Zn])<|zG 3 0<|.nil
def Dg6 : Sts := zA 5 (Zo 1 1)<|zA 6 (Z1 24 5)<|zB 4 6<|.nil
def Dg7 : Sts := zB 7 4<|zA 8 (Zc .neq 7 0)<|.nil
def Dg8 : Sts := zA 9 (.build [Zn] [])<|zB 10 4<|ZW 2 9<|zB 3 10<|.nil
def Dg9 : Sts := zA 11 (Zo 1 1)<|zA 12 (.call 69 [(.t 11), (.c (.func (.func 70) #[] #[]))])<|ZW 2 12<|zG 3 0<|.nil
def Q45 : RFun := ⟨13, [0, 1, 2, 3, 4], (Zr Dg5 (.seq (Zr Dg6 (Zr Dg7 (.cond (.t 8) (Zr Dg8 .ret) .skip))) (Zr Dg9 .ret))), [.cellA 2 1, .tmp 3]⟩
theorem Q45_ok : Ak Tryz.prog Q45.V ZQ 30 = some Q45 := by kernel_rfl

def Dh0 : Sts := Zm 4 Zf<|.nil
def Dh1 : Sts := zG 5 0<|.nil
def Dh2 : Sts := zB 6 5<|zB 7 0<|zA 8 (zM 7)<|zA 9 (Zb .lss 6 8)<|zB 10 9<|.cnd 10 true (Zl 11 5 12 1 13 14) 15 (.t 14)<|.nil
def Dh3 : AT := .q (zD 0 18 0<|zD 1 19 5<|zC 2 20 (zH 1 18 19)<|zC 3 21 (zJ 20)<|zD 4 22 1<|zD 5 23 5<|zC 6 24 (zH 1 22 23)<|zC 7 25 (zJ 24)<|zC 8 26 (Zb .neq 21 25)<|.nil)<|.fin
def Dh4 : AT := .q (zD 0 27 0<|zD 1 28 5<|zC 2 29 (zH 1 27 28)<|zC 3 30 (zJ 29)<|zD 4 31 1<|zD 5 32 5<|zC 6 33 (zH 1 31 32)<|zC 7 34 (zJ 33)<|zC 8 35 (Zb .lss 30 34)<|zD 9 4 35<|.nil)<|.fin
def Dh5 : Sts := Zu 16 5 17
def Bj1 : RCode := (.seq (Zr Dh2 (ZX 15 0)) (.seq (.block 1 (.seq (.any Dh3) (.cond (.t 26) (.seq (.any Dh4) .ret) .skip))) (.reg Dh5)))
def Dh6 : Sts := zB 36 0<|zA 37 (zM 36)<|zB 38 1<|zA 39 (zM 38)<|zA 40 (Zb .lss 37 39)<|zB 4 40<|.nil
def Q60 : RFun := ⟨41, [0, 1, 4, 5], (Zr Dh0 (.seq (Zr Dh1 (.block 0 (.loop Bj1))) (Zr Dh6 .ret))), [.tmp 4]⟩
theorem Q60_ok : Ak Tryz.prog Q60.V ZQ 31 = some Q60 := by kernel_rfl

def Dh7 : Sts := zA 0 (.alloc 24 [Zn])<|.nil
def Dh8 : Sts := zA 1 (.build [Zi, Zi, Zi, Zi, Zi] [(0, 1, (zN 1)), (2, 1, (zN 1))])<|zA 2 (.build [Zi, Zi, Zi, Zi, Zi] [(1, 1, (zN 1))])<|zA 3 (.buildSl 83 2 [Zi, Zi, Zi, Zi, Zi, Zi, Zi, Zi, Zi, Zi] [(0, 5, (.t 1)), (5, 5, (.t 2))])<|zA 4 (.build [Zi, Zi, Zi, Zi, Zi] [(0, 1, (zN 1)), (1, 1, (zN 1)), (2, 1, (zN 1))])<|zA 5 (.build [Zi, Zi, Zi, Zi, Zi] [])<|zA 6 (.buildSl 83 2 [Zi, Zi, Zi, Zi, Zi, Zi, Zi, Zi, Zi, Zi] [(0, 5, (.t 4)), (5, 5, (.t 5))])<|zA 7 (.buildSl 70 2 [Zn, Zn] [(0, 1, (.t 3)), (1, 1, (.t 6))])<|zA 8 (.build [Zn] [(0, 1, (.t 7))])<|ZW 0 8<|.nil
def Q55 : RFun := ⟨9, [0], (Zr Dh7 (Zr Dh8 .ret)), [.cellA 0 1]⟩
theorem Q55_ok : Ak Tryz.prog Q55.V ZQ 32 = some Q55 := by kernel_rfl

def Fg8 : Sts := Zq 1 24 0<|Zm 2 Zn<|zG 3 0<|.nil
def Fg9 : Sts := zA 12 (Zo 1 1)<|zA 13 (Z1 30 12)<|zB 11 13<|zA 14 (Zx 0 11)<|zA 15 (Zx 1 11)<|zA 4 (.alloc 24 [Zn])<|ZW 4 14<|zB 5 15<|.nil
def Fh0 : Sts := zB 16 5<|zA 17 (Zc .neq 16 0)<|.nil
def Fh1 : Sts := zB 18 5<|Zm 2 Zn<|zB 3 18<|.nil
def Fh2 : Sts := Zm 6 Zn<|.nil
def Fh3 : Sts := ZY 19 20 0 4<|zA 21 (zM 20)<|zG 22 0<|.nil
def Fh4 : Sts := zA 23 (Zb .lss 22 21)<|.nil
def Fh5 : Sts := zB 24 22<|zA 25 (zH 1 20 22)<|zA 26 (zK 25)<|zB 7 24<|zB 8 26<|.nil
def Fh6 : Sts := zB 27 8<|zA 28 (zM 27)<|zG 29 0<|.nil
def Fh7 : Sts := zA 30 (Zb .lss 29 28)<|.nil
def Dh9 : Sts := zA 31 (zH 5 27 29)<|zA 32 (Zo 5 31)<|zA 10 (.alloc 83 [Zi, Zi, Zi, Zi, Zi])<|Zw 5 10 32<|.nil
def Di0 : Sts := zB 33 6<|zA 34 (Zo 5 10)<|zB 35 7<|zA 36 (.build [Zi, Zi, Zi, Zi, Zi, Zi] [(0, 5, (.t 34)), (5, 1, (.t 35))])<|zA 37 (.buildSl 121 1 [Zi, Zi, Zi, Zi, Zi, Zi] [(0, 6, (.t 36))])<|zA 38 (.append 121 6 48 [Zi, Zi, Zi, Zi, Zi, Zi] (.t 33) (.t 37))<|zB 6 38<|.nil
def Di1 : Sts := zA 39 (Zc .add 29 1)<|zB 29 39<|.nil
def Bj2 : RCode := (Zr Fh7 (.seq (ZX 30 2) (.seq (.block 3 (Zr Dh9 (.reg Di0))) (.reg Di1))))
def Di2 : Sts := zA 40 (Zc .add 22 1)<|zB 22 40<|.nil
def Bj3 : RCode := (Zr Fh4 (.seq (ZX 23 0) (.seq (.block 1 (Zr Fh5 (Zr Fh6 (.block 2 (.loop Bj2))))) (.reg Di2))))
def Di3 : Sts := zB 41 6<|zB 2 41<|zG 3 0<|.nil
def Q8 : RFun := ⟨42, [0, 1, 2, 3, 4, 5, 6, 7, 8, 10, 20, 21, 22, 27, 28, 29], (Zr Fg8 (Zr Fg9 (.seq (Zr Fh0 (.cond (.t 17) (Zr Fh1 .ret) .skip)) (Zr Fh2 (.seq (Zr Fh3 (.block 0 (.loop Bj3))) (Zr Di3 .ret)))))), [.tmp 2, .tmp 3]⟩
theorem Q8_ok : Ak Tryz.prog Q8.V ZQ 33 = some Q8 := by kernel_rfl

def Bj4 : Sts := Zq 1 74 0<|zA 2 (.mv (.c .nilFunc))<|.nil
def Di4 : Sts := zA 4 (zK 1)<|zA 5 (.mkfn 75 [] [(.t 1)])<|zA 6 (Z2 74 4 5)<|zA 3 (.alloc 34 [Zn])<|ZW 3 6<|.nil
def Di5 : Sts := zA 7 (.mkfn 77 [] [(.t 1), (.t 3)])<|zB 2 7<|.nil
def Q17 : RFun := ⟨8, [0, 1, 2, 3], (Zr Bj4 (Zr Di4 (Zr Di5 .ret))), [.tmp 2]⟩
theorem Q17_ok : Ak Tryz.prog Q17.V ZQ 34 = some Q17 := by kernel_rfl

def Di6 : Sts := Zq 3 45 1<|Zm 4 Zn<|.nil
def Di7 : Sts := zB 15 0<|zA 16 (Zo 4 3)<|zA 17 (Z2 85 15 16)<|zB 14 17<|zA 18 (Zx 0 14)<|zA 19 (Zx 1 14)<|zA 20 (Zx 2 14)<|zB 5 18<|zB 6 19<|zB 7 20<|.nil
def Di8 : Sts := Zm 8 Zn<|.nil
def Di9 : Sts := zB 21 0<|zA 22 (zM 21)<|zG 23 0<|.nil
def Dj0 : Sts := zA 24 (Zb .lss 23 22)<|.nil
def Dj1 : Sts := zB 25 23<|zA 26 (zH 6 21 23)<|zA 27 (Zo 6 26)<|zA 10 (.alloc 121 [Zi, Zi, Zi, Zi, Zi, Zi])<|zB 9 25<|Zw 6 10 27<|.nil
def Dj2 : Sts := zA 28 (Zo 6 10)<|zA 29 (Z1 86 28)<|.nil
def Dj3 : Sts := zB 30 8<|zB 31 5<|ZZ 32 33 9 1 31<|zA 34 (zJ 33)<|zA 35 (.buildSl 3 1 [Zi] [(0, 1, (.t 34))])<|zA 36 (.append 3 1 8 [Zi] (.t 30) (.t 35))<|zB 8 36<|.nil
def Dj4 : Sts := zA 37 (Zc .add 23 1)<|zB 23 37<|.nil
def Bj5 : RCode := (Zr Dj0 (.seq (ZX 24 0) (.seq (.block 1 (Zr Dj1 (Zr Dj2 (.cond (.t 29) (.reg Dj3) .skip)))) (.reg Dj4))))
def Dj5 : Sts := ZY 38 39 2 3<|zA 40 (zM 39)<|zG 41 0<|.nil
def Bj6 : Sts := zA 42 (Zb .lss 41 40)<|.nil
def Bj7 : Sts := zA 43 (zH 1 39 41)<|zA 44 (zK 43)<|zB 12 44<|.nil
def Bj8 : Sts := zG 13 0<|.nil
def Bj9 : Sts := zB 45 12<|zA 46 (zM 45)<|zA 47 (Zc .gtr 46 0)<|.nil
def Bk0 : Sts := zB 48 6<|zB 49 12<|zB 50 12<|zA 51 (zM 50)<|zA 52 (Zc .sub 51 1)<|Zj 53 54 1 49 52<|Zj 55 56 1 48 54<|zB 13 56<|.nil
def Bk1 : Sts := zB 57 8<|zB 58 13<|zA 59 (.buildSl 3 1 [Zi] [(0, 1, (.t 58))])<|zA 60 (.append 3 1 8 [Zi] (.t 57) (.t 59))<|zB 8 60<|.nil
def Bk2 : Sts := zA 61 (Zc .add 41 1)<|zB 41 61<|.nil
def At6 : RCode := (Zr Bj6 (.seq (ZX 42 2) (.seq (.block 3 (Zr Bj7 (Zr Bj8 (.seq (Zr Bj9 (.cond (.t 47) (.reg Bk0) .skip)) (.reg Bk1))))) (.reg Bk2))))
def Bk3 : Sts := zB 62 8<|zB 4 62<|.nil
def Q29 : RFun := ⟨63, [0, 1, 3, 4, 5, 6, 8, 9, 10, 12, 13, 21, 22, 23, 39, 40, 41], (Zr Di6 (Zr Di7 (Zr Di8 (.seq (Zr Di9 (.block 0 (.loop Bj5))) (.seq (Zr Dj5 (.block 2 (.loop At6))) (Zr Bk3 .ret)))))), [.tmp 4]⟩
theorem Q29_ok : Ak Tryz.prog Q29.V ZQ 35 = some Q29 := by kernel_rfl

def Fh8 : Sts := Zm 2 Zn<|.nil
def Fh9 : Sts := zB 3 0<|zA 4 (.call 87 [(.t 3), (.c (.func (.func 88) #[] #[]))])<|.nil
def Fi0 : Sts := zB 5 0<|zA 6 (.call 89 [(.t 5), (.c (.func (.func 41) #[] #[]))])<|zB 2 6<|.nil
def Q3 : RFun := ⟨7, [0, 2], (Zr Fh8 (Zr Fh9 (Zr Fi0 .ret))), [.tmp 2]⟩
theorem Q3_ok : Ak Tryz.prog Q3.V ZQ 36 = some Q3 := by kernel_rfl

def Dj6 : Sts := Zq 1 83 0<|Zm 2 Zf<|.nil
def Dj7 : Sts := Zy 3 4 0 1<|Zy 5 6 4 1<|zA 7 (Z2 90 4 6)<|zA 8 (Zt 7)<|zB 9 8<|.cnd 9 false (Zy 10 11 1 1<|zA 12 (Zc .lss 11 0)<|.nil) 13 (.t 12)<|zB 14 13<|.cnd 14 false (Zy 15 16 1 1<|zA 17 (Zc .geq 16 3)<|.nil) 18 (.t 17)<|.nil
def Dj8 : Sts := Zm 2 Zf<|.nil
def Dj9 : Sts := Zy 19 20 0 1<|zA 21 (Zc .eql 20 5)<|.nil
def Dk0 : Sts := Zy 22 23 1 1<|zA 24 (Zc .eql 23 0)<|zB 25 24<|.cnd 25 true (Zy 26 27 2 1<|zA 28 (Zc .eql 27 0)<|.nil) 29 (.t 28)<|zB 30 29<|.cnd 30 true (Zy 31 32 3 1<|zA 33 (Zc .eql 32 0)<|.nil) 34 (.t 33)<|zB 2 34<|.nil
def Dk1 : Sts := Zy 35 36 0 1<|zA 37 (Zc .eql 36 0)<|.nil
def Dk2 : Sts := Zy 38 39 2 1<|zA 40 (Zc .eql 39 0)<|zB 41 40<|.cnd 41 true (Zy 42 43 3 1<|zA 44 (Zc .eql 43 0)<|.nil) 45 (.t 44)<|zB 2 45<|.nil
def Dk3 : Sts := Zy 46 47 0 1<|zA 48 (Zc .eql 47 1)<|.nil
def Dk4 : Sts := Zy 49 50 2 1<|zA 51 (Zc .geq 50 0)<|zB 52 51<|.cnd 52 true (Zy 53 54 2 1<|zA 55 (Zc .leq 54 9)<|.nil) 56 (.t 55)<|zB 57 56<|.cnd 57 true (Zy 58 59 3 1<|zA 60 (Zc .eql 59 0)<|.nil) 61 (.t 60)<|zB 2 61<|.nil
def Dk5 : Sts := Zy 62 63 0 1<|zA 64 (Zc .eql 63 2)<|.nil
def Bk4 : Sts := Zy 65 66 2 1<|zA 67 (.bin .geq (.t 66) (.c (.int .i64 (-9))))<|zB 68 67<|.cnd 68 true (Zy 69 70 2 1<|zA 71 (Zc .leq 70 9)<|.nil) 72 (.t 71)<|zB 73 72<|.cnd 73 true (Zy 74 75 3 1<|zA 76 (Zc .eql 75 0)<|.nil) 77 (.t 76)<|zB 2 77<|.nil
def Bk5 : Sts := Zy 78 79 2 1<|zA 80 (Zc .geq 79 0)<|zB 81 80<|.cnd 81 true (Zy 82 83 2 1<|zA 84 (Zc .leq 83 9)<|.nil) 85 (.t 84)<|zB 86 85<|.cnd 86 true (Zy 87 88 3 1<|zA 89 (Zc .geq 88 0)<|.nil) 90 (.t 89)<|zB 91 90<|.cnd 91 true (Zy 92 93 3 1<|zA 94 (Zc .leq 93 9)<|.nil) 95 (.t 94)<|zB 2 95<|.nil
def Q69 : RFun := ⟨96, [0, 1, 2], (Zr Dj6 (.seq (Zr Dj7 (.cond (.t 18) (Zr Dj8 .ret) .skip)) (.seq (Zr Dj9 (.cond (.t 21) (Zr Dk0 .ret) .skip)) (.seq (Zr Dk1 (.cond (.t 37) (Zr Dk2 .ret) .skip)) (.seq (Zr Dk3 (.cond (.t 48) (Zr Dk4 .ret) .skip)) (.seq (Zr Dk5 (.cond (.t 64) (Zr Bk4 .ret) .skip)) (Zr Bk5 .ret))))))), [.tmp 2]⟩
theorem Q69_ok : Ak Tryz.prog Q69.V ZQ 37 = some Q69 := by kernel_rfl

def Dk6 : Sts := Zq 1 83 0<|Zm 2 Zf<|.nil
def Dk7 : Sts := Zy 3 4 0 1<|zA 5 (Zc .geq 4 0)<|zB 6 5<|.cnd 6 true (Zy 7 8 0 1<|zA 9 (Zc .lss 8 5)<|.nil) 10 (.t 9)<|zB 2 10<|.nil
def Q68 : RFun := ⟨11, [0, 1, 2], (Zr Dk6 (Zr Dk7 .ret)), [.tmp 2]⟩
theorem Q68_ok : Ak Tryz.prog Q68.V ZQ 38 = some Q68 := by kernel_rfl

def Dk8 : Sts := Zq 1 24 0<|Zm 2 Zn<|.nil
def Dk9 : Sts := zA 9 (Zo 1 1)<|zA 10 (Z1 91 9)<|zB 8 10<|zA 11 (Zx 0 8)<|zA 12 (Zx 1 8)<|zA 3 (.alloc 24 [Zn])<|ZW 3 11<|zB 4 12<|.nil
def Dl0 : Sts := Zm 5 Zn<|.nil
def Dl1 : Sts := zG 6 0<|.nil
def Dl2 : Sts := zB 13 6<|ZY 14 15 0 3<|zA 16 (zM 15)<|zA 17 (Zb .lss 13 16)<|.nil
def Dl3 : Sts := zG 7 0<|.nil
def Dl4 : Sts := zB 20 7<|ZY 21 22 0 3<|ZZ 23 24 6 1 22<|zA 25 (zK 24)<|zA 26 (zM 25)<|zA 27 (Zb .lss 20 26)<|.nil
def Dl5 : Sts := zB 30 5<|zB 31 6<|ZY 32 33 0 3<|ZZ 34 35 6 1 33<|zA 36 (zK 35)<|ZZ 37 38 7 5 36<|zA 39 (Zo 5 38)<|zA 40 (.build [Zi, Zi, Zi, Zi, Zi, Zi] [(0, 1, (.t 31)), (1, 5, (.t 39))])<|zA 41 (.buildSl 103 1 [Zi, Zi, Zi, Zi, Zi, Zi] [(0, 6, (.t 40))])<|zA 42 (.append 103 6 48 [Zi, Zi, Zi, Zi, Zi, Zi] (.t 30) (.t 41))<|zB 5 42<|.nil
def Dl6 : Sts := Zu 28 7 29
def Bk6 : RCode := (.seq (Zr Dl4 (ZX 27 2)) (.seq (.block 3 (.reg Dl5)) (.reg Dl6)))
def Dl7 : Sts := Zu 18 6 19
def At7 : RCode := (.seq (Zr Dl2 (ZX 17 0)) (.seq (.block 1 (Zr Dl3 (.block 2 (.loop Bk6)))) (.reg Dl7)))
def Bk7 : Sts := zB 43 5<|zB 2 43<|.nil
def Q73 : RFun := ⟨44, [0, 1, 2, 3, 5, 6, 7], (Zr Dk8 (Zr Dk9 (Zr Dl0 (.seq (Zr Dl1 (.block 0 (.loop At7))) (Zr Bk7 .ret))))), [.tmp 2]⟩
theorem Q73_ok : Ak Tryz.prog Q73.V ZQ 39 = some Q73 := by kernel_rfl

def Dl8 : Sts := zB 7 1<|ZP 8 9 10 11 0 1<|zA 12 (zM 11)<|zA 13 (Zb .eql 7 12)<|.nil
def Dl9 : Sts := zB 14 0<|zA 15 (Z1 92 14)<|.nil
def Dm0 : Sts := ZP 16 17 18 19 0 1<|ZZ 20 21 1 6 19<|zA 22 (zI 1 21)<|zA 23 (Zo 5 22)<|zA 4 (.alloc 83 [Zi, Zi, Zi, Zi, Zi])<|Zw 5 4 23<|.nil
def Dm1 : Sts := ZO 24 25 26 0 2<|ZY 27 28 0 26<|ZZ 29 30 1 1 28<|.op none (.store 1 (.t 30) (.c (.int .i64 (-2))))<|.nil
def Bk8 : AT := .q (zD 0 31 0<|zC 1 32 (Zk 31)<|zC 2 33 (zI 2 32)<|zC 3 34 (zI 1 33)<|zC 4 35 (zK 34)<|zD 5 36 1<|zC 6 37 (Zo 5 4)<|zC 7 38 (Z1 93 37)<|zC 8 39 (zH 1 35 36)<|.nil)<|.s 9 none (.store 1 (.t 39) (.t 38)) true (zF<|.fin)<|.no
def Dm2 : Sts := zA 40 (Zo 5 4)<|zA 41 (Z1 56 40)<|zA 42 (Zt 41)<|.nil
def Dm3 : Sts := zB 43 0<|zB 44 1<|zA 45 (Zc .add 44 1)<|zA 46 (Z2 40 43 45)<|.nil
def Dm4 : Sts := zA 5 (.mv (.c (.int .i64 (-1))))<|.nil
def Dm5 : Sts := zB 47 5<|ZP 48 49 50 51 0 1<|zA 52 (zM 51)<|zA 53 (Zb .lss 47 52)<|.nil
def Bk9 : AT := .q (zD 0 56 5<|zD 1 57 1<|zC 2 58 (Zb .eql 56 57)<|zD 3 59 58<|.g 59 false (zD 4 60 5<|zC 5 61 (Zc .geq 60 0)<|zD 6 62 61<|.g 62 true (zD 7 63 0<|zC 8 64 (Zk 63)<|zC 9 65 (zI 1 64)<|zC 10 66 (zK 65)<|zD 11 67 5<|zC 12 68 (zH 6 66 67)<|zC 13 69 (zI 1 68)<|zC 14 70 (Zo 5 69)<|zC 15 71 (Z1 93 70)<|zC 16 72 (Zt 71)<|zD 17 73 72<|.g 73 false (zD 18 74 0<|zC 19 75 (Zk 74)<|zC 20 76 (zI 1 75)<|zC 21 77 (zK 76)<|zD 22 78 5<|zC 23 79 (zH 6 77 78)<|zC 24 80 (zI 1 79)<|zC 25 81 (zI 1 80)<|zC 26 82 (zJ 81)<|zC 27 83 (zI 1 4)<|zC 28 84 (zJ 83)<|zC 29 85 (Zb .neq 82 84)<|.nil) 30 86 (.t 85)<|.nil) 31 87 (.t 86)<|.nil) 32 88 (.t 87)<|.nil)<|.fin
def Ao5 : Sts := zG 6 0<|.nil
def Bl0 : Sts := zB 89 6<|zA 90 (Zc .lss 89 2)<|.nil
def Bl1 : Sts := Zy 93 94 0 4<|zA 95 (Zc .lss 94 3)<|zB 96 95<|.cnd 96 true (zB 97 6<|zA 98 (Zc .eql 97 1)<|.nil) 99 (.t 98)<|.nil
def Bl2 : Sts := ZO 100 101 102 0 2<|ZY 103 104 0 102<|zB 105 1<|zB 106 5<|zA 107 (zH 1 104 105)<|ZW 107 106<|.nil
def Ao6 : AT := .q (zD 0 108 0<|zC 1 109 (Zk 108)<|zC 2 110 (zI 2 109)<|zC 3 111 (zI 1 110)<|zC 4 112 (zK 111)<|zD 5 113 1<|zC 6 114 (Zo 5 4)<|zC 7 115 (Z1 93 114)<|zD 8 116 115<|.g 116 true (zD 9 117 6<|zC 10 118 (Zc .eql 117 0)<|.nil) 11 119 (.t 118)<|zC 12 120 (zH 1 112 113)<|.nil)<|.s 13 none (.store 1 (.t 120) (.t 119)) true (zF<|.fin)<|.no
def Bl3 : Sts := zB 121 0<|zB 122 1<|zA 123 (Zc .add 122 1)<|zA 124 (Z2 40 121 123)<|.nil
def Bl4 : Sts := Zu 91 6 92
def Ab9 : RCode := (.seq (Zr Bl0 (ZX 90 2)) (.seq (.block 3 (.seq (Zr Bl1 (Zs 99 3)) (Zr Bl2 (.seq (.any Ao6) (.reg Bl3))))) (.reg Bl4)))
def Bl5 : Sts := Zu 54 5 55
def At8 : RCode := (.seq (Zr Dm5 (ZX 53 0)) (.seq (.block 1 (.seq (.seq (.any Bk9) (Zs 88 1)) (Zr Ao5 (.block 2 (.loop Ab9))))) (.reg Bl5)))
def Q75 : RFun := ⟨125, [0, 1, 4, 5, 6], (.seq (Zr Dl8 (.cond (.t 13) (Zr Dl9 .ret) .skip)) (Zr Dm0 (Zr Dm1 (.seq (.any Bk8) (.seq (Zr Dm2 (.cond (.t 42) (Zr Dm3 .ret) .skip)) (Zr Dm4 (.block 0 (.loop At8)))))))), []⟩
theorem Q75_ok : Ak Tryz.prog Q75.V ZQ 40 = some Q75 := by kernel_rfl

def Bl6 : Sts := Zm 4 Zf<|.nil
def Bl7 : Sts := zB 6 0<|zA 7 (zM 6)<|zB 8 1<|zA 9 (zM 8)<|zA 10 (Zb .neq 7 9)<|.nil
def Bl8 : Sts := Zm 4 Zf<|.nil
def Bl9 : Sts := zB 11 0<|zA 12 (zM 11)<|zG 13 0<|.nil
def Bm0 : Sts := zA 14 (Zb .lss 13 12)<|.nil
def Bm1 : Sts := zB 15 13<|zB 5 15<|.nil
def Bm2 : AT := .q (zD 0 16 0<|zD 1 17 5<|zC 2 18 (zH 1 16 17)<|zC 3 19 (zJ 18)<|zD 4 20 1<|zD 5 21 5<|zC 6 22 (zH 1 20 21)<|zC 7 23 (zJ 22)<|zC 8 24 (Zb .neq 19 23)<|.nil)<|.fin
def Bm3 : Sts := Zm 4 Zf<|.nil
def Bm4 : Sts := zA 25 (Zc .add 13 1)<|zB 13 25<|.nil
def At9 : RCode := (Zr Bm0 (.seq (ZX 14 0) (.seq (.block 1 (Zr Bm1 (.seq (.any Bm2) (.cond (.t 24) (Zr Bm3 .ret) .skip)))) (.reg Bm4))))
def Bm5 : Sts := zA 4 (.mv (.c (.bool true)))<|.nil
def Cx5 : RFun := ⟨26, [0, 1, 4, 5, 12, 13], (Zr Bl6 (.seq (Zr Bl7 (.cond (.t 10) (Zr Bl8 .ret) .skip)) (.seq (Zr Bl9 (.block 0 (.loop At9))) (Zr Bm5 .ret)))), [.tmp 4]⟩
theorem Q112_ok : Ak Tryz.prog Cx5.V ZQ 41 = some Cx5 := by kernel_rfl

def Dm6 : Sts := Zq 3 37 1<|Zm 4 Zn<|Zm 5 Zn<|Zm 6 Zn<|.nil
def Dm7 : Sts := zB 15 0<|zA 16 (zM 15)<|zA 17 (.makeSl 3 1 8 [Zi] (.t 16) (.t 16))<|zB 7 17<|.nil
def Dm8 : Sts := zB 18 0<|zA 19 (zM 18)<|zA 20 (.makeSl 3 1 8 [Zi] (.t 19) (.t 19))<|zB 8 20<|.nil
def Dm9 : Sts := zB 21 0<|zA 22 (zM 21)<|zA 23 (.makeSl 4 1 1 [Zf] (.t 22) (.t 22))<|zB 9 23<|.nil
def Dn0 : Sts := zB 24 0<|zA 25 (zM 24)<|zA 26 (.makeSl 4 1 1 [Zf] (.t 25) (.t 25))<|zB 10 26<|.nil
def Dn1 : Sts := zG 11 0<|.nil
def Dn2 : Sts := Zl 27 11 28 0 29 30
def Dn3 : Sts := zB 33 0<|ZZ 34 35 11 6 33<|zA 36 (zI 1 35)<|zA 37 (Zo 5 36)<|zA 12 (.alloc 83 [Zi, Zi, Zi, Zi, Zi])<|Zw 5 12 37<|.nil
def Dn4 : Sts := zB 38 10<|zB 39 11<|Zy 40 41 0 12<|zA 42 (Zc .neq 41 2)<|zA 43 (zH 1 38 39)<|ZW 43 42<|.nil
def Dn5 : Sts := Zy 44 45 0 12<|.nil
def Bm6 : Sts := zA 47 (Zc .eql 45 1)<|zB 46 47<|.nil
def Bm7 : Sts := zB 48 8<|zB 49 11<|Zy 50 51 2 12<|zA 52 (zH 1 48 49)<|ZW 52 51<|.nil
def Bm8 : Sts := zA 54 (Zc .eql 45 3)<|zB 53 54<|.nil
def Bm9 : Sts := zA 55 (Zc .eql 45 4)<|zB 53 55<|.nil
def Bn0 : Sts := zB 56 8<|zB 57 11<|Zy 58 59 3 12<|zA 60 (zH 1 56 57)<|ZW 60 59<|.nil
def Bn1 : Sts := Zu 31 11 32
def Au0 : RCode := (.seq (Zr Dn2 (ZX 30 0)) (.seq (.block 1 (Zr Dn3 (Zr Dn4 (Zr Dn5 (.block 2 (Zr Bm6 (.cond (.t 46) (.reg Bm7) (.seq (Zr Bm8 (.cond (.t 53) .skip (.reg Bm9))) (.cond (.t 53) (.reg Bn0) .skip))))))))) (.reg Bn1)))
def Bn2 : Sts := zG 13 0<|.nil
def Bn3 : Sts := zB 61 13<|zB 62 0<|zA 63 (zM 62)<|zA 64 (Zb .leq 61 63)<|.nil
def Bn4 : Sts := zG 14 0<|.nil
def Bn5 : Sts := Zl 67 14 68 0 69 70
def Ao7 : Sts := zB 73 9<|ZZ 74 75 14 1 73<|zA 76 (Zg 75)<|zB 77 76<|.cnd 77 false (ZY 78 79 0 3<|ZZ 80 81 14 1 79<|zA 82 (zJ 81)<|zA 83 (Zc .geq 82 0)<|zB 84 83<|.cnd 84 true (zB 85 10<|ZY 86 87 0 3<|ZZ 88 89 14 1 87<|zA 90 (zJ 89)<|zA 91 (zH 1 85 90)<|zA 92 (Zg 91)<|zA 93 (Zt 92)<|.nil) 94 (.t 93)<|.nil) 95 (.t 94)<|.nil
def Ao8 : Sts := zB 96 9<|ZZ 97 98 14 1 96<|.op none (.store 1 (.t 98) (.c (.bool true)))<|.nil
def Ao9 : Sts := ZY 99 100 0 3<|ZZ 101 102 14 1 100<|zA 103 (zJ 102)<|zA 104 (Zc .geq 103 0)<|.nil
def Ap0 : Sts := zB 105 7<|zB 106 14<|zB 107 8<|ZY 108 109 0 3<|ZZ 110 111 14 1 109<|zA 112 (zJ 111)<|Zj 113 114 1 107 112<|zA 115 (zH 1 105 106)<|ZW 115 114<|.nil
def Ap1 : Sts := zB 116 0<|ZZ 117 118 14 6 116<|zA 119 (zI 1 118)<|Zy 120 121 0 119<|zA 122 (Zc .eql 121 2)<|.nil
def W8 : AT := .q (zD 0 123 8<|zD 1 124 14<|zD 2 125 7<|zD 3 126 14<|zC 4 127 (zH 1 125 126)<|zC 5 128 (zJ 127)<|zD 6 129 0<|zD 7 130 14<|zC 8 131 (zH 6 129 130)<|zC 9 132 (zI 1 131)<|zC 10 133 (zI 2 132)<|zC 11 134 (zJ 133)<|zC 12 135 (Zb .add 128 134)<|zC 13 136 (zH 1 123 124)<|.nil)<|.s 14 none (.store 1 (.t 136) (.t 135)) true (zF<|.fin)<|.no
def Ac0 : Sts := zB 137 10<|ZZ 138 139 14 1 137<|.op none (.store 1 (.t 139) (.c (.bool true)))<|.nil
def Ac1 : Sts := Zu 71 14 72
def Au1 : RCode := (.seq (Zr Bn5 (ZX 70 5)) (.seq (.block 6 (.seq (Zr Ao7 (Zs 95 6)) (Zr Ao8 (.seq (Zr Ao9 (.cond (.t 104) (.reg Ap0) .skip)) (Zr Ap1 (.cond (.t 122) (.seq (.any W8) (.reg Ac0)) .skip)))))) (.reg Ac1)))
def Bn6 : Sts := Zu 65 13 66
def Au2 : RCode := (.seq (Zr Bn3 (ZX 64 3)) (.seq (.block 4 (Zr Bn4 (.block 5 (.loop Au1)))) (.reg Bn6)))
def Bn7 : Sts := zB 140 7<|zB 141 8<|zB 142 9<|zB 4 140<|zB 5 141<|zB 6 142<|.nil
def Q91 : RFun := ⟨143, [0, 1, 3, 4, 5, 6, 7, 8, 9, 10, 11, 12, 13, 14, 45], (Zr Dm6 (Zr Dm7 (Zr Dm8 (Zr Dm9 (Zr Dn0 (.seq (Zr Dn1 (.block 0 (.loop Au0))) (.seq (Zr Bn2 (.block 3 (.loop Au2))) (Zr Bn7 .ret)))))))), [.tmp 4, .tmp 5, .tmp 6]⟩
theorem Q91_ok : Ak Tryz.prog Q91.V ZQ 43 = some Q91 := by kernel_rfl

def Dn6 : Sts := Zq 5 37 1<|Zm 8 Zf<|.nil
def Dn7 : Sts := zG 9 0<|.nil
def Dn8 : Sts := Zl 11 9 12 0 13 14
def Dn9 : Sts := zB 17 0<|ZZ 18 19 9 6 17<|zA 20 (zI 1 19)<|zA 21 (Zo 5 20)<|zA 10 (.alloc 83 [Zi, Zi, Zi, Zi, Zi])<|Zw 5 10 21<|.nil
def Do0 : Sts := zB 22 3<|ZZ 23 24 9 1 22<|zA 25 (Zg 24)<|zA 26 (Zt 25)<|.nil
def Bn8 : AT := .q (zC 0 27 (zI 0 10)<|zC 1 28 (zJ 27)<|zC 2 29 (Zc .eql 28 3)<|zD 3 30 29<|.g 30 true (zC 4 31 (zI 1 5)<|zC 5 32 (zK 31)<|zD 6 33 9<|zC 7 34 (zH 1 32 33)<|zC 8 35 (Zg 34)<|zD 9 36 2<|zD 10 37 9<|zC 11 38 (zH 1 36 37)<|zC 12 39 (zJ 38)<|zC 13 40 (zI 2 10)<|zC 14 41 (zJ 40)<|zC 15 42 (Zb .eql 39 41)<|zC 16 43 (.eqb true (.t 35) (.t 42))<|.nil) 17 44 (.t 43)<|zD 18 45 44<|.g 45 false (zC 19 46 (zI 0 10)<|zC 20 47 (zJ 46)<|zC 21 48 (Zc .eql 47 4)<|zD 22 49 48<|.g 49 true (zC 23 50 (zI 1 5)<|zC 24 51 (zK 50)<|zD 25 52 9<|zC 26 53 (zH 1 51 52)<|zC 27 54 (Zg 53)<|.nil) 28 55 (.t 54)<|zD 29 56 55<|.g 56 true (zD 30 57 2<|zD 31 58 9<|zC 32 59 (zH 1 57 58)<|zC 33 60 (zJ 59)<|zC 34 61 (zI 2 10)<|zC 35 62 (zJ 61)<|zC 36 63 (Zb .neq 60 62)<|.nil) 37 64 (.t 63)<|.nil) 38 65 (.t 64)<|.nil)<|.fin
def Do1 : Sts := Zm 8 Zf<|.nil
def Do2 : Sts := Zu 15 9 16
def Bn9 : RCode := (.seq (Zr Dn8 (ZX 14 0)) (.seq (.block 1 (Zr Dn9 (.seq (Zr Do0 (Zs 26 1)) (.seq (.any Bn8) (.cond (.t 65) (Zr Do1 .ret) .skip))))) (.reg Do2)))
def Do3 : Sts := zA 8 (.mv (.c (.bool true)))<|.nil
def Q96 : RFun := ⟨66, [0, 1, 2, 3, 5, 8, 9, 10], (Zr Dn6 (.seq (Zr Dn7 (.block 0 (.loop Bn9))) (Zr Do3 .ret))), [.tmp 8]⟩
theorem Q96_ok : Ak Tryz.prog Q96.V ZQ 44 = some Q96 := by kernel_rfl

def Do4 : Sts := Zq 3 37 1<|Zm 4 Zn<|Zm 5 Zn<|Zm 6 Zf<|.nil
def Do5 : Sts := zB 12 0<|zA 13 (Zo 4 3)<|zA 14 (Z2 43 12 13)<|zB 11 14<|zA 15 (Zx 0 11)<|zA 16 (Zx 1 11)<|zA 17 (Zx 2 11)<|zB 7 15<|zB 8 16<|zB 9 17<|.nil
def Do6 : Sts := zG 10 0<|.nil
def Do7 : Sts := Zl 18 10 19 0 20 21
def Do8 : Sts := zB 24 9<|ZZ 25 26 10 1 24<|zA 27 (Zg 26)<|zA 28 (Zt 27)<|.nil
def Do9 : Sts := Zm 4 Zn<|Zm 5 Zn<|Zm 6 Zf<|.nil
def Dp0 : Sts := Zu 22 10 23
def Bo0 : RCode := (.seq (Zr Do7 (ZX 21 0)) (.seq (.block 1 (Zr Do8 (.cond (.t 28) (Zr Do9 .ret) .skip))) (.reg Dp0)))
def Dp1 : Sts := zB 29 7<|zB 30 8<|zB 4 29<|zB 5 30<|zA 6 (.mv (.c (.bool true)))<|.nil
def Q81 : RFun := ⟨31, [0, 1, 3, 4, 5, 6, 7, 8, 9, 10], (Zr Do4 (Zr Do5 (.seq (Zr Do6 (.block 0 (.loop Bo0))) (Zr Dp1 .ret)))), [.tmp 4, .tmp 5, .tmp 6]⟩
theorem Q81_ok : Ak Tryz.prog Q81.V ZQ 45 = some Q81 := by kernel_rfl

def Dp2 : Sts := Zq 1 95 0<|Zm 2 Zf<|.nil
def Dp3 : Sts := zG 3 0<|.nil
def Dp4 : Sts := zB 4 3<|zA 5 (Zc .lss 4 16)<|.nil
def Dp5 : Sts := zB 8 3<|zA 9 (.iaddrA 16 1 (.t 1) (.t 8))<|zA 10 (.loadI .u64 (.t 9))<|zB 11 3<|zA 12 (.conv .u64 (.t 11))<|zA 13 (Zb .shr 10 12)<|zA 14 (.bin .and (.t 13) (.c (.int .u64 1)))<|zA 15 (.bin .eql (.t 14) (.c (.int .u64 1)))<|.nil
def Dp6 : Sts := zA 2 (.mv (.c (.bool true)))<|.nil
def Dp7 : Sts := Zu 6 3 7
def Bo1 : RCode := (.seq (Zr Dp4 (ZX 5 0)) (.seq (.block 1 (Zr Dp5 (.cond (.t 15) (Zr Dp6 .ret) .skip))) (.reg Dp7)))
def Dp8 : Sts := Zm 2 Zf<|.nil
def Q84 : RFun := ⟨16, [0, 1, 2, 3], (Zr Dp2 (.seq (Zr Dp3 (.block 0 (.loop Bo1))) (Zr Dp8 .ret))), [.tmp 2]⟩
theorem Q84_ok : Ak Tryz.prog Q84.V ZQ 46 = some Q84 := by kernel_rfl

def Dp9 : Sts := Zq 1 95 0<|zA 2 (.alloc 95 [(.int .u64 0), (.int .u64 0), (.int .u64 0), (.int .u64 0), (.int .u64 0), (.int .u64 0), (.int .u64 0), (.int .u64 0), (.int .u64 0), (.int .u64 0), (.int .u64 0), (.int .u64 0), (.int .u64 0), (.int .u64 0), (.int .u64 0), (.int .u64 0)])<|.nil
def Dq0 : Sts := zG 3 0<|.nil
def Dq1 : Sts := zB 5 3<|zA 6 (Zc .lss 5 16)<|.nil
def Dq2 : Sts := zG 4 0<|.nil
def Dq3 : Sts := zB 9 4<|zA 10 (Zc .lss 9 16)<|.nil
def Dq4 : Sts := zB 13 4<|zA 14 (.iaddrA 16 1 (.t 1) (.t 13))<|zA 15 (.loadI .u64 (.t 14))<|zB 16 3<|zA 17 (.conv .u64 (.t 16))<|zA 18 (Zb .shr 15 17)<|zA 19 (.bin .and (.t 18) (.c (.int .u64 1)))<|zA 20 (.bin .eql (.t 19) (.c (.int .u64 1)))<|.nil
def Bo2 : AT := .q (zD 0 21 4<|zD 1 22 4<|zC 2 23 (.iaddrA 16 1 (.t 1) (.t 22))<|zC 3 24 (.loadI .u64 (.t 23))<|zD 4 25 3<|zC 5 26 (.iaddrA 16 1 (.t 1) (.t 25))<|zC 6 27 (.loadI .u64 (.t 26))<|zC 7 28 (Zb .or 24 27)<|zC 8 29 (.iaddrA 16 1 (.t 1) (.t 21))<|.nil)<|.s 9 none (.store 1 (.t 29) (.t 28)) true (zF<|.fin)<|.no
def Dq5 : Sts := Zu 11 4 12
def Bo3 : RCode := (.seq (Zr Dq3 (ZX 10 2)) (.seq (.block 3 (Zr Dq4 (.cond (.t 20) (.any Bo2) .skip))) (.reg Dq5)))
def Dq6 : Sts := Zu 7 3 8
def Bo4 : RCode := (.seq (Zr Dq1 (ZX 6 0)) (.seq (.block 1 (Zr Dq2 (.block 2 (.loop Bo3)))) (.reg Dq6)))
def Dq7 : Sts := zA 30 (Zo 16 1)<|Zw 16 2 30<|.nil
def Q85 : RFun := ⟨31, [0, 1, 2, 3, 4], (Zr Dp9 (.seq (Zr Dq0 (.block 0 (.loop Bo4))) (Zr Dq7 .ret))), [.cellA 2 16]⟩
theorem Q85_ok : Ak Tryz.prog Q85.V ZQ 47 = some Q85 := by kernel_rfl

def Dq8 : Sts := Zq 2 95 0<|Zq 3 95 1<|zA 4 (.alloc 95 [(.int .u64 0), (.int .u64 0), (.int .u64 0), (.int .u64 0), (.int .u64 0), (.int .u64 0), (.int .u64 0), (.int .u64 0), (.int .u64 0), (.int .u64 0), (.int .u64 0), (.int .u64 0), (.int .u64 0), (.int .u64 0), (.int .u64 0), (.int .u64 0)])<|.nil
def Dq9 : Sts := zG 5 0<|.nil
def Dr0 : Sts := zB 6 5<|zA 7 (Zc .lss 6 16)<|.nil
def Bo5 : AT := .q (zD 0 10 5<|zD 1 11 5<|zC 2 12 (.iaddrA 16 1 (.t 2) (.t 11))<|zC 3 13 (.loadI .u64 (.t 12))<|zD 4 14 5<|zC 5 15 (.iaddrA 16 1 (.t 3) (.t 14))<|zC 6 16 (.loadI .u64 (.t 15))<|zC 7 17 (Zb .or 13 16)<|zC 8 18 (.iaddrA 16 1 (.t 2) (.t 10))<|.nil)<|.s 9 none (.store 1 (.t 18) (.t 17)) true (zF<|.fin)<|.no
def Dr1 : Sts := Zu 8 5 9
def Bo6 : RCode := (.seq (Zr Dr0 (ZX 7 0)) (.seq (.block 1 (.any Bo5)) (.reg Dr1)))
def Dr2 : Sts := zA 19 (Zo 16 2)<|Zw 16 4 19<|.nil
def Q95 : RFun := ⟨20, [0, 1, 2, 3, 4, 5], (Zr Dq8 (.seq (Zr Dq9 (.block 0 (.loop Bo6))) (Zr Dr2 .ret))), [.cellA 4 16]⟩
theorem Q95_ok : Ak Tryz.prog Q95.V ZQ 48 = some Q95 := by kernel_rfl

def Dr3 : Sts := zA 2 (.alloc 95 [(.int .u64 0), (.int .u64 0), (.int .u64 0), (.int .u64 0), (.int .u64 0), (.int .u64 0), (.int .u64 0), (.int .u64 0), (.int .u64 0), (.int .u64 0), (.int .u64 0), (.int .u64 0), (.int .u64 0), (.int .u64 0), (.int .u64 0), (.int .u64 0)])<|.nil
def Dr4 : Sts := zA 3 (.alloc 95 [(.int .u64 0), (.int .u64 0), (.int .u64 0), (.int .u64 0), (.int .u64 0), (.int .u64 0), (.int .u64 0), (.int .u64 0), (.int .u64 0), (.int .u64 0), (.int .u64 0), (.int .u64 0), (.int .u64 0), (.int .u64 0), (.int .u64 0), (.int .u64 0)])<|.nil
def Dr5 : Sts := zG 4 0<|.nil
def Dr6 : Sts := Zl 6 4 7 0 8 9
def Dr7 : Sts := zB 12 4<|zA 13 (Zc .add 12 1)<|zB 5 13<|.nil
def Dr8 : Sts := Zl 14 5 15 0 16 17
def Bo7 : AT := .q (zD 0 20 0<|zD 1 21 4<|zC 2 22 (zH 6 20 21)<|zC 3 23 (zI 0 22)<|zC 4 24 (zJ 23)<|zD 5 25 0<|zD 6 26 5<|zC 7 27 (zH 6 25 26)<|zC 8 28 (zI 0 27)<|zC 9 29 (zJ 28)<|zC 10 30 (Zb .eql 24 29)<|.nil)<|.fin
def Dr9 : Sts := zB 31 4<|zB 32 4<|zA 33 (.iaddrA 16 1 (.t 3) (.t 32))<|zA 34 (.loadI .u64 (.t 33))<|zB 35 5<|zA 36 (.conv .u64 (.t 35))<|zA 37 (.bin .shl (.c (.int .u64 1)) (.t 36))<|zA 38 (Zb .or 34 37)<|zA 39 (.iaddrA 16 1 (.t 3) (.t 31))<|ZW 39 38<|.nil
def Ds0 : Sts := Zu 18 5 19
def Bo8 : RCode := (.seq (Zr Dr8 (ZX 17 2)) (.seq (.block 3 (.seq (.any Bo7) (.cond (.t 30) (.reg Dr9) .skip))) (.reg Ds0)))
def Ds1 : Sts := Zu 10 4 11
def Au3 : RCode := (.seq (Zr Dr6 (ZX 9 0)) (.seq (.block 1 (Zr Dr7 (.block 2 (.loop Bo8)))) (.reg Ds1)))
def Bo9 : Sts := zA 40 (Zo 16 3)<|Zw 16 2 40<|.nil
def Q93 : RFun := ⟨41, [0, 2, 3, 4, 5], (Zr Dr3 (Zr Dr4 (.seq (Zr Dr5 (.block 0 (.loop Au3))) (Zr Bo9 .ret)))), [.cellA 2 16]⟩
theorem Q93_ok : Ak Tryz.prog Q93.V ZQ 49 = some Q93 := by kernel_rfl

def Ds2 : Sts := Zq 3 37 1<|zA 4 (.alloc 95 [(.int .u64 0), (.int .u64 0), (.int .u64 0), (.int .u64 0), (.int .u64 0), (.int .u64 0), (.int .u64 0), (.int .u64 0), (.int .u64 0), (.int .u64 0), (.int .u64 0), (.int .u64 0), (.int .u64 0), (.int .u64 0), (.int .u64 0), (.int .u64 0)])<|.nil
def Ds3 : Sts := zA 5 (.alloc 95 [(.int .u64 0), (.int .u64 0), (.int .u64 0), (.int .u64 0), (.int .u64 0), (.int .u64 0), (.int .u64 0), (.int .u64 0), (.int .u64 0), (.int .u64 0), (.int .u64 0), (.int .u64 0), (.int .u64 0), (.int .u64 0), (.int .u64 0), (.int .u64 0)])<|.nil
def Ds4 : Sts := zG 6 0<|.nil
def Ds5 : Sts := Zl 7 6 8 0 9 10
def Ds6 : Sts := ZY 13 14 0 3<|ZZ 15 16 6 1 14<|zA 17 (zJ 16)<|zA 18 (Zc .geq 17 0)<|.nil
def Bp0 : AT := .q (zC 0 19 (zI 0 3)<|zC 1 20 (zK 19)<|zD 2 21 6<|zC 3 22 (zH 1 20 21)<|zC 4 23 (zJ 22)<|zC 5 24 (zI 0 3)<|zC 6 25 (zK 24)<|zD 7 26 6<|zC 8 27 (zH 1 25 26)<|zC 9 28 (zJ 27)<|zC 10 29 (.iaddrA 16 1 (.t 5) (.t 28))<|zC 11 30 (.loadI .u64 (.t 29))<|zD 12 31 6<|zC 13 32 (.conv .u64 (.t 31))<|zC 14 33 (.bin .shl (.c (.int .u64 1)) (.t 32))<|zC 15 34 (Zb .or 30 33)<|zC 16 35 (.iaddrA 16 1 (.t 5) (.t 23))<|.nil)<|.s 17 none (.store 1 (.t 35) (.t 34)) true (zF<|.fin)<|.no
def Ds7 : Sts := Zu 11 6 12
def Bp1 : RCode := (.seq (Zr Ds5 (ZX 10 0)) (.seq (.block 1 (Zr Ds6 (.cond (.t 18) (.any Bp0) .skip))) (.reg Ds7)))
def Ds8 : Sts := zA 36 (Zo 16 5)<|Zw 16 4 36<|.nil
def Q88 : RFun := ⟨37, [0, 1, 3, 4, 5, 6], (Zr Ds2 (Zr Ds3 (.seq (Zr Ds4 (.block 0 (.loop Bp1))) (Zr Ds8 .ret)))), [.cellA 4 16]⟩
theorem Q88_ok : Ak Tryz.prog Q88.V ZQ 50 = some Q88 := by kernel_rfl

def Ds9 : Sts := Zq 1 37 0<|zA 2 (.alloc 95 [(.int .u64 0), (.int .u64 0), (.int .u64 0), (.int .u64 0), (.int .u64 0), (.int .u64 0), (.int .u64 0), (.int .u64 0), (.int .u64 0), (.int .u64 0), (.int .u64 0), (.int .u64 0), (.int .u64 0), (.int .u64 0), (.int .u64 0), (.int .u64 0)])<|.nil
def Dt0 : Sts := zA 3 (.alloc 95 [(.int .u64 0), (.int .u64 0), (.int .u64 0), (.int .u64 0), (.int .u64 0), (.int .u64 0), (.int .u64 0), (.int .u64 0), (.int .u64 0), (.int .u64 0), (.int .u64 0), (.int .u64 0), (.int .u64 0), (.int .u64 0), (.int .u64 0), (.int .u64 0)])<|.nil
def Dt1 : Sts := zG 4 0<|.nil
def Dt2 : Sts := zB 6 4<|ZY 7 8 3 1<|zA 9 (zM 8)<|zA 10 (Zb .lss 6 9)<|.nil
def Dt3 : Sts := zB 13 4<|zA 14 (Zc .add 13 1)<|zB 5 14<|.nil
def Dt4 : Sts := zB 15 5<|ZY 16 17 3 1<|zA 18 (zM 17)<|zA 19 (Zb .lss 15 18)<|.nil
def Bp2 : AT := .q (zC 0 22 (zI 3 1)<|zC 1 23 (zK 22)<|zD 2 24 4<|zC 3 25 (zH 1 23 24)<|zC 4 26 (zJ 25)<|zC 5 27 (zI 3 1)<|zC 6 28 (zK 27)<|zD 7 29 4<|zC 8 30 (zH 1 28 29)<|zC 9 31 (zJ 30)<|zC 10 32 (.iaddrA 16 1 (.t 3) (.t 31))<|zC 11 33 (.loadI .u64 (.t 32))<|zC 12 34 (zI 3 1)<|zC 13 35 (zK 34)<|zD 14 36 5<|zC 15 37 (zH 1 35 36)<|zC 16 38 (zJ 37)<|zC 17 39 (.conv .u64 (.t 38))<|zC 18 40 (.bin .shl (.c (.int .u64 1)) (.t 39))<|zC 19 41 (Zb .or 33 40)<|zC 20 42 (.iaddrA 16 1 (.t 3) (.t 26))<|.nil)<|.s 21 none (.store 1 (.t 42) (.t 41)) true (zF<|.fin)<|.no
def Dt5 : Sts := Zu 20 5 21
def Bp3 : RCode := (.seq (Zr Dt4 (ZX 19 2)) (.seq (.block 3 (.any Bp2)) (.reg Dt5)))
def Dt6 : Sts := Zu 11 4 12
def Bp4 : RCode := (.seq (Zr Dt2 (ZX 10 0)) (.seq (.block 1 (Zr Dt3 (.block 2 (.loop Bp3)))) (.reg Dt6)))
def Dt7 : Sts := zA 43 (Zo 16 3)<|Zw 16 2 43<|.nil
def Q94 : RFun := ⟨44, [0, 1, 2, 3, 4, 5], (Zr Ds9 (Zr Dt0 (.seq (Zr Dt1 (.block 0 (.loop Bp4))) (Zr Dt7 .ret)))), [.cellA 2 16]⟩
theorem Q94_ok : Ak Tryz.prog Q94.V ZQ 51 = some Q94 := by kernel_rfl

def Dt8 : Sts := Zq 2 95 0<|Zq 3 95 1<|Zm 4 Zf<|.nil
def Dt9 : Sts := zA 7 (Zo 16 2)<|zA 8 (Z1 46 7)<|.nil
def Du0 : Sts := zA 4 (.mv (.c (.bool true)))<|.nil
def Du1 : Sts := zG 5 0<|.nil
def Du2 : Sts := zB 9 5<|zA 10 (Zc .lss 9 16)<|.nil
def Du3 : Sts := zG 6 0<|.nil
def Du4 : Sts := zB 13 6<|zA 14 (Zc .lss 13 16)<|.nil
def Du5 : Sts := zB 17 5<|zA 18 (.iaddrA 16 1 (.t 2) (.t 17))<|zA 19 (.loadI .u64 (.t 18))<|zB 20 6<|zA 21 (.conv .u64 (.t 20))<|zA 22 (Zb .shr 19 21)<|zA 23 (.bin .and (.t 22) (.c (.int .u64 1)))<|zA 24 (.bin .eql (.t 23) (.c (.int .u64 1)))<|zB 25 24<|.cnd 25 true (zB 26 6<|zA 27 (.iaddrA 16 1 (.t 3) (.t 26))<|zA 28 (.loadI .u64 (.t 27))<|zB 29 5<|zA 30 (.conv .u64 (.t 29))<|zA 31 (Zb .shr 28 30)<|zA 32 (.bin .and (.t 31) (.c (.int .u64 1)))<|zA 33 (.bin .eql (.t 32) (.c (.int .u64 1)))<|.nil) 34 (.t 33)<|.nil
def Du6 : Sts := zA 4 (.mv (.c (.bool true)))<|.nil
def Du7 : Sts := Zu 15 6 16
def Au4 : RCode := (.seq (Zr Du4 (ZX 14 2)) (.seq (.block 3 (Zr Du5 (.cond (.t 34) (Zr Du6 .ret) .skip))) (.reg Du7)))
def Bp5 : Sts := Zu 11 5 12
def Au5 : RCode := (.seq (Zr Du2 (ZX 10 0)) (.seq (.block 1 (Zr Du3 (.block 2 (.loop Au4)))) (.reg Bp5)))
def Bp6 : Sts := Zm 4 Zf<|.nil
def Q83 : RFun := ⟨35, [0, 1, 2, 3, 4, 5, 6], (Zr Dt8 (.seq (Zr Dt9 (.cond (.t 8) (Zr Du0 .ret) .skip)) (.seq (Zr Du1 (.block 0 (.loop Au5))) (Zr Bp6 .ret)))), [.tmp 4]⟩
theorem Q83_ok : Ak Tryz.prog Q83.V ZQ 52 = some Q83 := by kernel_rfl

def Du8 : Sts := Zq 3 37 1<|zA 4 (.alloc 95 [(.int .u64 0), (.int .u64 0), (.int .u64 0), (.int .u64 0), (.int .u64 0), (.int .u64 0), (.int .u64 0), (.int .u64 0), (.int .u64 0), (.int .u64 0), (.int .u64 0), (.int .u64 0), (.int .u64 0), (.int .u64 0), (.int .u64 0), (.int .u64 0)])<|.nil
def Bp7 : AT := .q (zD 0 5 0<|zD 2 7 0<|zC 3 8 (Zo 4 3)<|zC 5 10 (Zo 4 3)<|.nil)<|zE 1 6 (Z1 49 5) false (zF<|zE 4 9 (Z2 95 7 8) false (zF<|zE 6 11 (Z1 51 10) true (zF<|zE 7 12 (Z2 48 9 11) true (zF<|zE 8 13 (Z2 48 6 12) true (zF<|zE 9 14 (Z1 47 13) true (zF<|.s 10 none (.store 16 (.t 4) (.t 14)) true (zF<|.fin)<|.no)<|.no)<|.no)<|.no)<|.no)<|.no)<|.no
def Q82 : RFun := ⟨15, [0, 1, 3, 4], (Zr Du8 (.seq (.any Bp7) .ret)), [.cellA 4 16]⟩
theorem Q82_ok : Ak Tryz.prog Q82.V ZQ 53 = some Q82 := by kernel_rfl

def Du9 : Sts := Zq 3 37 1<|zA 4 (.alloc 95 [(.int .u64 0), (.int .u64 0), (.int .u64 0), (.int .u64 0), (.int .u64 0), (.int .u64 0), (.int .u64 0), (.int .u64 0), (.int .u64 0), (.int .u64 0), (.int .u64 0), (.int .u64 0), (.int .u64 0), (.int .u64 0), (.int .u64 0), (.int .u64 0)])<|.nil
def Dv0 : Sts := zB 12 0<|zA 13 (Zo 4 3)<|zA 14 (Z2 50 12 13)<|zA 5 (.alloc 95 [(.int .u64 0), (.int .u64 0), (.int .u64 0), (.int .u64 0), (.int .u64 0), (.int .u64 0), (.int .u64 0), (.int .u64 0), (.int .u64 0), (.int .u64 0), (.int .u64 0), (.int .u64 0), (.int .u64 0), (.int .u64 0), (.int .u64 0), (.int .u64 0)])<|Zw 16 5 14<|.nil
def Dv1 : Sts := zG 6 0<|.nil
def Dv2 : Sts := zB 15 6<|zA 16 (Zc .lss 15 3)<|.nil
def Dv3 : Sts := zG 7 0<|.nil
def Dv4 : Sts := zB 19 7<|ZY 20 21 2 3<|ZZ 22 23 6 1 21<|zA 24 (zK 23)<|zA 25 (zM 24)<|zA 26 (Zb .lss 19 25)<|.nil
def Dv5 : Sts := ZY 29 30 2 3<|ZZ 31 32 6 1 30<|zA 33 (zK 32)<|ZZ 34 35 7 1 33<|zA 36 (zJ 35)<|zB 8 36<|.nil
def Dv6 : Sts := zB 37 7<|zA 38 (Zc .add 37 1)<|zB 9 38<|.nil
def Dv7 : Sts := zB 39 9<|ZY 40 41 2 3<|ZZ 42 43 6 1 41<|zA 44 (zK 43)<|zA 45 (zM 44)<|zA 46 (Zb .lss 39 45)<|.nil
def Bp8 : AT := .q (zD 0 49 8<|zD 1 50 8<|zC 2 51 (.iaddrA 16 1 (.t 5) (.t 50))<|zC 3 52 (.loadI .u64 (.t 51))<|zC 4 53 (zI 2 3)<|zC 5 54 (zK 53)<|zD 6 55 6<|zC 7 56 (zH 1 54 55)<|zC 8 57 (zK 56)<|zD 9 58 9<|zC 10 59 (zH 1 57 58)<|zC 11 60 (zJ 59)<|zC 12 61 (.conv .u64 (.t 60))<|zC 13 62 (.bin .shl (.c (.int .u64 1)) (.t 61))<|zC 14 63 (Zb .or 52 62)<|zC 15 64 (.iaddrA 16 1 (.t 5) (.t 49))<|.nil)<|.s 16 none (.store 1 (.t 64) (.t 63)) true (zF<|.fin)<|.no
def Bp9 : Sts := Zu 47 9 48
def Au6 : RCode := (.seq (Zr Dv7 (ZX 46 4)) (.seq (.block 5 (.any Bp8)) (.reg Bp9)))
def Bq0 : Sts := zG 10 0<|.nil
def Bq1 : Sts := Zl 65 10 66 0 67 68
def Bq2 : Sts := ZY 71 72 0 3<|ZZ 73 74 10 1 72<|zA 75 (zJ 74)<|zA 76 (.bin .eql (.t 75) (.c (.int .i64 (-1))))<|zB 77 76<|.cnd 77 true (zB 78 0<|ZZ 79 80 10 6 78<|zA 81 (zI 1 80)<|Zy 82 83 1 81<|zB 84 6<|zA 85 (Zb .eql 83 84)<|.nil) 86 (.t 85)<|zB 87 86<|.cnd 87 true (zB 88 8<|zB 89 10<|zA 90 (Zb .neq 88 89)<|.nil) 91 (.t 90)<|.nil
def Bq3 : Sts := zB 92 10<|zB 93 10<|zA 94 (.iaddrA 16 1 (.t 5) (.t 93))<|zA 95 (.loadI .u64 (.t 94))<|zB 96 8<|zA 97 (.conv .u64 (.t 96))<|zA 98 (.bin .shl (.c (.int .u64 1)) (.t 97))<|zA 99 (Zb .or 95 98)<|zA 100 (.iaddrA 16 1 (.t 5) (.t 92))<|ZW 100 99<|.nil
def Bq4 : Sts := zB 101 7<|zA 102 (Zc .add 101 1)<|zB 11 102<|.nil
def Bq5 : Sts := zB 103 11<|ZY 104 105 2 3<|ZZ 106 107 6 1 105<|zA 108 (zK 107)<|zA 109 (zM 108)<|zA 110 (Zb .lss 103 109)<|.nil
def Bq6 : Sts := ZY 113 114 0 3<|ZZ 115 116 10 1 114<|zA 117 (zJ 116)<|zB 118 8<|zA 119 (Zb .eql 117 118)<|zB 120 119<|.cnd 120 true (ZY 121 122 2 3<|ZZ 123 124 6 1 122<|zA 125 (zK 124)<|ZZ 126 127 11 1 125<|zA 128 (zJ 127)<|zB 129 10<|zA 130 (Zb .neq 128 129)<|.nil) 131 (.t 130)<|.nil
def Ap2 : AT := .q (zD 0 132 10<|zD 1 133 10<|zC 2 134 (.iaddrA 16 1 (.t 5) (.t 133))<|zC 3 135 (.loadI .u64 (.t 134))<|zC 4 136 (zI 2 3)<|zC 5 137 (zK 136)<|zD 6 138 6<|zC 7 139 (zH 1 137 138)<|zC 8 140 (zK 139)<|zD 9 141 11<|zC 10 142 (zH 1 140 141)<|zC 11 143 (zJ 142)<|zC 12 144 (.conv .u64 (.t 143))<|zC 13 145 (.bin .shl (.c (.int .u64 1)) (.t 144))<|zC 14 146 (Zb .or 135 145)<|zC 15 147 (.iaddrA 16 1 (.t 5) (.t 132))<|.nil)<|.s 16 none (.store 1 (.t 147) (.t 146)) true (zF<|.fin)<|.no
def Bq7 : Sts := Zu 111 11 112
def Au7 : RCode := (.seq (Zr Bq5 (ZX 110 8)) (.seq (.block 9 (Zr Bq6 (.cond (.t 131) (.any Ap2) .skip))) (.reg Bq7)))
def Bq8 : Sts := Zu 69 10 70
def Au8 : RCode := (.seq (Zr Bq1 (ZX 68 6)) (.seq (.block 7 (.seq (Zr Bq2 (.cond (.t 91) (.reg Bq3) .skip)) (Zr Bq4 (.block 8 (.loop Au7))))) (.reg Bq8)))
def Bq9 : Sts := Zu 27 7 28
def Au9 : RCode := (.seq (Zr Dv4 (ZX 26 2)) (.seq (.block 3 (Zr Dv5 (.seq (Zr Dv6 (.block 4 (.loop Au6))) (Zr Bq0 (.block 6 (.loop Au8)))))) (.reg Bq9)))
def Br0 : Sts := Zu 17 6 18
def Av0 : RCode := (.seq (Zr Dv2 (ZX 16 0)) (.seq (.block 1 (Zr Dv3 (.block 2 (.loop Au9)))) (.reg Br0)))
def Br1 : Sts := zA 148 (Zo 16 5)<|zA 149 (Z1 47 148)<|Zw 16 4 149<|.nil
def Q92 : RFun := ⟨150, [0, 1, 3, 4, 5, 6, 7, 8, 9, 10, 11], (Zr Du9 (Zr Dv0 (.seq (Zr Dv1 (.block 0 (.loop Av0))) (Zr Br1 .ret)))), [.cellA 4 16]⟩
theorem Q92_ok : Ak Tryz.prog Q92.V ZQ 54 = some Q92 := by kernel_rfl

def Dv8 : Sts := Zq 1 83 0<|Zm 2 Zf<|.nil
def Dv9 : Sts := Zy 3 4 0 1<|zA 5 (Zc .eql 4 0)<|zB 6 5<|.cnd 6 false (Zy 7 8 0 1<|zA 9 (Zc .geq 8 2)<|zB 10 9<|.cnd 10 true (Zy 11 12 0 1<|zA 13 (Zc .leq 12 4)<|.nil) 14 (.t 13)<|.nil) 15 (.t 14)<|zB 2 15<|.nil
def Q90 : RFun := ⟨16, [0, 1, 2], (Zr Dv8 (Zr Dv9 .ret)), [.tmp 2]⟩
theorem Q90_ok : Ak Tryz.prog Q90.V ZQ 56 = some Q90 := by kernel_rfl

def Dw0 : Sts := Zq 1 24 0<|Zm 2 Zf<|.nil
def Dw1 : Sts := ZY 10 11 0 1<|zA 12 (zM 11)<|zA 13 (Zc .gtr 12 3)<|.nil
def Dw2 : Sts := Zm 2 Zf<|.nil
def Dw3 : Sts := zG 3 0<|zG 4 0<|.nil
def Dw4 : Sts := zA 5 (.alloc 142 [Zi, Zi, Zi])<|.nil
def Dw5 : Sts := ZY 14 15 0 1<|zA 16 (zM 15)<|zG 17 0<|.nil
def Dw6 : Sts := zA 18 (Zb .lss 17 16)<|.nil
def Dw7 : Sts := zA 19 (zH 1 15 17)<|zA 20 (zK 19)<|zB 7 20<|.nil
def Dw8 : Sts := zB 21 7<|zA 22 (zM 21)<|zG 23 0<|.nil
def Dw9 : Sts := zA 24 (Zb .lss 23 22)<|.nil
def Br2 : Sts := zA 25 (zH 5 21 23)<|zA 26 (Zo 5 25)<|zA 9 (.alloc 83 [Zi, Zi, Zi, Zi, Zi])<|Zw 5 9 26<|.nil
def Br3 : Sts := Zy 28 29 0 9<|zA 30 (Zc .eql 29 5)<|zB 27 30<|.nil
def Br4 : Sts := Zu 31 4 32
def Br5 : Sts := zA 34 (Zo 5 9)<|zA 35 (Z1 71 34)<|zB 33 35<|.nil
def Br6 : Sts := Zu 36 3 37
def Br7 : Sts := Zy 38 39 4 9<|zA 40 (Zc .eql 39 4)<|.nil
def Br8 : Sts := zB 41 4<|zA 42 (Zc .add 41 2)<|zB 4 42<|.nil
def Br9 : Sts := Zy 43 44 0 9<|zA 45 (Zc .neq 44 0)<|zB 46 45<|.cnd 46 true (Zy 47 48 1 9<|zA 49 (Zc .geq 48 0)<|.nil) 50 (.t 49)<|zB 51 50<|.cnd 51 true (Zy 52 53 1 9<|zA 54 (Zc .lss 53 3)<|.nil) 55 (.t 54)<|.nil
def Bs0 : Sts := Zy 56 57 1 9<|zA 58 (.iaddrA 3 1 (.t 5) (.t 57))<|zA 59 (zJ 58)<|zA 60 (Zc .add 59 1)<|zA 61 (.iaddrA 3 1 (.t 5) (.t 57))<|ZW 61 60<|.nil
def Bs1 : Sts := zA 62 (Zc .add 23 1)<|zB 23 62<|.nil
def Av1 : RCode := (Zr Dw9 (.seq (ZX 24 2) (.seq (.block 3 (Zr Br2 (.block 4 (Zr Br3 (.cond (.t 27) (.reg Br4) (Zr Br5 (.cond (.t 33) (Zr Br6 (.seq (Zr Br7 (.cond (.t 40) (.reg Br8) .skip)) (Zr Br9 (.cond (.t 55) (.reg Bs0) .skip)))) .skip))))))) (.reg Bs1))))
def Bs2 : Sts := zA 63 (Zc .add 17 1)<|zB 17 63<|.nil
def Av2 : RCode := (Zr Dw6 (.seq (ZX 18 0) (.seq (.block 1 (Zr Dw7 (Zr Dw8 (.block 2 (.loop Av1))))) (.reg Bs2))))
def Bs3 : Sts := zB 64 3<|zA 65 (Zc .leq 64 6)<|zB 66 65<|.cnd 66 true (zB 67 4<|zA 68 (Zc .leq 67 8)<|.nil) 69 (.t 68)<|zB 70 69<|.cnd 70 true (zA 71 (.slA 3 1 (.t 5) none none)<|zA 72 (Z1 98 71)<|zA 73 (Zc .leq 72 4)<|.nil) 74 (.t 73)<|zB 2 74<|.nil
def Q50 : RFun := ⟨75, [0, 1, 2, 3, 4, 5, 7, 9, 15, 16, 17, 21, 22, 23], (Zr Dw0 (.seq (Zr Dw1 (.cond (.t 13) (Zr Dw2 .ret) .skip)) (Zr Dw3 (Zr Dw4 (.seq (Zr Dw5 (.block 0 (.loop Av2))) (Zr Bs3 .ret)))))), [.tmp 2]⟩
theorem Q50_ok : Ak Tryz.prog Q50.V ZQ 63 = some Q50 := by kernel_rfl

def Dx0 : Sts := Zm 4 Zf<|zG 5 0<|.nil
def Dx1 : Sts := zB 6 0<|zA 7 (Zc .lss 6 0)<|zB 8 7<|.cnd 8 false (zB 9 0<|zA 10 (Zc .geq 9 6)<|.nil) 11 (.t 10)<|zB 12 11<|.cnd 12 false (zB 13 1<|zA 14 (Z1 96 13)<|zA 15 (Zt 14)<|.nil) 16 (.t 15)<|.nil
def Dx2 : Sts := Zm 4 Zf<|zG 5 1<|.nil
def Dx3 : Sts := zB 17 0<|zB 18 1<|zA 19 (Z2 99 17 18)<|zB 4 19<|zG 5 0<|.nil
def Q99 : RFun := ⟨20, [0, 1, 4, 5], (Zr Dx0 (.seq (Zr Dx1 (.cond (.t 16) (Zr Dx2 .ret) .skip)) (Zr Dx3 .ret))), [.tmp 4, .tmp 5]⟩
theorem Q99_ok : Ak Tryz.prog Q99.V ZQ 64 = some Q99 := by kernel_rfl

def Dx4 : Sts := Zq 1 83 0<|Zm 2 Zf<|.nil
def Dx5 : Sts := Zy 3 4 1 1<|zA 5 (Zc .lss 4 0)<|zB 6 5<|.cnd 6 false (Zy 7 8 1 1<|zA 9 (Zc .geq 8 3)<|.nil) 10 (.t 9)<|.nil
def Dx6 : Sts := Zm 2 Zf<|.nil
def Dx7 : Sts := Zy 11 12 0 1<|.nil
def Dx8 : Sts := zA 14 (Zc .eql 12 0)<|zB 13 14<|.nil
def Dx9 : Sts := Zy 15 16 2 1<|zA 17 (Zc .eql 16 0)<|zB 18 17<|.cnd 18 true (Zy 19 20 3 1<|zA 21 (Zc .eql 20 0)<|.nil) 22 (.t 21)<|zB 2 22<|.nil
def Dy0 : Sts := zA 24 (Zc .eql 12 1)<|zB 23 24<|.nil
def Dy1 : Sts := Zy 25 26 2 1<|zA 27 (Z1 100 26)<|zB 28 27<|.cnd 28 true (Zy 29 30 3 1<|zA 31 (Zc .eql 30 0)<|.nil) 32 (.t 31)<|zB 2 32<|.nil
def Dy2 : Sts := zA 34 (Zc .eql 12 2)<|zB 33 34<|.nil
def Dy3 : Sts := Zy 35 36 2 1<|zA 37 (.bin .geq (.t 36) (.c (.int .i64 (-9))))<|zB 38 37<|.cnd 38 true (Zy 39 40 2 1<|zA 41 (Zc .leq 40 9)<|.nil) 42 (.t 41)<|zB 43 42<|.cnd 43 true (Zy 44 45 3 1<|zA 46 (Zc .eql 45 0)<|.nil) 47 (.t 46)<|zB 2 47<|.nil
def Bs4 : Sts := zA 49 (Zc .eql 12 3)<|zB 48 49<|.nil
def Bs5 : Sts := zA 50 (Zc .eql 12 4)<|zB 48 50<|.nil
def Bs6 : Sts := Zy 51 52 2 1<|zA 53 (Z1 100 52)<|zB 54 53<|.cnd 54 true (Zy 55 56 3 1<|zA 57 (Z1 100 56)<|.nil) 58 (.t 57)<|zB 2 58<|.nil
def Bs7 : Sts := zA 60 (Zc .eql 12 5)<|zB 59 60<|.nil
def Bs8 : Sts := Zy 61 62 1 1<|zA 63 (Zc .eql 62 0)<|zB 64 63<|.cnd 64 true (Zy 65 66 2 1<|zA 67 (Zc .eql 66 0)<|.nil) 68 (.t 67)<|zB 69 68<|.cnd 69 true (Zy 70 71 3 1<|zA 72 (Zc .eql 71 0)<|.nil) 73 (.t 72)<|zB 2 73<|.nil
def Bs9 : Sts := Zm 2 Zf<|.nil
def Q49 : RFun := ⟨74, [0, 1, 2, 12], (Zr Dx4 (.seq (Zr Dx5 (.cond (.t 10) (Zr Dx6 .ret) .skip)) (.seq (Zr Dx7 (.block 0 (Zr Dx8 (.cond (.t 13) (Zr Dx9 .ret) (Zr Dy0 (.cond (.t 23) (Zr Dy1 .ret) (Zr Dy2 (.cond (.t 33) (Zr Dy3 .ret) (.seq (Zr Bs4 (.cond (.t 48) .skip (.reg Bs5))) (.cond (.t 48) (Zr Bs6 .ret) (Zr Bs7 (.cond (.t 59) (Zr Bs8 .ret) .skip)))))))))))) (Zr Bs9 .ret)))), [.tmp 2]⟩
theorem Q49_ok : Ak Tryz.prog Q49.V ZQ 65 = some Q49 := by kernel_rfl

def Fi1 : Sts := Zq 3 45 1<|Zm 4 Zn<|.nil
def Fi2 : Sts := zB 11 0<|zA 12 (Zo 4 3)<|zA 13 (Z2 102 11 12)<|zB 5 13<|.nil
def Fi3 : Sts := zB 14 0<|zA 15 (zM 14)<|zG 16 0<|.nil
def Fi4 : Sts := zA 17 (Zb .lss 16 15)<|.nil
def Fi5 : Sts := zB 18 16<|zB 6 18<|.nil
def Fi6 : Sts := zB 19 0<|ZZ 20 21 6 6 19<|zA 22 (Zo 6 21)<|zA 23 (Z1 86 22)<|zA 24 (Zt 23)<|zB 25 24<|.cnd 25 false (ZY 26 27 0 3<|ZZ 28 29 6 1 27<|zA 30 (zJ 29)<|zA 31 (Zc .lss 30 0)<|.nil) 32 (.t 31)<|.nil
def Fi7 : Sts := zA 7 (.mv (.c (.int .u32 0)))<|.nil
def Fi8 : Sts := ZY 33 34 0 3<|ZZ 35 36 6 1 34<|zA 37 (zJ 36)<|zB 8 37<|.nil
def Fi9 : Sts := zB 38 0<|zA 39 (zM 38)<|zG 40 0<|.nil
def Fj0 : Sts := zA 41 (Zb .lss 40 39)<|.nil
def Dy4 : Sts := zB 42 7<|zB 43 0<|zB 44 8<|zA 45 (Z2 103 43 44)<|zA 46 (Zb .or 42 45)<|zB 7 46<|.nil
def Dy5 : Sts := zB 47 0<|zA 48 (Zo 4 3)<|zB 49 8<|zA 50 (.call 104 [(.t 47), (.t 48), (.t 49)])<|zA 51 (Zt 50)<|zB 52 51<|.cnd 52 false (ZY 53 54 0 3<|ZZ 55 56 8 1 54<|zA 57 (zJ 56)<|zA 58 (Zc .lss 57 0)<|.nil) 59 (.t 58)<|.nil
def Dy6 : Sts := ZY 60 61 0 3<|ZZ 62 63 8 1 61<|zA 64 (zJ 63)<|zB 8 64<|.nil
def Dy7 : Sts := zA 65 (Zc .add 40 1)<|zB 40 65<|.nil
def Bt0 : RCode := (Zr Fj0 (.seq (ZX 41 2) (.seq (.block 3 (Zr Dy4 (.seq (Zr Dy5 (Zs 59 2)) (.reg Dy6)))) (.reg Dy7))))
def Dy8 : Sts := zB 66 0<|zB 67 6<|zA 68 (Z2 105 66 67)<|zB 9 68<|.nil
def Dy9 : Sts := zB 69 0<|zA 70 (zM 69)<|zG 71 0<|.nil
def Dz0 : Sts := zA 72 (Zb .lss 71 70)<|.nil
def Dz1 : Sts := zB 73 71<|zB 10 73<|.nil
def Dz2 : Sts := zB 74 7<|zB 75 10<|zA 76 (Zb .shr 74 75)<|zA 77 (.bin .and (.t 76) (.c (.int .u32 1)))<|zA 78 (.bin .eql (.t 77) (.c (.int .u32 1)))<|.nil
def Dz3 : Sts := zB 79 5<|ZZ 80 81 10 1 79<|zA 82 (.loadI .u32 (.t 81))<|zB 83 9<|zA 84 (Zb .or 82 83)<|zA 85 (zH 1 79 80)<|ZW 85 84<|.nil
def Dz4 : Sts := zA 86 (Zc .add 71 1)<|zB 71 86<|.nil
def Bt1 : RCode := (Zr Dz0 (.seq (ZX 72 4) (.seq (.block 5 (Zr Dz1 (Zr Dz2 (.cond (.t 78) (.reg Dz3) .skip)))) (.reg Dz4))))
def Dz5 : Sts := zA 87 (Zc .add 16 1)<|zB 16 87<|.nil
def Bt2 : RCode := (Zr Fi4 (.seq (ZX 17 0) (.seq (.block 1 (Zr Fi5 (.seq (Zr Fi6 (Zs 32 1)) (Zr Fi7 (Zr Fi8 (.seq (Zr Fi9 (.block 2 (.loop Bt0))) (Zr Dy8 (Zr Dy9 (.block 4 (.loop Bt1)))))))))) (.reg Dz5))))
def Dz6 : Sts := zB 88 5<|zA 89 (Z1 106 88)<|zB 4 89<|.nil
def Q9 : RFun := ⟨90, [0, 1, 3, 4, 5, 6, 7, 8, 9, 10, 15, 16, 39, 40, 70, 71], (Zr Fi1 (Zr Fi2 (.seq (Zr Fi3 (.block 0 (.loop Bt2))) (Zr Dz6 .ret)))), [.tmp 4]⟩
theorem Q9_ok : Ak Tryz.prog Q9.V ZQ 67 = some Q9 := by kernel_rfl

def Dz7 : Sts := Zm 6 Zf<|.nil
def Dz8 : Sts := zB 7 0<|ZZ 8 9 1 1 7<|zA 10 (.loadI .u32 (.t 9))<|zB 11 2<|zA 12 (Zb .shr 10 11)<|zA 13 (.bin .and (.t 12) (.c (.int .u32 1)))<|zA 14 (.bin .eql (.t 13) (.c (.int .u32 1)))<|zB 6 14<|.nil
def Q40 : RFun := ⟨15, [0, 1, 2, 6], (Zr Dz7 (Zr Dz8 .ret)), [.tmp 6]⟩
theorem Q40_ok : Ak Tryz.prog Q40.V ZQ 68 = some Q40 := by kernel_rfl

def Dz9 : Sts := Zq 2 24 0<|zA 4 (.alloc 24 [Zn])<|.nil
def Ea0 : Sts := zA 5 (.alloc 24 [Zn])<|.nil
def Ea1 : Sts := ZY 12 13 0 2<|zA 14 (zM 13)<|zG 15 0<|.nil
def Ea2 : Sts := zA 16 (Zb .lss 15 14)<|.nil
def Ea3 : Sts := zA 17 (zH 1 13 15)<|zA 18 (zK 17)<|zB 7 18<|.nil
def Ea4 : Sts := Zm 8 Zn<|.nil
def Ea5 : Sts := zA 9 (.mv (.c (.bool true)))<|.nil
def Ea6 : Sts := zB 19 7<|zA 20 (zM 19)<|zG 21 0<|.nil
def Ea7 : Sts := zA 22 (Zb .lss 21 20)<|.nil
def Ea8 : Sts := zA 23 (zH 5 19 21)<|zA 24 (Zo 5 23)<|zA 11 (.alloc 83 [Zi, Zi, Zi, Zi, Zi])<|Zw 5 11 24<|.nil
def Bt3 : Sts := zB 25 8<|zB 26 1<|zA 27 (Zo 5 11)<|zB 28 9<|zA 29 (.callv (.t 26) [(.t 27), (.t 28)])<|zA 30 (.append 83 5 40 [Zi, Zi, Zi, Zi, Zi] (.t 25) (.t 29))<|zB 8 30<|.nil
def Bt4 : Sts := zB 31 9<|zB 32 31<|.cnd 32 true (zA 33 (Zo 5 11)<|zA 34 (Z1 71 33)<|zA 35 (Zt 34)<|.nil) 36 (.t 35)<|zB 9 36<|.nil
def Bt5 : Sts := zA 37 (Zc .add 21 1)<|zB 21 37<|.nil
def Av3 : RCode := (Zr Ea7 (.seq (ZX 22 2) (.seq (.block 3 (Zr Ea8 (Zr Bt3 (.reg Bt4)))) (.reg Bt5))))
def Bt6 : Sts := ZY 38 39 0 5<|zB 40 8<|zA 41 (.buildSl 70 1 [Zn] [(0, 1, (.t 40))])<|zA 42 (.append 70 1 24 [Zn] (.t 39) (.t 41))<|zA 43 (zI 0 5)<|ZW 43 42<|.nil
def Bt7 : Sts := zA 44 (Zc .add 15 1)<|zB 15 44<|.nil
def Av4 : RCode := (Zr Ea2 (.seq (ZX 16 0) (.seq (.block 1 (Zr Ea3 (Zr Ea4 (Zr Ea5 (.seq (Zr Ea6 (.block 2 (.loop Av3))) (.reg Bt6)))))) (.reg Bt7))))
def Bt8 : Sts := zA 45 (Zo 1 5)<|ZW 4 45<|.nil
def Q51 : RFun := ⟨46, [0, 1, 2, 4, 5, 7, 8, 9, 11, 13, 14, 15, 19, 20, 21], (Zr Dz9 (Zr Ea0 (.seq (Zr Ea1 (.block 0 (.loop Av4))) (Zr Bt8 .ret)))), [.cellA 4 1]⟩
theorem Q51_ok : Ak Tryz.prog Q51.V ZQ 69 = some Q51 := by kernel_rfl

def Ea9 : Sts := Zq 2 83 0<|Zm 4 Zn<|.nil
def Eb0 : Sts := zA 5 (Zo 5 2)<|zA 6 (Z1 71 5)<|zA 7 (Zt 6)<|zB 8 7<|.cnd 8 false (Zy 9 10 4 2<|zA 11 (Zc .neq 10 4)<|.nil) 12 (.t 11)<|.nil
def Eb1 : Sts := zA 13 (Zo 5 2)<|zA 14 (.buildSl 83 1 [Zi, Zi, Zi, Zi, Zi] [(0, 5, (.t 13))])<|zB 4 14<|.nil
def Eb2 : Sts := Zy 16 17 0 2<|Zy 18 19 4 2<|zA 20 (Z2 72 17 19)<|zB 15 20<|zA 21 (Zx 0 15)<|zA 22 (Zx 1 15)<|zA 23 (zI 4 2)<|ZW 23 21<|.nil
def Eb3 : AT := .q (zC 1 25 (Zo 5 2)<|.nil)<|zE 0 24 (.call 73 []) false (zF<|zE 2 26 (.call 73 []) false (zF<|zE 3 27 (.buildSl 83 3 [Zi, Zi, Zi, Zi, Zi, Zi, Zi, Zi, Zi, Zi, Zi, Zi, Zi, Zi, Zi] [(0, 5, (.t 24)), (5, 5, (.t 25)), (10, 5, (.t 26))]) true (.q (zD 4 4 27<|.nil)<|.fin)<|.no)<|.no)<|.no
def Q46 : RFun := ⟨28, [0, 2, 4], (Zr Ea9 (.seq (Zr Eb0 (.cond (.t 12) (Zr Eb1 .ret) .skip)) (Zr Eb2 (.seq (.any Eb3) .ret)))), [.tmp 4]⟩
theorem Q46_ok : Ak Tryz.prog Q46.V ZQ 70 = some Q46 := by kernel_rfl

def Eb4 : Sts := Zq 1 83 0<|Zm 2 Zf<|.nil
def Eb5 : Sts := Zy 3 4 0 1<|zA 5 (Zc .geq 4 0)<|zB 6 5<|.cnd 6 true (Zy 7 8 0 1<|zA 9 (Zc .leq 8 4)<|.nil) 10 (.t 9)<|zB 2 10<|.nil
def Q47 : RFun := ⟨11, [0, 1, 2], (Zr Eb4 (Zr Eb5 .ret)), [.tmp 2]⟩
theorem Q47_ok : Ak Tryz.prog Q47.V ZQ 71 = some Q47 := by kernel_rfl

def Bt9 : Sts := zG 4 0<|zG 5 0<|.nil
def Bu0 : Sts := zB 9 0<|zB 10 1<|zA 11 (Z2 64 9 10)<|zB 8 11<|zA 12 (Zx 0 8)<|zA 13 (Zx 1 8)<|zB 6 12<|zB 7 13<|.nil
def Bu1 : Sts := zB 15 7<|zA 16 (Zc .neq 15 0)<|zB 17 16<|.cnd 17 false (zB 18 6<|zA 19 (Zt 18)<|.nil) 20 (.t 19)<|zB 21 20<|.cnd 21 false (zB 22 0<|zA 23 (Zc .eql 22 5)<|.nil) 24 (.t 23)<|zB 14 24<|.nil
def Bu2 : Sts := zG 4 0<|zG 5 1<|.nil
def Bu3 : Sts := zB 26 1<|zA 27 (Zc .neq 26 4)<|zB 25 27<|.nil
def Bu4 : Sts := zB 28 1<|zB 4 28<|zG 5 0<|.nil
def Bu5 : Sts := zB 30 0<|zA 31 (Zc .eql 30 0)<|zB 29 31<|.nil
def Bu6 : Sts := zG 4 1<|zG 5 0<|.nil
def Bu7 : Sts := zB 33 0<|zA 34 (Zc .eql 33 1)<|zB 32 34<|.nil
def Bu8 : Sts := zG 4 2<|zG 5 0<|.nil
def Av5 : Sts := zG 4 3<|zG 5 0<|.nil
def Cx6 : RFun := ⟨35, [0, 1, 4, 5, 6, 7], (Zr Bt9 (Zr Bu0 (.seq (.block 0 (Zr Bu1 (.cond (.t 14) (Zr Bu2 .ret) (Zr Bu3 (.cond (.t 25) (Zr Bu4 .ret) (Zr Bu5 (.cond (.t 29) (Zr Bu6 .ret) (Zr Bu7 (.cond (.t 32) (Zr Bu8 .ret) .skip))))))))) (Zr Av5 .ret)))), [.tmp 4, .tmp 5]⟩
theorem Q100_ok : Ak Tryz.prog Cx6.V ZQ 72 = some Cx6 := by kernel_rfl

def Eb6 : Sts := zA 0 (.alloc 83 [Zi, Zi, Zi, Zi, Zi])<|.nil
def Eb7 : Sts := zA 1 (.build [Zi, Zi, Zi, Zi, Zi] [(0, 1, (zN 5)), (4, 1, (zN 4))])<|Zw 5 0 1<|.nil
def Q52 : RFun := ⟨2, [0], (Zr Eb6 (Zr Eb7 .ret)), [.cellA 0 5]⟩
theorem Q52_ok : Ak Tryz.prog Q52.V ZQ 73 = some Q52 := by kernel_rfl

def Eb8 : Sts := Zm 4 Zn<|.nil
def Eb9 : Sts := Zm 5 Zn<|.nil
def Ec0 : Sts := zB 7 0<|zA 8 (zM 7)<|zG 9 0<|.nil
def Ec1 : Sts := zA 10 (Zb .lss 9 8)<|.nil
def Ec2 : Sts := zB 11 9<|zB 6 11<|.nil
def Ec3 : Sts := zB 12 1<|zB 13 6<|zA 14 (.callv (.t 12) [(.t 13)])<|.nil
def Ec4 : Sts := zB 15 5<|zB 16 6<|zA 17 (.buildSl 3 1 [Zi] [(0, 1, (.t 16))])<|zA 18 (.append 3 1 8 [Zi] (.t 15) (.t 17))<|zB 5 18<|.nil
def Ec5 : Sts := zA 19 (Zc .add 9 1)<|zB 9 19<|.nil
def Bu9 : RCode := (Zr Ec1 (.seq (ZX 10 0) (.seq (.block 1 (Zr Ec2 (Zr Ec3 (.cond (.t 14) (.reg Ec4) .skip)))) (.reg Ec5))))
def Ec6 : Sts := zB 20 5<|zB 4 20<|.nil
def Q30 : RFun := ⟨21, [0, 1, 4, 5, 6, 8, 9], (Zr Eb8 (Zr Eb9 (.seq (Zr Ec0 (.block 0 (.loop Bu9))) (Zr Ec6 .ret)))), [.tmp 4]⟩
theorem Q30_ok : Ak Tryz.prog Q30.V ZQ 74 = some Q30 := by kernel_rfl

def Ec7 : Sts := Zm 3 Zf<|.nil
def Ec8 : Sts := zA 4 (zK 1)<|ZZ 5 6 0 6 4<|zA 7 (Zo 6 6)<|zA 8 (Z1 76 7)<|zB 3 8<|.nil
def Q18 : RFun := ⟨9, [0, 1, 3], (Zr Ec7 (Zr Ec8 .ret)), [.tmp 3]⟩
theorem Q18_ok : Ak Tryz.prog Q18.V ZQ 75 = some Q18 := by kernel_rfl

def Fj1 : Sts := Zq 1 121 0<|Zm 2 Zf<|.nil
def Fj2 : Sts := zA 3 (zI 0 1)<|Zy 4 5 0 3<|zA 6 (Zc .eql 5 5)<|zB 7 6<|.cnd 7 true (zA 8 (zI 0 1)<|Zy 9 10 4 8<|zA 11 (Zc .eql 10 4)<|.nil) 12 (.t 11)<|zB 2 12<|.nil
def Q7 : RFun := ⟨13, [0, 1, 2], (Zr Fj1 (Zr Fj2 .ret)), [.tmp 2]⟩
theorem Q7_ok : Ak Tryz.prog Q7.V ZQ 76 = some Q7 := by kernel_rfl

def Bv0 : Sts := Zq 3 124 0<|.nil
def Ec9 : Sts := zA 8 (zK 1)<|zA 9 (Z1 78 8)<|.nil
def Av6 : Sts := zA 4 (.alloc 35 [Zn])<|ZW 4 10<|.nil
def Ed0 : Sts := zA 11 (zK 1)<|zA 12 (zK 4)<|zA 13 (.call 79 [(.t 11), (.t 12), (zN 0)])<|.nil
def Av7 : Sts := zA 5 (.alloc 26 [Zn])<|ZW 5 14<|.nil
def Ed1 : Sts := zA 15 (zK 1)<|zA 16 (zK 4)<|zA 17 (zK 5)<|zA 18 (.call 80 [(.t 15), (.t 16), (.t 17)])<|.nil
def Av8 : Sts := zB 6 19<|.nil
def Ed2 : Sts := zB 20 6<|zA 21 (zK 4)<|zA 22 (zK 5)<|zA 23 (.build [Zn, Zn, Zn, Zn] [(0, 1, (.t 20)), (1, 1, (.t 21)), (2, 1, (.t 22))])<|zA 7 (.alloc 45 [Zn, Zn, Zn, Zn])<|Zw 4 7 23<|.nil
def Ed3 : Sts := zA 24 (zK 1)<|zA 25 (Zo 4 7)<|zA 26 (Z2 81 24 25)<|zA 27 (Zt 26)<|.nil
def Ed4 : Sts := zA 28 (zK 1)<|zA 29 (zK 2)<|zA 30 (Z2 82 28 29)<|.nil
def Bv1 : Sts := zA 32 (zI 3 7)<|ZW 32 31<|.nil
def Ap3 : AT := .q (zC 0 33 (zK 1)<|zC 1 34 (Zo 4 7)<|zC 2 35 (Z2 83 33 34)<|zC 3 36 (Zc .eql 35 0)<|zD 4 37 36<|.nil)<|.br 37 (zF<|.q (zC 5 38 (.loadX (.t 3))<|.nil)<|zF<|.q (zC 6 39 (Zo 4 7)<|.nil)<|zF<|zE 7 40 (Z1 84 39) false (zF<|zE 8 41 (.callv (.t 38) [(.t 40)]) true (.q (.g 37 true (zC 9 42 (Zt 41)<|.nil) 10 43 (.t 42)<|.nil)<|.fin)<|.no)<|.no)<|zF<|zL 5 38<|zF<|zL 6 39<|zF<|zL 7 40<|zF<|zL 8 41<|.q (.g 37 true (zC 9 42 (Zt 41)<|.nil) 10 43 (.t 42)<|.nil)<|.fin
def Ds : RCode := (.reg Bv1)
def Dt : RCode := (.block 7 (.seq (.any Ap3) (.cond (.t 43) .ret .skip)))
def Du : RCode := (.reg Av8)
def Dv : RCode := (.block 5 (Zr Ed2 (.seq (Zr Ed3 (Zs 27 5)) (Zr Ed4 (.block 6 (.rangeF (.t 30) [31] Ds Dt))))))
def Dw : RCode := (.reg Av7)
def Dx : RCode := (.block 3 (Zr Ed1 (.block 4 (.rangeF (.t 18) [19] Du Dv))))
def Dy : RCode := (.reg Av6)
def Dz : RCode := (.block 1 (Zr Ed0 (.block 2 (.rangeF (.t 13) [14] Dw Dx))))
def Q19 : RFun := ⟨44, [0, 1, 2, 3, 4, 5, 6, 7, 9, 10, 13, 14, 18, 19, 30, 31], (Zr Bv0 (Zr Ec9 (.block 0 (.rangeF (.t 9) [10] Dy Dz)))), []⟩
theorem Q19_ok : Ak Tryz.prog Q19.V ZQ 77 = some Q19 := by kernel_rfl

def Ed5 : Sts := Zq 1 74 0<|zA 2 (.mv (.c .nilFunc))<|.nil
def Ed6 : Sts := zA 3 (.mkfn 107 [] [(.t 1)])<|zB 2 3<|.nil
def Q12 : RFun := ⟨4, [0, 1, 2], (Zr Ed5 (Zr Ed6 .ret)), [.tmp 2]⟩
theorem Q12_ok : Ak Tryz.prog Q12.V ZQ 78 = some Q12 := by kernel_rfl

def Ed7 : Sts := Zq 3 74 0<|Zq 4 35 1<|Zq 5 3 2<|zA 6 (.mv (.c .nilFunc))<|.nil
def Ed8 : Sts := zA 7 (.mkfn 109 [] [(.t 5), (.t 3), (.t 4)])<|zB 6 7<|.nil
def Q27 : RFun := ⟨8, [0, 1, 2, 3, 4, 5, 6], (Zr Ed7 (Zr Ed8 .ret)), [.tmp 6]⟩
theorem Q27_ok : Ak Tryz.prog Q27.V ZQ 79 = some Q27 := by kernel_rfl

def Ed9 : Sts := Zq 3 74 0<|Zq 4 35 1<|Zq 5 26 2<|zA 6 (.mv (.c .nilFunc))<|.nil
def Ee0 : Sts := zA 7 (.mkfn 111 [] [(.t 3), (.t 5), (.t 4)])<|zB 6 7<|.nil
def Q20 : RFun := ⟨8, [0, 1, 2, 3, 4, 5, 6], (Zr Ed9 (Zr Ee0 .ret)), [.tmp 6]⟩
theorem Q20_ok : Ak Tryz.prog Q20.V ZQ 80 = some Q20 := by kernel_rfl

def Ee1 : Sts := Zq 3 45 1<|Zm 4 Zf<|.nil
def Ee2 : Sts := zB 11 0<|zA 12 (Zo 4 3)<|zA 13 (Z2 85 11 12)<|zB 10 13<|zA 14 (Zx 0 10)<|zA 15 (Zx 1 10)<|zA 16 (Zx 2 10)<|zB 5 14<|zB 6 15<|zB 7 16<|.nil
def Ee3 : Sts := zB 17 0<|zA 18 (zM 17)<|zG 19 0<|.nil
def Ee4 : Sts := zA 20 (Zb .lss 19 18)<|.nil
def Ee5 : Sts := zB 21 19<|zA 22 (zH 6 17 19)<|zA 23 (Zo 6 22)<|zA 9 (.alloc 121 [Zi, Zi, Zi, Zi, Zi, Zi])<|zB 8 21<|Zw 6 9 23<|.nil
def Ee6 : AT := .q (zC 0 24 (zI 0 9)<|zC 1 25 (zI 0 24)<|zC 2 26 (zJ 25)<|zC 3 27 (Zc .eql 26 3)<|zD 4 28 27<|.g 28 true (zC 5 29 (zI 1 3)<|zC 6 30 (zK 29)<|zD 7 31 8<|zC 8 32 (zH 1 30 31)<|zC 9 33 (Zg 32)<|zD 10 34 5<|zD 11 35 8<|zC 12 36 (zH 1 34 35)<|zC 13 37 (zJ 36)<|zC 14 38 (zI 0 9)<|zC 15 39 (zI 2 38)<|zC 16 40 (zJ 39)<|zC 17 41 (Zb .eql 37 40)<|zC 18 42 (.eqb true (.t 33) (.t 41))<|.nil) 19 43 (.t 42)<|zD 20 44 43<|.g 44 false (zC 21 45 (zI 0 9)<|zC 22 46 (zI 0 45)<|zC 23 47 (zJ 46)<|zC 24 48 (Zc .eql 47 4)<|zD 25 49 48<|.g 49 true (zC 26 50 (zI 1 3)<|zC 27 51 (zK 50)<|zD 28 52 8<|zC 29 53 (zH 1 51 52)<|zC 30 54 (Zg 53)<|.nil) 31 55 (.t 54)<|zD 32 56 55<|.g 56 true (zD 33 57 5<|zD 34 58 8<|zC 35 59 (zH 1 57 58)<|zC 36 60 (zJ 59)<|zC 37 61 (zI 0 9)<|zC 38 62 (zI 2 61)<|zC 39 63 (zJ 62)<|zC 40 64 (Zb .neq 60 63)<|.nil) 41 65 (.t 64)<|.nil) 42 66 (.t 65)<|.nil)<|.fin
def Ee7 : Sts := Zm 4 Zf<|.nil
def Ee8 : Sts := zA 67 (Zc .add 19 1)<|zB 19 67<|.nil
def Bv2 : RCode := (Zr Ee4 (.seq (ZX 20 0) (.seq (.block 1 (Zr Ee5 (.seq (.any Ee6) (.cond (.t 66) (Zr Ee7 .ret) .skip)))) (.reg Ee8))))
def Ee9 : Sts := zB 68 0<|zA 69 (Zo 4 3)<|zA 70 (Z2 83 68 69)<|zA 71 (Zc .eql 70 0)<|zB 4 71<|.nil
def Q31 : RFun := ⟨72, [0, 1, 3, 4, 5, 8, 9, 17, 18, 19], (Zr Ee1 (Zr Ee2 (.seq (Zr Ee3 (.block 0 (.loop Bv2))) (Zr Ee9 .ret)))), [.tmp 4]⟩
theorem Q31_ok : Ak Tryz.prog Q31.V ZQ 81 = some Q31 := by kernel_rfl

def Ef0 : Sts := Zq 2 74 0<|Zq 3 34 1<|zA 4 (.mv (.c .nilFunc))<|.nil
def Ef1 : Sts := zA 5 (.mkfn 115 [] [(.t 2), (.t 3)])<|zB 4 5<|.nil
def Q23 : RFun := ⟨6, [0, 1, 2, 3, 4], (Zr Ef0 (Zr Ef1 .ret)), [.tmp 4]⟩
theorem Q23_ok : Ak Tryz.prog Q23.V ZQ 82 = some Q23 := by kernel_rfl

def Ef2 : Sts := Zq 3 45 1<|zG 4 0<|.nil
def Ef3 : Sts := zB 17 0<|zA 18 (Zo 4 3)<|zA 19 (Z2 102 17 18)<|zB 5 19<|.nil
def Ef4 : Sts := ZY 20 21 0 3<|zA 22 (zM 21)<|zG 23 0<|.nil
def Ef5 : Sts := zA 24 (Zb .lss 23 22)<|.nil
def Ef6 : Sts := zB 25 23<|Zj 26 27 1 21 23<|zB 6 25<|zB 7 27<|.nil
def Ef7 : Sts := zB 28 7<|zA 29 (Zc .geq 28 0)<|.nil
def Ef8 : Sts := zB 30 5<|zB 31 7<|zB 32 6<|zA 33 (.call 121 [(.t 30), (.t 31), (.t 32)])<|.nil
def Ef9 : Sts := zA 34 (Zc .add 23 1)<|zB 23 34<|.nil
def Bv3 : RCode := (Zr Ef5 (.seq (ZX 24 0) (.seq (.block 1 (Zr Ef6 (Zr Ef7 (.cond (.t 29) (.reg Ef8) .skip)))) (.reg Ef9))))
def Eg0 : Sts := zB 35 5<|zA 36 (Z1 106 35)<|zA 37 (Z1 122 36)<|.nil
def Eg1 : Sts := zG 4 2<|.nil
def Ac2 : AT := .q (zD 0 38 0<|zC 1 39 (Zo 4 3)<|zD 3 41 0<|zC 4 42 (Zo 4 3)<|.nil)<|zE 2 40 (Z2 67 38 39) false (zF<|zE 5 43 (Z2 123 41 42) true (.q (zD 6 8 40<|zD 7 9 43<|.nil)<|.fin)<|.no)<|.no
def Bv4 : Sts := zB 44 8<|zA 45 (Z1 122 44)<|.nil
def Bv5 : Sts := zG 4 3<|.nil
def Bv6 : Sts := zB 46 0<|zA 47 (zM 46)<|zG 48 0<|.nil
def Bv7 : Sts := zA 49 (Zb .lss 48 47)<|.nil
def Bv8 : Sts := zB 50 48<|zB 10 50<|.nil
def Bv9 : Sts := zB 51 0<|zA 52 (zM 51)<|zG 53 0<|.nil
def Bw0 : Sts := zA 54 (Zb .lss 53 52)<|.nil
def Bw1 : Sts := zB 55 53<|zB 11 55<|.nil
def Bw2 : Sts := zB 56 8<|zB 57 10<|zB 58 11<|zA 59 (.call 68 [(.t 56), (.t 57), (.t 58)])<|zB 60 59<|.cnd 60 true (zB 61 9<|zB 62 11<|zB 63 10<|zA 64 (.call 68 [(.t 61), (.t 62), (.t 63)])<|.nil) 65 (.t 64)<|.nil
def Bw3 : Sts := zG 4 3<|.nil
def Bw4 : Sts := zA 66 (Zc .add 53 1)<|zB 53 66<|.nil
def Av9 : RCode := (Zr Bw0 (.seq (ZX 54 4) (.seq (.block 5 (Zr Bw1 (Zr Bw2 (.cond (.t 65) (Zr Bw3 .ret) .skip)))) (.reg Bw4))))
def Bw5 : Sts := zA 67 (Zc .add 48 1)<|zB 48 67<|.nil
def Aw0 : RCode := (Zr Bv7 (.seq (ZX 49 2) (.seq (.block 3 (Zr Bv8 (Zr Bv9 (.block 4 (.loop Av9))))) (.reg Bw5))))
def Bw6 : Sts := ZY 68 69 2 3<|zA 70 (zM 69)<|zG 71 0<|.nil
def Bw7 : Sts := zA 72 (Zb .lss 71 70)<|.nil
def Bw8 : Sts := zA 73 (zH 1 69 71)<|zA 74 (zK 73)<|zB 13 74<|.nil
def Bw9 : Sts := zA 14 (.mv (.c (.int .i64 (-1))))<|.nil
def Bx0 : Sts := zB 75 13<|zA 76 (zM 75)<|zG 77 0<|.nil
def Bx1 : Sts := zA 78 (Zb .lss 77 76)<|.nil
def Bx2 : Sts := Zj 79 80 1 75 77<|zB 16 80<|.nil
def Bx3 : Sts := zB 81 0<|ZZ 82 83 16 6 81<|zA 84 (Zo 6 83)<|zA 85 (Z1 86 84)<|zB 86 85<|.cnd 86 true (ZY 87 88 0 3<|ZZ 89 90 16 1 88<|zA 91 (zJ 90)<|zB 92 14<|zA 93 (Zb .neq 91 92)<|.nil) 94 (.t 93)<|.nil
def Bx4 : Sts := zG 4 4<|.nil
def Bx5 : Sts := zB 95 16<|zB 14 95<|.nil
def Bx6 : Sts := zA 96 (Zc .add 77 1)<|zB 77 96<|.nil
def Aw1 : RCode := (Zr Bx1 (.seq (ZX 78 8) (.seq (.block 9 (Zr Bx2 (.seq (Zr Bx3 (.cond (.t 94) (Zr Bx4 .ret) .skip)) (.reg Bx5)))) (.reg Bx6))))
def Bx7 : Sts := zA 97 (Zc .add 71 1)<|zB 71 97<|.nil
def Aw2 : RCode := (Zr Bw7 (.seq (ZX 72 6) (.seq (.block 7 (Zr Bw8 (Zr Bw9 (Zr Bx0 (.block 8 (.loop Aw1)))))) (.reg Bx7))))
def Bx8 : Sts := zG 4 0<|.nil
def Q10 : RFun := ⟨98, [0, 1, 3, 4, 5, 6, 7, 8, 9, 10, 11, 13, 14, 16, 21, 22, 23, 47, 48, 52, 53, 69, 70, 71, 75, 76, 77], (Zr Ef2 (Zr Ef3 (.seq (Zr Ef4 (.block 0 (.loop Bv3))) (.seq (Zr Eg0 (.cond (.t 37) (Zr Eg1 .ret) .skip)) (.seq (.any Ac2) (.seq (Zr Bv4 (.cond (.t 45) (Zr Bv5 .ret) .skip)) (.seq (Zr Bv6 (.block 2 (.loop Aw0))) (.seq (Zr Bw6 (.block 6 (.loop Aw2))) (Zr Bx8 .ret))))))))), [.tmp 4]⟩
theorem Q10_ok : Ak Tryz.prog Q10.V ZQ 83 = some Q10 := by kernel_rfl

def Fe5 : Sts := Zq 1 45 0<|zA 2 (.alloc 45 [Zn, Zn, Zn, Zn])<|.nil
def Fe6 : AT := .q (zC 0 6 (zI 0 1)<|zC 1 7 (zK 6)<|zC 3 9 (zI 1 1)<|zC 4 10 (zK 9)<|zC 6 12 (zI 3 1)<|zC 7 13 (zK 12)<|.nil)<|zE 2 8 (Z1 113 7) false (zF<|zE 5 11 (Z1 124 10) false (zF<|zE 8 14 (Z1 113 13) true (.q (zC 9 15 (.build [Zn, Zn, Zn, Zn] [(0, 1, (.t 8)), (1, 1, (.t 11)), (3, 1, (.t 14))])<|.nil)<|zE 10 3 (.alloc 45 [Zn, Zn, Zn, Zn]) false (zF<|.s 11 none (.store 4 (.t 3) (.t 15)) true (zF<|.fin)<|.no)<|.no)<|zE 10 3 (.alloc 45 [Zn, Zn, Zn, Zn]) false (zF<|zE 8 14 (Z1 113 13) false (.q (zC 9 15 (.build [Zn, Zn, Zn, Zn] [(0, 1, (.t 8)), (1, 1, (.t 11)), (3, 1, (.t 14))])<|.nil)<|.s 11 none (.store 4 (.t 3) (.t 15)) true (zF<|.fin)<|.no)<|.no)<|.no)<|zE 10 3 (.alloc 45 [Zn, Zn, Zn, Zn]) false (zF<|zE 5 11 (Z1 124 10) false (zF<|zE 8 14 (Z1 113 13) false (.q (zC 9 15 (.build [Zn, Zn, Zn, Zn] [(0, 1, (.t 8)), (1, 1, (.t 11)), (3, 1, (.t 14))])<|.nil)<|.s 11 none (.store 4 (.t 3) (.t 15)) true (zF<|.fin)<|.no)<|.no)<|.no)<|.no)<|zE 10 3 (.alloc 45 [Zn, Zn, Zn, Zn]) false (zF<|zE 2 8 (Z1 113 7) false (zF<|zE 5 11 (Z1 124 10) false (zF<|zE 8 14 (Z1 113 13) false (.q (zC 9 15 (.build [Zn, Zn, Zn, Zn] [(0, 1, (.t 8)), (1, 1, (.t 11)), (3, 1, (.t 14))])<|.nil)<|.s 11 none (.store 4 (.t 3) (.t 15)) true (zF<|.fin)<|.no)<|.no)<|.no)<|.no)<|.no
def Fj3 : Sts := ZY 16 17 2 1<|zA 18 (zM 17)<|zG 19 0<|.nil
def Fj4 : Sts := zA 20 (Zb .lss 19 18)<|.nil
def Fj5 : Sts := zA 21 (zH 1 17 19)<|zA 22 (zK 21)<|zB 5 22<|.nil
def Fe7 : AT := .q (zC 0 23 (zI 2 3)<|zC 1 24 (zK 23)<|zD 2 25 5<|.nil)<|zE 3 26 (Z1 113 25) false (zF<|zE 4 27 (.buildSl 34 1 [Zn] [(0, 1, (.t 26))]) false (zF<|zE 5 28 (.append 34 1 24 [Zn] (.t 24) (.t 27)) true (.q (zC 6 29 (zI 2 3)<|.nil)<|.s 7 none (.store 1 (.t 29) (.t 28)) true (zF<|.fin)<|.no)<|.no)<|.no)<|.no
def Fj6 : Sts := zA 30 (Zc .add 19 1)<|zB 19 30<|.nil
def Eg2 : RCode := (Zr Fj4 (.seq (ZX 20 0) (.seq (.block 1 (Zr Fj5 (.any Fe7))) (.reg Fj6))))
def Fj7 : Sts := zA 31 (Zo 4 3)<|Zw 4 2 31<|.nil
def Q1 : RFun := ⟨32, [0, 1, 2, 3, 5, 17, 18, 19], (Zr Fe5 (.seq (.any Fe6) (.seq (Zr Fj3 (.block 0 (.loop Eg2))) (Zr Fj7 .ret)))), [.cellA 2 4]⟩
theorem Q1_ok : Ak Tryz.prog Q1.V ZQ 84 = some Q1 := by kernel_rfl

def Bx9 : Sts := Zq 3 45 1<|Zm 4 Zn<|Zm 5 Zn<|Zm 6 Zn<|.nil
def Eg3 : AT := .q (zD 0 11 0<|zC 1 12 (zM 11)<|zD 3 14 0<|zC 4 15 (zM 14)<|zD 6 17 0<|zC 7 18 (zM 17)<|.nil)<|zE 2 13 (.makeSl 3 1 8 [Zi] (.t 12) (.t 12)) false (.q (zD 9 4 13<|.nil)<|zE 5 16 (.makeSl 3 1 8 [Zi] (.t 15) (.t 15)) false (.q (zD 10 5 16<|.nil)<|zE 8 19 (.makeSl 4 1 1 [Zf] (.t 18) (.t 18)) false (.q (zD 11 6 19<|.nil)<|.fin)<|.no)<|zE 8 19 (.makeSl 4 1 1 [Zf] (.t 18) (.t 18)) false (zF<|zE 5 16 (.makeSl 3 1 8 [Zi] (.t 15) (.t 15)) false (.q (zD 10 5 16<|zD 11 6 19<|.nil)<|.fin)<|.no)<|.no)<|zE 5 16 (.makeSl 3 1 8 [Zi] (.t 15) (.t 15)) false (zF<|zE 2 13 (.makeSl 3 1 8 [Zi] (.t 12) (.t 12)) false (.q (zD 9 4 13<|zD 10 5 16<|.nil)<|zE 8 19 (.makeSl 4 1 1 [Zf] (.t 18) (.t 18)) false (.q (zD 11 6 19<|.nil)<|.fin)<|.no)<|zE 8 19 (.makeSl 4 1 1 [Zf] (.t 18) (.t 18)) false (zF<|zE 2 13 (.makeSl 3 1 8 [Zi] (.t 12) (.t 12)) false (.q (zD 9 4 13<|zD 10 5 16<|zD 11 6 19<|.nil)<|.fin)<|.no)<|.no)<|zE 8 19 (.makeSl 4 1 1 [Zf] (.t 18) (.t 18)) false (zF<|zE 2 13 (.makeSl 3 1 8 [Zi] (.t 12) (.t 12)) false (.q (zD 9 4 13<|.nil)<|zE 5 16 (.makeSl 3 1 8 [Zi] (.t 15) (.t 15)) false (.q (zD 10 5 16<|zD 11 6 19<|.nil)<|.fin)<|.no)<|zE 5 16 (.makeSl 3 1 8 [Zi] (.t 15) (.t 15)) false (zF<|zE 2 13 (.makeSl 3 1 8 [Zi] (.t 12) (.t 12)) false (.q (zD 9 4 13<|zD 10 5 16<|zD 11 6 19<|.nil)<|.fin)<|.no)<|.no)<|.no
def Eg4 : Sts := zB 20 0<|zA 21 (zM 20)<|zA 22 (.makeSl 4 1 1 [Zf] (.t 21) (.t 21))<|zB 7 22<|.nil
def Eg5 : Sts := zB 23 0<|zA 24 (zM 23)<|zA 25 (Zc .add 24 1)<|zG 26 0<|.nil
def Eg6 : Sts := zA 27 (Zb .lss 26 25)<|.nil
def Eg7 : Sts := zB 28 0<|zA 29 (zM 28)<|zG 30 0<|.nil
def Eg8 : Sts := zA 31 (Zb .lss 30 29)<|.nil
def Eg9 : Sts := zB 32 30<|zA 33 (zH 6 28 30)<|zA 34 (Zo 6 33)<|zA 9 (.alloc 121 [Zi, Zi, Zi, Zi, Zi, Zi])<|zB 8 32<|Zw 6 9 34<|.nil
def Eh0 : Sts := ZY 35 36 0 3<|ZZ 37 38 8 1 36<|zA 39 (zJ 38)<|zB 10 39<|.nil
def Eh1 : Sts := zA 41 (Zo 6 9)<|zA 42 (Z1 86 41)<|zB 43 42<|.cnd 43 true (zB 44 10<|zA 45 (.bin .eql (.t 44) (.c (.int .i64 (-1))))<|.nil) 46 (.t 45)<|zB 40 46<|.nil
def By0 : Sts := zB 47 6<|ZZ 48 49 8 1 47<|.op none (.store 1 (.t 49) (.c (.bool true)))<|.nil
def By1 : Sts := zA 51 (Zo 6 9)<|zA 52 (Z1 86 51)<|zB 53 52<|.cnd 53 true (zB 54 7<|ZZ 55 56 10 1 54<|zA 57 (Zg 56)<|.nil) 58 (.t 57)<|zB 50 58<|.nil
def By2 : Sts := zB 59 4<|zB 60 8<|zB 61 6<|zB 62 8<|zB 63 5<|ZZ 64 65 10 1 63<|zA 66 (zJ 65)<|zA 67 (zH 1 59 60)<|ZW 67 66<|zA 68 (zH 1 61 62)<|.op none (.store 1 (.t 68) (.c (.bool true)))<|.nil
def By3 : Sts := zA 69 (zI 0 9)<|Zy 70 71 0 69<|.nil
def By4 : Sts := zA 73 (Zc .eql 71 1)<|zB 72 73<|.nil
def By5 : Sts := zB 74 5<|zB 75 8<|zB 76 7<|zB 77 8<|zA 78 (zI 0 9)<|Zy 79 80 2 78<|zA 81 (zH 1 74 75)<|ZW 81 80<|zA 82 (zH 1 76 77)<|.op none (.store 1 (.t 82) (.c (.bool true)))<|.nil
def By6 : Sts := zA 84 (Zc .eql 71 2)<|zB 83 84<|.nil
def Ac3 : AT := .q (zD 0 85 5<|zD 1 86 8<|zD 2 87 7<|zD 3 88 8<|zD 4 89 4<|zD 5 90 8<|zC 6 91 (zH 1 89 90)<|zC 7 92 (zJ 91)<|zC 8 93 (zI 0 9)<|zC 9 94 (zI 2 93)<|zC 10 95 (zJ 94)<|zC 11 96 (Zb .add 92 95)<|zD 12 97 6<|zD 13 98 8<|zC 14 99 (zH 1 97 98)<|zC 15 100 (Zg 99)<|zC 16 101 (zH 1 85 86)<|.nil)<|.s 17 none (.store 1 (.t 101) (.t 96)) false (.q (zC 18 102 (zH 1 87 88)<|.nil)<|.s 19 none (.store 1 (.t 102) (.t 100)) true (zF<|.fin)<|.no)<|.no
def By7 : Sts := zA 104 (Zc .eql 71 3)<|zB 103 104<|.nil
def By8 : Sts := zA 105 (Zc .eql 71 4)<|zB 103 105<|.nil
def By9 : Sts := zB 106 5<|zB 107 8<|zB 108 7<|zB 109 8<|zA 110 (zI 0 9)<|Zy 111 112 3 110<|zA 113 (zH 1 106 107)<|ZW 113 112<|zA 114 (zH 1 108 109)<|.op none (.store 1 (.t 114) (.c (.bool true)))<|.nil
def Bz0 : Sts := zA 115 (Zc .add 30 1)<|zB 30 115<|.nil
def Aw3 : RCode := (Zr Eg8 (.seq (ZX 31 2) (.seq (.block 3 (Zr Eg9 (.seq (Zr Eh0 (.block 4 (Zr Eh1 (.cond (.t 40) (.reg By0) (Zr By1 (.cond (.t 50) (.reg By2) .skip)))))) (Zr By3 (.block 5 (Zr By4 (.cond (.t 72) (.reg By5) (Zr By6 (.cond (.t 83) (.any Ac3) (.seq (Zr By7 (.cond (.t 103) .skip (.reg By8))) (.cond (.t 103) (.reg By9) .skip))))))))))) (.reg Bz0))))
def Bz1 : Sts := zA 116 (Zc .add 26 1)<|zB 26 116<|.nil
def Aw4 : RCode := (Zr Eg6 (.seq (ZX 27 0) (.seq (.block 1 (Zr Eg7 (.block 2 (.loop Aw3)))) (.reg Bz1))))
def Bz2 : Sts := zB 117 4<|zB 118 5<|zB 119 6<|zB 4 117<|zB 5 118<|zB 6 119<|.nil
def Q35 : RFun := ⟨120, [0, 1, 3, 4, 5, 6, 7, 8, 9, 10, 25, 26, 28, 29, 30, 71], (Zr Bx9 (.seq (.any Eg3) (Zr Eg4 (.seq (Zr Eg5 (.block 0 (.loop Aw4))) (Zr Bz2 .ret))))), [.tmp 4, .tmp 5, .tmp 6]⟩
theorem Q35_ok : Ak Tryz.prog Q35.V ZQ 85 = some Q35 := by kernel_rfl

def Fj8 : Sts := Zq 1 121 0<|Zm 2 Zf<|.nil
def Fj9 : Sts := zA 3 (zI 0 1)<|Zy 4 5 0 3<|zA 6 (Zc .neq 5 1)<|zB 7 6<|.cnd 7 true (zA 8 (zI 0 1)<|Zy 9 10 0 8<|zA 11 (Zc .neq 10 5)<|.nil) 12 (.t 11)<|zB 2 12<|.nil
def Q5 : RFun := ⟨13, [0, 1, 2], (Zr Fj8 (Zr Fj9 .ret)), [.tmp 2]⟩
theorem Q5_ok : Ak Tryz.prog Q5.V ZQ 86 = some Q5 := by kernel_rfl

def Bz3 : Sts := zG 4 0<|.nil
def Bz4 : Sts := zB 9 0<|zA 10 (zM 9)<|zG 11 0<|.nil
def Bz5 : Sts := zA 12 (Zb .lss 11 10)<|.nil
def Bz6 : Sts := zB 13 11<|Zj 14 15 1 9 11<|zB 5 13<|zB 6 15<|.nil
def Bz7 : Sts := zB 16 5<|zB 17 1<|zA 18 (zM 17)<|zA 19 (Zb .geq 16 18)<|.nil
def Bz8 : Sts := zG 4 1<|.nil
def Bz9 : Sts := zB 20 1<|ZZ 21 22 5 1 20<|zA 23 (zJ 22)<|zB 7 23<|.nil
def Ca0 : Sts := zB 24 6<|zB 25 7<|zA 26 (Z2 127 24 25)<|zB 8 26<|.nil
def Ca1 : Sts := zB 27 8<|zA 28 (Zc .neq 27 0)<|.nil
def Ca2 : Sts := zB 29 8<|zB 4 29<|.nil
def Aw5 : Sts := zA 30 (Zc .add 11 1)<|zB 11 30<|.nil
def Al1 : RCode := (Zr Bz5 (.seq (ZX 12 0) (.seq (.block 1 (Zr Bz6 (.seq (Zr Bz7 (.cond (.t 19) (Zr Bz8 .ret) .skip)) (Zr Bz9 (Zr Ca0 (Zr Ca1 (.cond (.t 28) (Zr Ca2 .ret) .skip))))))) (.reg Aw5))))
def Aw6 : Sts := zB 31 0<|zA 32 (zM 31)<|zB 33 1<|zA 34 (zM 33)<|zA 35 (Zb .lss 32 34)<|.nil
def Aw7 : Sts := zA 4 (.mv (.c (.int .i64 (-1))))<|.nil
def Aw8 : Sts := zG 4 0<|.nil
def Cx7 : RFun := ⟨36, [0, 1, 4, 5, 6, 7, 8, 9, 10, 11], (Zr Bz3 (.seq (Zr Bz4 (.block 0 (.loop Al1))) (.seq (Zr Aw6 (.cond (.t 35) (Zr Aw7 .ret) .skip)) (Zr Aw8 .ret)))), [.tmp 4]⟩
theorem Q109_ok : Ak Tryz.prog Cx7.V ZQ 88 = some Cx7 := by kernel_rfl

def Ca3 : Sts := Zm 4 Zn<|.nil
def Ca4 : Sts := zB 8 0<|zA 9 (zM 8)<|zA 10 (Zc .lss 9 2)<|.nil
def Ca5 : Sts := zB 11 0<|zB 4 11<|.nil
def Ca6 : Sts := zG 5 1<|.nil
def Ca7 : Sts := Zl 12 5 13 0 14 15
def W9 : AT := .q (zD 0 18 1<|zD 1 19 0<|zD 2 20 5<|zC 3 21 (zH 1 19 20)<|zC 4 22 (zK 21)<|zD 5 23 0<|zD 6 24 5<|zC 7 25 (Zc .sub 24 1)<|zC 8 26 (zH 1 23 25)<|zC 9 27 (zK 26)<|.nil)<|zE 10 28 (.callv (.t 18) [(.t 22), (.t 27)]) true (zF<|.fin)<|.no
def Ca8 : Sts := zB 29 0<|zB 30 5<|zA 31 (.slS 1 (.t 29) (some (.t 30)) none none)<|zB 6 31<|.nil
def Ca9 : Sts := zG 7 1<|.nil
def Cb0 : Sts := Zl 32 7 33 6 34 35
def Xa : AT := .q (zD 0 38 1<|zD 1 39 6<|zD 2 40 7<|zC 3 41 (zH 1 39 40)<|zC 4 42 (zK 41)<|zD 5 43 6<|zD 6 44 7<|zC 7 45 (Zc .sub 44 1)<|zC 8 46 (zH 1 43 45)<|zC 9 47 (zK 46)<|.nil)<|zE 10 48 (.callv (.t 38) [(.t 42), (.t 47)]) true (.q (zC 11 49 (Zt 48)<|.nil)<|.fin)<|.no
def Aw9 : Sts := zB 50 0<|zB 51 5<|zB 52 6<|ZZ 53 54 7 1 52<|zA 55 (zK 54)<|zA 56 (zH 1 50 51)<|ZW 56 55<|.nil
def Ax0 : Sts := Zu 57 5 58
def Ax1 : Sts := Zu 36 7 37
def Al2 : RCode := (.seq (Zr Cb0 (ZX 35 2)) (.seq (.block 3 (.seq (.any Xa) (.cond (.t 49) (Zr Aw9 (.reg Ax0)) .skip))) (.reg Ax1)))
def Ax2 : Sts := zB 59 0<|zB 60 5<|zA 61 (.slS 1 (.t 59) (some (.t 60)) none none)<|.op none (.clearS Zn (.t 61))<|.nil
def Ax3 : Sts := zB 62 0<|zB 63 5<|zA 64 (.slS 1 (.t 62) none (some (.t 63)) none)<|zB 4 64<|.nil
def Ax4 : Sts := Zu 16 5 17
def Al3 : RCode := (.seq (Zr Ca7 (ZX 15 0)) (.seq (.block 1 (.seq (.any W9) (.cond (.t 28) (Zr Ca8 (.seq (Zr Ca9 (.block 2 (.loop Al2))) (Zr Ax2 (Zr Ax3 .ret)))) .skip))) (.reg Ax4)))
def Ax5 : Sts := zB 65 0<|zB 4 65<|.nil
def Bd9 : RFun := ⟨66, [0, 1, 4, 5, 6, 7], (Zr Ca3 (.seq (Zr Ca4 (.cond (.t 10) (Zr Ca5 .ret) .skip)) (.seq (Zr Ca6 (.block 0 (.loop Al3))) (Zr Ax5 .ret)))), [.tmp 4]⟩
theorem Q108_ok : Ak Tryz.prog Bd9.V ZQ 89 = some Bd9 := by kernel_rfl

def Eh2 : Sts := Zm 4 Zf<|.nil
def Eh3 : Sts := zB 5 1<|zA 6 (Zc .lss 5 0)<|zB 7 6<|.cnd 7 false (zB 8 1<|zA 9 (Zc .gtr 8 4)<|.nil) 10 (.t 9)<|.nil
def Eh4 : Sts := Zm 4 Zf<|.nil
def Eh5 : Sts := zB 11 0<|zA 12 (Zc .eql 11 0)<|.nil
def Eh6 : Sts := zB 13 1<|zA 14 (Zc .eql 13 0)<|zB 15 14<|.cnd 15 false (zB 16 1<|zA 17 (Zc .eql 16 1)<|.nil) 18 (.t 17)<|zB 19 18<|.cnd 19 false (zB 20 1<|zA 21 (Zc .eql 20 4)<|.nil) 22 (.t 21)<|zB 4 22<|.nil
def Eh7 : Sts := zB 23 0<|zA 24 (Zc .eql 23 1)<|.nil
def Eh8 : Sts := zB 25 1<|zA 26 (Zc .eql 25 0)<|zB 27 26<|.cnd 27 false (zB 28 1<|zA 29 (Zc .eql 28 2)<|.nil) 30 (.t 29)<|zB 31 30<|.cnd 31 false (zB 32 1<|zA 33 (Zc .eql 32 4)<|.nil) 34 (.t 33)<|zB 4 34<|.nil
def Eh9 : Sts := zB 35 0<|zA 36 (Zc .eql 35 5)<|.nil
def Ei0 : Sts := zB 37 1<|zA 38 (Zc .neq 37 0)<|zB 4 38<|.nil
def Ei1 : Sts := zB 39 0<|zA 40 (Zc .geq 39 2)<|zB 41 40<|.cnd 41 true (zB 42 0<|zA 43 (Zc .leq 42 4)<|.nil) 44 (.t 43)<|zB 4 44<|.nil
def Q70 : RFun := ⟨45, [0, 1, 4], (Zr Eh2 (.seq (Zr Eh3 (.cond (.t 10) (Zr Eh4 .ret) .skip)) (.seq (Zr Eh5 (.cond (.t 12) (Zr Eh6 .ret) .skip)) (.seq (Zr Eh7 (.cond (.t 24) (Zr Eh8 .ret) .skip)) (.seq (Zr Eh9 (.cond (.t 36) (Zr Ei0 .ret) .skip)) (Zr Ei1 .ret)))))), [.tmp 4]⟩
theorem Q70_ok : Ak Tryz.prog Q70.V ZQ 90 = some Q70 := by kernel_rfl

def Ei2 : Sts := Zq 1 24 0<|zA 2 (.alloc 24 [Zn])<|zG 3 0<|.nil
def Ei3 : Sts := zA 11 (Zo 1 1)<|zA 12 (Z1 13 11)<|zB 4 12<|.nil
def Ei4 : Sts := zB 13 4<|zA 14 (Zc .neq 13 0)<|.nil
def Ei5 : Sts := zA 15 (.build [Zn] [])<|zB 16 4<|ZW 2 15<|zB 3 16<|.nil
def Ei6 : Sts := zA 5 (.alloc 24 [Zn])<|.nil
def Ei7 : Sts := zA 17 (.build [Zi, Zi, Zi, Zi, Zi] [(0, 1, (zN 5)), (4, 1, (zN 4))])<|zA 6 (.alloc 83 [Zi, Zi, Zi, Zi, Zi])<|Zw 5 6 17<|.nil
def Ei8 : Sts := zG 7 0<|.nil
def Ei9 : Sts := zB 18 7<|ZY 19 20 0 1<|zA 21 (zM 20)<|zA 22 (Zb .lss 18 21)<|.nil
def Ej0 : Sts := Zm 8 Zn<|.nil
def Ej1 : Sts := zG 9 0<|.nil
def Cb1 : Sts := zB 25 9<|ZY 26 27 0 1<|ZZ 28 29 7 1 27<|zA 30 (zK 29)<|zA 31 (zM 30)<|zA 32 (Zb .lss 25 31)<|.nil
def Cb2 : Sts := ZY 35 36 0 1<|ZZ 37 38 7 1 36<|zA 39 (zK 38)<|ZZ 40 41 9 5 39<|zA 42 (Zo 5 41)<|zA 10 (.alloc 83 [Zi, Zi, Zi, Zi, Zi])<|Zw 5 10 42<|.nil
def Cb3 : Sts := Zy 43 44 0 10<|zA 45 (Zc .eql 44 5)<|zB 46 45<|.cnd 46 false (Zy 47 48 4 10<|zA 49 (Zc .neq 48 4)<|.nil) 50 (.t 49)<|.nil
def Cb4 : Sts := zB 51 8<|zA 52 (Zo 5 10)<|zA 53 (.buildSl 83 1 [Zi, Zi, Zi, Zi, Zi] [(0, 5, (.t 52))])<|zA 54 (.append 83 5 40 [Zi, Zi, Zi, Zi, Zi] (.t 51) (.t 53))<|zB 8 54<|.nil
def Cb5 : Sts := zA 55 (Zo 5 10)<|zA 56 (Z1 128 55)<|zA 57 (zI 4 10)<|ZW 57 56<|.nil
def Cb6 : Sts := zB 58 8<|zA 59 (Zo 5 6)<|zA 60 (Zo 5 10)<|zA 61 (Zo 5 6)<|zA 62 (.buildSl 83 3 [Zi, Zi, Zi, Zi, Zi, Zi, Zi, Zi, Zi, Zi, Zi, Zi, Zi, Zi, Zi] [(0, 5, (.t 59)), (5, 5, (.t 60)), (10, 5, (.t 61))])<|zA 63 (.append 83 5 40 [Zi, Zi, Zi, Zi, Zi] (.t 58) (.t 62))<|zB 8 63<|.nil
def Cb7 : Sts := Zu 33 9 34
def Ax6 : RCode := (.seq (Zr Cb1 (ZX 32 2)) (.seq (.block 3 (Zr Cb2 (.seq (Zr Cb3 (.cond (.t 50) (Zr Cb4 (.exit 3)) .skip)) (Zr Cb5 (.reg Cb6))))) (.reg Cb7)))
def Cb8 : Sts := ZY 64 65 0 5<|zB 66 8<|zA 67 (.buildSl 70 1 [Zn] [(0, 1, (.t 66))])<|zA 68 (.append 70 1 24 [Zn] (.t 65) (.t 67))<|zA 69 (zI 0 5)<|ZW 69 68<|.nil
def Cb9 : Sts := Zu 23 7 24
def Ax7 : RCode := (.seq (Zr Ei9 (ZX 22 0)) (.seq (.block 1 (Zr Ej0 (.seq (Zr Ej1 (.block 2 (.loop Ax6))) (.reg Cb8)))) (.reg Cb9)))
def Cc0 : Sts := zA 70 (Zo 1 5)<|ZW 2 70<|zG 3 0<|.nil
def Q67 : RFun := ⟨71, [0, 1, 2, 3, 4, 5, 6, 7, 8, 9, 10], (Zr Ei2 (.seq (Zr Ei3 (Zr Ei4 (.cond (.t 14) (Zr Ei5 .ret) .skip))) (Zr Ei6 (Zr Ei7 (.seq (Zr Ei8 (.block 0 (.loop Ax7))) (Zr Cc0 .ret)))))), [.cellA 2 1, .tmp 3]⟩
theorem Q67_ok : Ak Tryz.prog Q67.V ZQ 91 = some Q67 := by kernel_rfl

def Ej2 : Sts := zG 2 0<|.nil
def Ej3 : Sts := zB 10 2<|ZP 11 12 13 14 0 1<|zA 15 (zM 14)<|zA 16 (Zb .lss 10 15)<|.nil
def Ej4 : Sts := ZO 19 20 21 0 2<|ZY 22 23 0 21<|ZZ 24 25 2 1 23<|zA 26 (zJ 25)<|zB 3 26<|.nil
def Ej5 : Sts := zB 27 3<|zA 28 (Zc .geq 27 0)<|zB 29 28<|.cnd 29 true (ZO 30 31 32 0 2<|ZY 33 34 1 32<|ZZ 35 36 3 1 34<|zA 37 (Zg 36)<|zA 38 (Zt 37)<|.nil) 39 (.t 38)<|.nil
def Ej6 : Sts := Zu 17 2 18
def Cc1 : RCode := (.seq (Zr Ej3 (ZX 16 0)) (.seq (.block 1 (Zr Ej4 (Zr Ej5 (.cond (.t 39) .ret .skip)))) (.reg Ej6)))
def Cc2 : AT := .q (zD 0 41 0<|zC 1 42 (Zk 41)<|zC 2 43 (zI 1 42)<|zC 3 44 (zK 43)<|zD 4 45 0<|zC 5 46 (Zk 45)<|zC 6 47 (zI 2 46)<|zC 7 48 (Zo 4 47)<|.nil)<|zE 8 49 (Z2 43 44 48) true (.q (zD 9 40 49<|zC 10 50 (Zx 0 40)<|zC 11 51 (Zx 1 40)<|zC 12 52 (Zx 2 40)<|zD 13 4 50<|zD 14 5 51<|zD 15 6 52<|.nil)<|.fin)<|.no
def Cc3 : AT := .q (zD 0 54 0<|zC 1 55 (Zk 54)<|zC 2 56 (zI 1 55)<|zC 3 57 (zK 56)<|zD 4 58 0<|zC 5 59 (Zk 58)<|zC 6 60 (zI 2 59)<|zC 7 61 (Zo 4 60)<|.nil)<|zE 8 62 (Z2 45 57 61) true (.q (zD 9 53 62<|zC 10 63 (Zx 0 53)<|zC 11 64 (Zx 1 53)<|zC 12 65 (Zx 2 53)<|zD 13 7 63<|zD 14 8 64<|zD 15 9 65<|.nil)<|.fin)<|.no
def Cc4 : AT := .q (zD 0 66 9<|zC 1 67 (Zt 66)<|zD 2 68 67<|.nil)<|.br 68 (zF<|zL 3 69<|zF<|zL 4 70<|zF<|zL 5 71<|zF<|zL 6 72<|zF<|zL 7 73<|zF<|zL 8 74<|zF<|zL 9 75<|zF<|zL 10 76<|zF<|zL 11 77<|zF<|zL 12 78<|zF<|zL 13 79<|.q (.g 68 false (zC 14 80 (Zt 79)<|.nil) 15 81 (.t 80)<|zD 16 82 81<|.nil)<|.br 82 (zF<|zL 17 83<|zF<|zL 18 84<|zF<|zL 19 85<|zF<|zL 20 86<|zF<|zL 21 87<|zF<|zL 22 88<|zF<|zL 23 89<|zF<|zL 24 90<|zF<|zL 25 91<|zF<|zL 26 92<|zF<|zL 27 93<|zF<|zL 28 94<|zF<|zL 29 95<|zF<|zL 30 96<|zF<|zL 31 97<|zF<|zL 32 98<|zF<|zL 33 99<|.q (zC 34 100 (.pick (.t 82) (.c (.bool true)) (.t 99))<|.nil)<|.fin)<|zF<|.q (zD 17 83 0<|.nil)<|zF<|.q (zC 18 84 (Zk 83)<|.nil)<|zF<|.q (zC 19 85 (zI 1 84)<|.nil)<|zF<|.q (zC 20 86 (zK 85)<|.nil)<|zF<|.q (zD 22 88 0<|.nil)<|zF<|.q (zC 23 89 (Zk 88)<|.nil)<|zF<|.q (zC 24 90 (zI 1 89)<|.nil)<|zF<|.q (zC 25 91 (zK 90)<|.nil)<|zF<|.q (zD 26 92 0<|.nil)<|zF<|.q (zC 27 93 (Zk 92)<|.nil)<|zF<|.q (zC 28 94 (zI 2 93)<|.nil)<|zF<|.q (zC 29 95 (Zo 4 94)<|.nil)<|zF<|zE 21 87 (Z1 49 86) false (zF<|zE 30 96 (Z2 50 91 95) true (zF<|zE 31 97 (Z2 48 87 96) true (zF<|zE 32 98 (Z1 47 97) true (zF<|zE 33 99 (Z1 46 98) true (.q (zC 34 100 (.pick (.t 82) (.c (.bool true)) (.t 99))<|.nil)<|.fin)<|.no)<|.no)<|.no)<|.no)<|.no)<|zF<|.q (zD 3 69 0<|.nil)<|zF<|.q (zC 4 70 (Zk 69)<|.nil)<|zF<|.q (zC 5 71 (zI 1 70)<|.nil)<|zF<|.q (zC 6 72 (zK 71)<|.nil)<|zF<|.q (zD 7 73 0<|.nil)<|zF<|.q (zC 8 74 (Zk 73)<|.nil)<|zF<|.q (zC 9 75 (zI 2 74)<|.nil)<|zF<|.q (zC 10 76 (Zo 4 75)<|.nil)<|zF<|.q (zD 11 77 4<|.nil)<|zF<|.q (zD 12 78 6<|.nil)<|zF<|zE 13 79 (.call 44 [(.t 72), (.t 76), (.t 77), (.t 78)]) true (.q (.g 68 false (zC 14 80 (Zt 79)<|.nil) 15 81 (.t 80)<|zD 16 82 81<|.nil)<|.br 82 (zF<|zL 17 83<|zF<|zL 18 84<|zF<|zL 19 85<|zF<|zL 20 86<|zF<|zL 21 87<|zF<|zL 22 88<|zF<|zL 23 89<|zF<|zL 24 90<|zF<|zL 25 91<|zF<|zL 26 92<|zF<|zL 27 93<|zF<|zL 28 94<|zF<|zL 29 95<|zF<|zL 30 96<|zF<|zL 31 97<|zF<|zL 32 98<|zF<|zL 33 99<|.q (zC 34 100 (.pick (.t 82) (.c (.bool true)) (.t 99))<|.nil)<|.fin)<|zF<|.q (zD 17 83 0<|.nil)<|zF<|.q (zC 18 84 (Zk 83)<|.nil)<|zF<|.q (zC 19 85 (zI 1 84)<|.nil)<|zF<|.q (zC 20 86 (zK 85)<|.nil)<|zF<|.q (zD 22 88 0<|.nil)<|zF<|.q (zC 23 89 (Zk 88)<|.nil)<|zF<|.q (zC 24 90 (zI 1 89)<|.nil)<|zF<|.q (zC 25 91 (zK 90)<|.nil)<|zF<|.q (zD 26 92 0<|.nil)<|zF<|.q (zC 27 93 (Zk 92)<|.nil)<|zF<|.q (zC 28 94 (zI 2 93)<|.nil)<|zF<|.q (zC 29 95 (Zo 4 94)<|.nil)<|zF<|zE 21 87 (Z1 49 86) false (zF<|zE 30 96 (Z2 50 91 95) true (zF<|zE 31 97 (Z2 48 87 96) true (zF<|zE 32 98 (Z1 47 97) true (zF<|zE 33 99 (Z1 46 98) true (.q (zC 34 100 (.pick (.t 82) (.c (.bool true)) (.t 99))<|.nil)<|.fin)<|.no)<|.no)<|.no)<|.no)<|.no)<|.no
def Ej7 : Sts := zB 101 0<|zA 102 (.call 129 [(.t 101), (zN 0)])<|.nil
def Q76 : RFun := ⟨103, [0, 2, 3, 4, 6, 9], (.seq (Zr Ej2 (.block 0 (.loop Cc1))) (.seq (.any Cc2) (.seq (.any Cc3) (.seq (.seq (.any Cc4) (.cond (.t 100) .ret .skip)) (.reg Ej7))))), []⟩
theorem Q76_ok : Ak Tryz.prog Q76.V ZQ 92 = some Q76 := by kernel_rfl

def Ej8 : Sts := Zq 1 83 0<|Zm 2 Zf<|.nil
def Ej9 : Sts := Zy 3 4 0 1<|zA 5 (Zc .geq 4 1)<|zB 6 5<|.cnd 6 true (Zy 7 8 0 1<|zA 9 (Zc .leq 8 4)<|.nil) 10 (.t 9)<|zB 2 10<|.nil
def Q97 : RFun := ⟨11, [0, 1, 2], (Zr Ej8 (Zr Ej9 .ret)), [.tmp 2]⟩
theorem Q97_ok : Ak Tryz.prog Q97.V ZQ 93 = some Q97 := by kernel_rfl

def Ek0 : Sts := Zq 1 83 0<|Zm 2 Zf<|.nil
def Ek1 : Sts := Zy 3 4 0 1<|zA 5 (Zc .eql 4 5)<|zB 6 5<|.cnd 6 true (Zy 7 8 4 1<|zA 9 (Zc .eql 8 4)<|.nil) 10 (.t 9)<|zB 2 10<|.nil
def Q87 : RFun := ⟨11, [0, 1, 2], (Zr Ek0 (Zr Ek1 .ret)), [.tmp 2]⟩
theorem Q87_ok : Ak Tryz.prog Q87.V ZQ 94 = some Q87 := by kernel_rfl

def Ek2 : Sts := Zq 3 37 1<|zA 4 (.alloc 95 [(.int .u64 0), (.int .u64 0), (.int .u64 0), (.int .u64 0), (.int .u64 0), (.int .u64 0), (.int .u64 0), (.int .u64 0), (.int .u64 0), (.int .u64 0), (.int .u64 0), (.int .u64 0), (.int .u64 0), (.int .u64 0), (.int .u64 0), (.int .u64 0)])<|.nil
def Ek3 : Sts := zA 5 (.alloc 95 [(.int .u64 0), (.int .u64 0), (.int .u64 0), (.int .u64 0), (.int .u64 0), (.int .u64 0), (.int .u64 0), (.int .u64 0), (.int .u64 0), (.int .u64 0), (.int .u64 0), (.int .u64 0), (.int .u64 0), (.int .u64 0), (.int .u64 0), (.int .u64 0)])<|.nil
def Ek4 : Sts := zG 6 0<|.nil
def Ek5 : Sts := Zl 16 6 17 0 18 19
def Ek6 : Sts := ZY 22 23 1 3<|ZZ 24 25 6 1 23<|zA 26 (Zg 25)<|zA 27 (Zt 26)<|.nil
def Ek7 : Sts := zB 28 6<|zA 29 (.conv .u64 (.t 28))<|zA 30 (.bin .shl (.c (.int .u64 1)) (.t 29))<|zB 7 30<|.nil
def Ek8 : Sts := zG 8 0<|.nil
def Ek9 : Sts := Zl 31 8 32 0 33 34
def El0 : Sts := zG 9 0<|.nil
def El1 : Sts := Zl 37 9 38 0 39 40
def Cc5 : Sts := ZY 43 44 1 3<|ZZ 45 46 9 1 44<|zA 47 (Zg 46)<|zB 48 47<|.cnd 48 true (ZY 49 50 0 3<|ZZ 51 52 9 1 50<|zA 53 (zJ 52)<|zA 54 (Zc .geq 53 0)<|.nil) 55 (.t 54)<|zB 56 55<|.cnd 56 true (zB 57 7<|ZY 58 59 0 3<|ZZ 60 61 9 1 59<|zA 62 (zJ 61)<|zA 63 (.conv .u64 (.t 62))<|zA 64 (Zb .shr 57 63)<|zA 65 (.bin .and (.t 64) (.c (.int .u64 1)))<|zA 66 (.bin .eql (.t 65) (.c (.int .u64 1)))<|.nil) 67 (.t 66)<|.nil
def Cc6 : Sts := zB 68 7<|zB 69 9<|zA 70 (.conv .u64 (.t 69))<|zA 71 (.bin .shl (.c (.int .u64 1)) (.t 70))<|zA 72 (Zb .or 68 71)<|zB 7 72<|.nil
def Cc7 : Sts := Zu 41 9 42
def Ax8 : RCode := (.seq (Zr El1 (ZX 40 4)) (.seq (.block 5 (Zr Cc5 (.cond (.t 67) (.reg Cc6) .skip))) (.reg Cc7)))
def Cc8 : Sts := Zu 35 8 36
def Ax9 : RCode := (.seq (Zr Ek9 (ZX 34 2)) (.seq (.block 3 (Zr El0 (.block 4 (.loop Ax8)))) (.reg Cc8)))
def Cc9 : Sts := zG 10 0<|.nil
def Cd0 : Sts := Zl 73 10 74 0 75 76
def Cd1 : Sts := ZY 79 80 0 3<|ZZ 81 82 10 1 80<|zA 83 (zJ 82)<|zA 84 (Zc .lss 83 0)<|zB 85 84<|.cnd 85 false (zB 86 7<|ZY 87 88 0 3<|ZZ 89 90 10 1 88<|zA 91 (zJ 90)<|zA 92 (.conv .u64 (.t 91))<|zA 93 (Zb .shr 86 92)<|zA 94 (.bin .and (.t 93) (.c (.int .u64 1)))<|zA 95 (.bin .eql (.t 94) (.c (.int .u64 0)))<|.nil) 96 (.t 95)<|.nil
def Cd2 : Sts := zA 11 (.mv (.c (.int .u64 0)))<|zA 12 (.mv (.c (.int .u64 0)))<|.nil
def Cd3 : Sts := zG 13 0<|.nil
def Cd4 : Sts := Zl 97 13 98 0 99 100
def Cd5 : Sts := zB 103 0<|ZZ 104 105 13 6 103<|zA 106 (zI 1 105)<|zA 107 (Zo 5 106)<|zA 14 (.alloc 83 [Zi, Zi, Zi, Zi, Zi])<|Zw 5 14 107<|.nil
def Ap4 : AT := .q (zC 0 108 (zI 4 14)<|zC 1 109 (zJ 108)<|zC 2 110 (Z1 130 109)<|zD 3 111 110<|.g 111 true (zD 4 112 13<|zD 5 113 6<|zC 6 114 (Zb .eql 112 113)<|zD 7 115 114<|.g 115 false (zC 8 116 (zI 0 14)<|zC 9 117 (zJ 116)<|zC 10 118 (Zc .eql 117 5)<|zD 11 119 118<|.g 119 true (zD 12 120 0<|zD 13 121 13<|zC 14 122 (zH 6 120 121)<|zC 15 123 (zI 0 122)<|zC 16 124 (zJ 123)<|zD 17 125 0<|zD 18 126 6<|zC 19 127 (zH 6 125 126)<|zC 20 128 (zI 0 127)<|zC 21 129 (zJ 128)<|zC 22 130 (Zb .eql 124 129)<|.nil) 23 131 (.t 130)<|zD 24 132 131<|.g 132 true (zD 25 133 13<|zD 26 134 6<|zC 27 135 (Zb .lss 133 134)<|.nil) 28 136 (.t 135)<|.nil) 29 137 (.t 136)<|.nil) 30 138 (.t 137)<|.nil)<|.fin
def Cd6 : Sts := zB 139 11<|zB 140 13<|zA 141 (.conv .u64 (.t 140))<|zA 142 (.bin .shl (.c (.int .u64 1)) (.t 141))<|zA 143 (Zb .or 139 142)<|zB 11 143<|.nil
def Ap5 : AT := .q (zC 0 144 (zI 4 14)<|zC 1 145 (zJ 144)<|zC 2 146 (Z1 131 145)<|zD 3 147 146<|.g 147 true (zD 4 148 13<|zD 5 149 10<|zC 6 150 (Zb .eql 148 149)<|zD 7 151 150<|.g 151 false (zC 8 152 (zI 0 14)<|zC 9 153 (zJ 152)<|zC 10 154 (Zc .eql 153 5)<|zD 11 155 154<|.g 155 true (zD 12 156 0<|zD 13 157 13<|zC 14 158 (zH 6 156 157)<|zC 15 159 (zI 0 158)<|zC 16 160 (zJ 159)<|zD 17 161 0<|zD 18 162 10<|zC 19 163 (zH 6 161 162)<|zC 20 164 (zI 0 163)<|zC 21 165 (zJ 164)<|zC 22 166 (Zb .eql 160 165)<|.nil) 23 167 (.t 166)<|zD 24 168 167<|.g 168 true (zD 25 169 13<|zD 26 170 10<|zC 27 171 (Zb .gtr 169 170)<|.nil) 28 172 (.t 171)<|.nil) 29 173 (.t 172)<|.nil) 30 174 (.t 173)<|.nil)<|.fin
def Cd7 : Sts := zB 175 12<|zB 176 13<|zA 177 (.conv .u64 (.t 176))<|zA 178 (.bin .shl (.c (.int .u64 1)) (.t 177))<|zA 179 (Zb .or 175 178)<|zB 12 179<|.nil
def Cd8 : Sts := Zu 101 13 102
def Ac4 : RCode := (.seq (Zr Cd4 (ZX 100 8)) (.seq (.block 9 (Zr Cd5 (.seq (.seq (.any Ap4) (.cond (.t 138) (.reg Cd6) .skip)) (.seq (.any Ap5) (.cond (.t 174) (.reg Cd7) .skip))))) (.reg Cd8)))
def Ap6 : Sts := zG 15 0<|.nil
def Cd9 : Sts := Zl 180 15 181 0 182 183
def Ce0 : Sts := zB 186 11<|zB 187 15<|zA 188 (.conv .u64 (.t 187))<|zA 189 (Zb .shr 186 188)<|zA 190 (.bin .and (.t 189) (.c (.int .u64 1)))<|zA 191 (.bin .eql (.t 190) (.c (.int .u64 1)))<|.nil
def Ce1 : Sts := zB 192 15<|zB 193 15<|zA 194 (.iaddrA 16 1 (.t 5) (.t 193))<|zA 195 (.loadI .u64 (.t 194))<|zB 196 12<|zA 197 (Zb .or 195 196)<|zA 198 (.iaddrA 16 1 (.t 5) (.t 192))<|ZW 198 197<|.nil
def Ce2 : Sts := Zu 184 15 185
def Ac5 : RCode := (.seq (Zr Cd9 (ZX 183 10)) (.seq (.block 11 (Zr Ce0 (.cond (.t 191) (.reg Ce1) .skip))) (.reg Ce2)))
def Ce3 : Sts := Zu 77 10 78
def Ay0 : RCode := (.seq (Zr Cd0 (ZX 76 6)) (.seq (.block 7 (.seq (Zr Cd1 (Zs 96 7)) (Zr Cd2 (.seq (Zr Cd3 (.block 8 (.loop Ac4))) (Zr Ap6 (.block 10 (.loop Ac5))))))) (.reg Ce3)))
def Ce4 : Sts := Zu 20 6 21
def Ay1 : RCode := (.seq (Zr Ek5 (ZX 19 0)) (.seq (.block 1 (.seq (Zr Ek6 (Zs 27 1)) (Zr Ek7 (.seq (Zr Ek8 (.block 2 (.loop Ax9))) (Zr Cc9 (.block 6 (.loop Ay0))))))) (.reg Ce4)))
def Ce5 : Sts := zA 199 (Zo 16 5)<|Zw 16 4 199<|.nil
def Q89 : RFun := ⟨200, [0, 1, 3, 4, 5, 6, 7, 8, 9, 10, 11, 12, 13, 14, 15], (Zr Ek2 (Zr Ek3 (.seq (Zr Ek4 (.block 0 (.loop Ay1))) (Zr Ce5 .ret)))), [.cellA 4 16]⟩
theorem Q89_ok : Ak Tryz.prog Q89.V ZQ 95 = some Q89 := by kernel_rfl

def Ce6 : Sts := Zm 2 Zf<|.nil
def Ce7 : Sts := zB 3 0<|zA 4 (Zc .geq 3 0)<|zB 5 4<|.cnd 5 true (zB 6 0<|zA 7 (Zc .lss 6 5)<|.nil) 8 (.t 7)<|zB 2 8<|.nil
def Cx8 : RFun := ⟨9, [0, 2], (Zr Ce6 (Zr Ce7 .ret)), [.tmp 2]⟩
theorem Q103_ok : Ak Tryz.prog Cx8.V ZQ 96 = some Cx8 := by kernel_rfl

def Ce8 : Sts := zG 2 0<|.nil
def Ce9 : Sts := zB 5 0<|zA 6 (zM 5)<|zA 7 (Zc .lss 6 1)<|.nil
def Cf0 : Sts := zA 8 (.bad)<|.op none (.bad)<|.nil
def Cf1 : Sts := zB 9 0<|zA 10 (.iaddrS 1 (.t 9) (zN 0))<|zA 11 (zJ 10)<|zB 3 11<|.nil
def Cf2 : Sts := zG 4 1<|.nil
def Cf3 : Sts := Zl 12 4 13 0 14 15
def Cf4 : Sts := zB 18 3<|zB 19 0<|ZZ 20 21 4 1 19<|zA 22 (zJ 21)<|zA 23 (.maxi (.t 18) (.t 22))<|zB 3 23<|.nil
def Cf5 : Sts := Zu 16 4 17
def Ay2 : RCode := (.seq (Zr Cf3 (ZX 15 0)) (.seq (.block 1 (.reg Cf4)) (.reg Cf5)))
def Cf6 : Sts := zB 24 3<|zB 2 24<|.nil
def Cx9 : RFun := ⟨25, [0, 2, 3, 4], (Zr Ce8 (.seq (Zr Ce9 (.cond (.t 7) (.reg Cf0) .skip)) (Zr Cf1 (.seq (Zr Cf2 (.block 0 (.loop Ay2))) (Zr Cf6 .ret))))), [.tmp 2]⟩
theorem Q116_ok : Ak Tryz.prog Cx9.V ZQ 98 = some Cx9 := by kernel_rfl

def Cf7 : Sts := Zm 4 Zf<|.nil
def Cf8 : Sts := zB 5 0<|.nil
def Cf9 : Sts := zA 7 (Zc .eql 5 0)<|zB 6 7<|.nil
def Cg0 : Sts := zB 8 1<|zA 9 (Zc .neq 8 2)<|zB 10 9<|.cnd 10 true (zB 11 1<|zA 12 (Zc .neq 11 3)<|.nil) 13 (.t 12)<|zB 4 13<|.nil
def Cg1 : Sts := zA 15 (Zc .eql 5 1)<|zB 14 15<|.nil
def Cg2 : Sts := zB 16 1<|zA 17 (Zc .neq 16 1)<|zB 18 17<|.cnd 18 true (zB 19 1<|zA 20 (Zc .neq 19 3)<|.nil) 21 (.t 20)<|zB 4 21<|.nil
def Cg3 : Sts := zA 23 (Zc .eql 5 5)<|zB 22 23<|.nil
def Cg4 : Sts := zB 24 1<|zA 25 (Zc .neq 24 0)<|zB 4 25<|.nil
def Cg5 : Sts := zA 4 (.mv (.c (.bool true)))<|.nil
def Cy0 : RFun := ⟨26, [0, 1, 4, 5], (Zr Cf7 (.seq (Zr Cf8 (.block 0 (Zr Cf9 (.cond (.t 6) (Zr Cg0 .ret) (Zr Cg1 (.cond (.t 14) (Zr Cg2 .ret) (Zr Cg3 (.cond (.t 22) (Zr Cg4 .ret) .skip)))))))) (Zr Cg5 .ret))), [.tmp 4]⟩
theorem Q104_ok : Ak Tryz.prog Cy0.V ZQ 99 = some Cy0 := by kernel_rfl

def El2 : Sts := Zm 2 Zf<|.nil
def El3 : Sts := zB 3 0<|zA 4 (Zc .geq 3 0)<|zB 5 4<|.cnd 5 true (zB 6 0<|zA 7 (Zc .leq 6 9)<|.nil) 8 (.t 7)<|zB 2 8<|.nil
def Q48 : RFun := ⟨9, [0, 2], (Zr El2 (Zr El3 .ret)), [.tmp 2]⟩
theorem Q48_ok : Ak Tryz.prog Q48.V ZQ 100 = some Q48 := by kernel_rfl

def El4 : Sts := Zq 3 45 1<|Zm 4 Zn<|.nil
def El5 : Sts := zB 8 0<|zA 9 (Z1 136 8)<|zB 5 9<|.nil
def El6 : Sts := zG 6 1<|.nil
def El7 : Sts := Zl 10 6 11 0 12 13
def El8 : AT := .q (zD 0 16 0<|zD 1 17 6<|zC 2 18 (zH 6 16 17)<|zC 3 19 (zI 5 18)<|zC 4 20 (zJ 19)<|zD 5 21 0<|zD 6 22 6<|zC 7 23 (Zc .sub 22 1)<|zC 8 24 (zH 6 21 23)<|zC 9 25 (zI 5 24)<|zC 10 26 (zJ 25)<|zC 11 27 (Zb .eql 20 26)<|.nil)<|.fin
def El9 : Sts := zB 28 5<|zB 29 6<|zA 30 (Zc .sub 29 1)<|zB 31 6<|zA 32 (.call 121 [(.t 28), (.t 30), (.t 31)])<|.nil
def Em0 : Sts := Zu 14 6 15
def Cg6 : RCode := (.seq (Zr El7 (ZX 13 0)) (.seq (.block 1 (.seq (.any El8) (.cond (.t 27) (.reg El9) .skip))) (.reg Em0)))
def Em1 : Sts := zG 7 1<|.nil
def Em2 : Sts := zB 33 7<|ZY 34 35 3 3<|zA 36 (zM 35)<|zA 37 (Zb .lss 33 36)<|.nil
def Ay3 : AT := .q (zD 0 40 5<|zC 1 41 (zI 3 3)<|zC 2 42 (zK 41)<|zD 3 43 7<|zC 4 44 (Zc .sub 43 1)<|zC 5 45 (zH 1 42 44)<|zC 6 46 (zJ 45)<|zC 7 47 (zI 3 3)<|zC 8 48 (zK 47)<|zD 9 49 7<|zC 10 50 (zH 1 48 49)<|zC 11 51 (zJ 50)<|.nil)<|zE 12 52 (.call 121 [(.t 40), (.t 46), (.t 51)]) true (zF<|.fin)<|.no
def Cg7 : Sts := Zu 38 7 39
def Ay4 : RCode := (.seq (Zr Em2 (ZX 37 2)) (.seq (.block 3 (.any Ay3)) (.reg Cg7)))
def Cg8 : Sts := zB 53 5<|zB 4 53<|.nil
def Q34 : RFun := ⟨54, [0, 1, 3, 4, 5, 6, 7], (Zr El4 (Zr El5 (.seq (Zr El6 (.block 0 (.loop Cg6))) (.seq (Zr Em1 (.block 2 (.loop Ay4))) (Zr Cg8 .ret))))), [.tmp 4]⟩
theorem Q34_ok : Ak Tryz.prog Q34.V ZQ 102 = some Q34 := by kernel_rfl

def Cg9 : Sts := zA 4 (.mv (.c (.int .u32 0)))<|.nil
def Ch0 : Sts := zA 5 (.mv (.c (.int .u32 0)))<|.nil
def Em3 : Sts := zB 7 0<|ZZ 8 9 1 6 7<|zA 10 (Zo 6 9)<|zA 11 (Z1 137 10)<|.nil
def Em4 : Sts := zB 12 5<|zB 13 1<|zA 14 (.bin .shl (.c (.int .u32 1)) (.t 13))<|zA 15 (Zb .or 12 14)<|zB 5 15<|.nil
def Em5 : Sts := zB 16 1<|zA 17 (Zc .sub 16 1)<|zB 6 17<|.nil
def Em6 : AT := .q (zD 0 18 6<|zC 1 19 (Zc .geq 18 0)<|zD 2 20 19<|.g 20 true (zD 3 21 0<|zD 4 22 6<|zC 5 23 (zH 6 21 22)<|zC 6 24 (zI 5 23)<|zC 7 25 (zJ 24)<|zD 8 26 0<|zD 9 27 1<|zC 10 28 (zH 6 26 27)<|zC 11 29 (zI 5 28)<|zC 12 30 (zJ 29)<|zC 13 31 (Zb .eql 25 30)<|.nil) 14 32 (.t 31)<|.nil)<|.fin
def Em7 : Sts := zB 35 0<|ZZ 36 37 6 6 35<|zA 38 (zI 0 37)<|Zy 39 40 0 38<|zA 41 (Zc .eql 40 5)<|zB 42 41<|.cnd 42 true (zB 43 0<|ZZ 44 45 6 6 43<|zA 46 (Zo 6 45)<|zA 47 (Z1 137 46)<|.nil) 48 (.t 47)<|.nil
def Em8 : Sts := zB 49 5<|zB 50 6<|zA 51 (.bin .shl (.c (.int .u32 1)) (.t 50))<|zA 52 (Zb .or 49 51)<|zB 5 52<|.nil
def Em9 : Sts := zB 33 6<|zA 34 (Zc .sub 33 1)<|zB 6 34<|.nil
def Ch1 : RCode := (.seq (.seq (.any Em6) (ZX 32 0)) (.seq (.block 1 (Zr Em7 (.cond (.t 48) (.reg Em8) .skip))) (.reg Em9)))
def En0 : Sts := zB 53 5<|zB 4 53<|.nil
def Q33 : RFun := ⟨54, [0, 1, 4, 5, 6], (Zr Cg9 (Zr Ch0 (.seq (Zr Em3 (.cond (.t 11) (.reg Em4) .skip)) (.seq (Zr Em5 (.block 0 (.loop Ch1))) (Zr En0 .ret))))), [.tmp 4]⟩
theorem Q33_ok : Ak Tryz.prog Q33.V ZQ 103 = some Q33 := by kernel_rfl

def En1 : Sts := Zq 4 45 1<|Zm 6 Zf<|.nil
def En2 : Sts := zB 7 0<|ZZ 8 9 2 6 7<|zA 10 (Zo 6 9)<|zA 11 (Z1 86 10)<|zB 12 11<|.cnd 12 true (ZY 13 14 1 4<|ZZ 15 16 2 1 14<|zA 17 (Zg 16)<|.nil) 18 (.t 17)<|zB 6 18<|.nil
def Q16 : RFun := ⟨19, [0, 1, 2, 4, 6], (Zr En1 (Zr En2 .ret)), [.tmp 6]⟩
theorem Q16_ok : Ak Tryz.prog Q16.V ZQ 104 = some Q16 := by kernel_rfl

def Ch2 : Sts := zA 4 (.mv (.c (.int .u32 0)))<|.nil
def Ch3 : Sts := zA 5 (.mv (.c (.int .u32 0)))<|.nil
def En3 : Sts := zB 7 0<|ZZ 8 9 1 6 7<|zA 10 (Zo 6 9)<|zA 11 (Z1 138 10)<|.nil
def En4 : Sts := zB 12 5<|zB 13 1<|zA 14 (.bin .shl (.c (.int .u32 1)) (.t 13))<|zA 15 (Zb .or 12 14)<|zB 5 15<|.nil
def En5 : Sts := zB 16 1<|zA 17 (Zc .add 16 1)<|zB 6 17<|.nil
def En6 : AT := .q (zD 0 18 6<|zD 1 19 0<|zC 2 20 (zM 19)<|zC 3 21 (Zb .lss 18 20)<|zD 4 22 21<|.g 22 true (zD 5 23 0<|zD 6 24 6<|zC 7 25 (zH 6 23 24)<|zC 8 26 (zI 5 25)<|zC 9 27 (zJ 26)<|zD 10 28 0<|zD 11 29 1<|zC 12 30 (zH 6 28 29)<|zC 13 31 (zI 5 30)<|zC 14 32 (zJ 31)<|zC 15 33 (Zb .eql 27 32)<|.nil) 16 34 (.t 33)<|.nil)<|.fin
def En7 : Sts := zB 37 0<|ZZ 38 39 6 6 37<|zA 40 (zI 0 39)<|Zy 41 42 0 40<|zA 43 (Zc .eql 42 5)<|zB 44 43<|.cnd 44 true (zB 45 0<|ZZ 46 47 6 6 45<|zA 48 (Zo 6 47)<|zA 49 (Z1 138 48)<|.nil) 50 (.t 49)<|.nil
def En8 : Sts := zB 51 5<|zB 52 6<|zA 53 (.bin .shl (.c (.int .u32 1)) (.t 52))<|zA 54 (Zb .or 51 53)<|zB 5 54<|.nil
def En9 : Sts := Zu 35 6 36
def Ch4 : RCode := (.seq (.seq (.any En6) (ZX 34 0)) (.seq (.block 1 (Zr En7 (.cond (.t 50) (.reg En8) .skip))) (.reg En9)))
def Eo0 : Sts := zB 55 5<|zB 4 55<|.nil
def Q15 : RFun := ⟨56, [0, 1, 4, 5, 6], (Zr Ch2 (Zr Ch3 (.seq (Zr En3 (.cond (.t 11) (.reg En4) .skip)) (.seq (Zr En5 (.block 0 (.loop Ch4))) (Zr Eo0 .ret))))), [.tmp 4]⟩
theorem Q15_ok : Ak Tryz.prog Q15.V ZQ 105 = some Q15 := by kernel_rfl

def Eo1 : Sts := Zm 2 Zn<|.nil
def Eo2 : Sts := zB 5 0<|zA 6 (zM 5)<|zG 7 0<|.nil
def Eo3 : Sts := zA 8 (Zb .lss 7 6)<|.nil
def Eo4 : Sts := zB 9 7<|zB 3 9<|.nil
def Eo5 : Sts := zB 10 0<|zA 11 (zM 10)<|zG 12 0<|.nil
def Eo6 : Sts := zA 13 (Zb .lss 12 11)<|.nil
def Eo7 : Sts := zB 14 12<|zB 4 14<|.nil
def Eo8 : Sts := zB 15 0<|zB 16 4<|zB 17 3<|zA 18 (.call 68 [(.t 15), (.t 16), (.t 17)])<|.nil
def Eo9 : AT := .q (zD 0 19 0<|zD 1 20 4<|zC 2 21 (zH 1 19 20)<|zC 3 22 (.loadI .u32 (.t 21))<|zD 4 23 0<|zD 5 24 3<|zC 6 25 (zH 1 23 24)<|zC 7 26 (.loadI .u32 (.t 25))<|zC 8 27 (Zb .or 22 26)<|zC 9 28 (zH 1 19 20)<|.nil)<|.s 10 none (.store 1 (.t 28) (.t 27)) true (zF<|.fin)<|.no
def Ep0 : Sts := zA 29 (Zc .add 12 1)<|zB 12 29<|.nil
def Ay5 : RCode := (Zr Eo6 (.seq (ZX 13 2) (.seq (.block 3 (Zr Eo7 (Zr Eo8 (.cond (.t 18) (.any Eo9) .skip)))) (.reg Ep0))))
def Ch5 : Sts := zA 30 (Zc .add 7 1)<|zB 7 30<|.nil
def Ay6 : RCode := (Zr Eo3 (.seq (ZX 8 0) (.seq (.block 1 (Zr Eo4 (Zr Eo5 (.block 2 (.loop Ay5))))) (.reg Ch5))))
def Ch6 : Sts := zB 31 0<|zB 2 31<|.nil
def Q39 : RFun := ⟨32, [0, 2, 3, 4, 6, 7, 11, 12], (Zr Eo1 (.seq (Zr Eo2 (.block 0 (.loop Ay6))) (Zr Ch6 .ret))), [.tmp 2]⟩
theorem Q39_ok : Ak Tryz.prog Q39.V ZQ 106 = some Q39 := by kernel_rfl

def Ep1 : Sts := zA 10 (zK 1)<|zA 11 (.mkfn 108 [] [(.t 1)])<|zA 12 (Z2 74 10 11)<|zB 3 12<|.nil
def Ep2 : Sts := zB 13 3<|zA 14 (zM 13)<|zA 15 (.bin .shl (zN 1) (.t 14))<|zG 16 0<|.nil
def Ep3 : Sts := zA 17 (Zb .lss 16 15)<|.nil
def Ep4 : Sts := zB 18 16<|zB 4 18<|.nil
def Ep5 : Sts := zA 19 (zK 1)<|zA 20 (zM 19)<|zA 21 (.makeSl 4 1 1 [Zf] (.t 20) (.t 20))<|zB 5 21<|.nil
def Ep6 : Sts := zA 22 (zK 1)<|zA 23 (zM 22)<|zG 24 0<|.nil
def Ep7 : Sts := zA 25 (Zb .lss 24 23)<|.nil
def Ep8 : Sts := zB 26 24<|zA 27 (zH 6 22 24)<|zA 28 (Zo 6 27)<|zA 7 (.alloc 121 [Zi, Zi, Zi, Zi, Zi, Zi])<|zB 6 26<|Zw 6 7 28<|.nil
def Ep9 : Sts := zB 29 5<|zB 30 6<|zA 31 (zI 0 7)<|Zy 32 33 0 31<|zA 34 (Zc .eql 33 1)<|zB 35 34<|.cnd 35 false (zA 36 (zI 0 7)<|Zy 37 38 0 36<|zA 39 (Zc .eql 38 2)<|.nil) 40 (.t 39)<|zA 41 (zH 1 29 30)<|ZW 41 40<|.nil
def Eq0 : Sts := zA 42 (Zc .add 24 1)<|zB 24 42<|.nil
def Ay7 : RCode := (Zr Ep7 (.seq (ZX 25 2) (.seq (.block 3 (Zr Ep8 (.reg Ep9))) (.reg Eq0))))
def Ch7 : Sts := zB 43 3<|zA 44 (zM 43)<|zG 45 0<|.nil
def Ch8 : Sts := zA 46 (Zb .lss 45 44)<|.nil
def Ch9 : Sts := zB 47 45<|Zj 48 49 1 43 45<|zB 8 47<|zB 9 49<|.nil
def Ci0 : Sts := zB 50 5<|zB 51 9<|zB 52 4<|zB 53 8<|zA 54 (Zb .shr 52 53)<|zA 55 (Zc .and 54 1)<|zA 56 (Zc .eql 55 1)<|zA 57 (zH 1 50 51)<|ZW 57 56<|.nil
def Ci1 : Sts := zA 58 (Zc .add 45 1)<|zB 45 58<|.nil
def Ay8 : RCode := (Zr Ch8 (.seq (ZX 46 4) (.seq (.block 5 (Zr Ch9 (.reg Ci0))) (.reg Ci1))))
def Ci2 : Sts := zB 59 0<|zB 60 5<|zA 61 (.callv (.t 59) [(.t 60)])<|zA 62 (Zt 61)<|.nil
def Ci3 : Sts := zA 63 (Zc .add 16 1)<|zB 16 63<|.nil
def Ay9 : RCode := (Zr Ep3 (.seq (ZX 17 0) (.seq (.block 1 (Zr Ep4 (Zr Ep5 (.seq (Zr Ep6 (.block 2 (.loop Ay7))) (.seq (Zr Ch7 (.block 4 (.loop Ay8))) (Zr Ci2 (.cond (.t 62) .ret .skip))))))) (.reg Ci3))))
def Q13 : RFun := ⟨64, [0, 1, 3, 4, 5, 6, 7, 8, 9, 15, 16, 22, 23, 24, 43, 44, 45], (Zr Ep1 (Zr Ep2 (.block 0 (.loop Ay9)))), []⟩
theorem Q13_ok : Ak Tryz.prog Q13.V ZQ 107 = some Q13 := by kernel_rfl

def Eq1 : Sts := Zm 3 Zf<|.nil
def Eq2 : Sts := zA 4 (zK 1)<|ZZ 5 6 0 6 4<|zA 7 (zI 0 6)<|Zy 8 9 0 7<|zA 10 (Zc .eql 9 3)<|zB 11 10<|.cnd 11 false (zA 12 (zK 1)<|ZZ 13 14 0 6 12<|zA 15 (zI 0 14)<|Zy 16 17 0 15<|zA 18 (Zc .eql 17 4)<|.nil) 19 (.t 18)<|zB 3 19<|.nil
def Q14 : RFun := ⟨20, [0, 1, 3], (Zr Eq1 (Zr Eq2 .ret)), [.tmp 3]⟩
theorem Q14_ok : Ak Tryz.prog Q14.V ZQ 108 = some Q14 := by kernel_rfl

def Ci4 : Sts := Zq 4 149 0<|.nil
def Eq3 : Sts := zA 7 (zJ 1)<|zA 8 (Zc .eql 7 3)<|.nil
def Eq4 : Sts := zA 9 (.loadX (.t 4))<|zA 10 (.callv (.t 9) [(.c Zn)])<|.nil
def Ci5 : AT := .q (zC 0 11 (zK 2)<|zC 1 12 (zK 2)<|zC 2 13 (zK 3)<|zC 3 14 (zJ 1)<|.nil)<|zE 4 15 (.call 110 [(.t 12), (.t 13), (.t 14)]) false (zF<|zE 5 16 (Z2 82 11 15) true (zF<|.fin)<|.no)<|.no
def Az0 : Sts := zA 5 (.alloc 34 [Zn])<|ZW 5 17<|.nil
def Eq5 : Sts := zA 18 (zK 2)<|zA 19 (zK 3)<|zA 20 (zJ 1)<|zA 21 (Zc .add 20 1)<|zA 22 (.call 79 [(.t 18), (.t 19), (.t 21)])<|.nil
def Az1 : Sts := zB 6 23<|.nil
def Ci6 : AT := .q (zC 0 24 (.loadX (.t 4))<|zC 1 25 (zK 5)<|zD 3 27 6<|.nil)<|zE 2 26 (.buildSl 34 1 [Zn] [(0, 1, (.t 25))]) false (zF<|zE 4 28 (.append 34 1 24 [Zn] (.t 26) (.t 27)) false (zF<|zE 5 29 (.callv (.t 24) [(.t 28)]) true (.q (zC 6 30 (Zt 29)<|.nil)<|.fin)<|.no)<|.no)<|.no
def E5 : RCode := (.reg Az1)
def E6 : RCode := (.block 3 (.seq (.any Ci6) (.cond (.t 30) .ret .skip)))
def E7 : RCode := (.reg Az0)
def E8 : RCode := (.block 1 (Zr Eq5 (.block 2 (.rangeF (.t 22) [23] E5 E6))))
def Q28 : RFun := ⟨31, [0, 1, 2, 3, 4, 5, 6, 16, 17, 22, 23], (Zr Ci4 (.seq (Zr Eq3 (.cond (.t 8) (Zr Eq4 .ret) .skip)) (.seq (.any Ci5) (.block 0 (.rangeF (.t 16) [17] E7 E8))))), []⟩
theorem Q28_ok : Ak Tryz.prog Q28.V ZQ 109 = some Q28 := by kernel_rfl

def Eq6 : Sts := Zq 3 74 0<|Zq 4 35 1<|Zq 5 3 2<|Zm 6 Zn<|.nil
def Eq7 : Sts := zA 7 (zK 3)<|zA 8 (.mkfn 139 [] [(.t 3), (.t 4), (.t 5)])<|zA 9 (Z2 74 7 8)<|zB 6 9<|.nil
def Q36 : RFun := ⟨10, [0, 1, 2, 3, 4, 5, 6], (Zr Eq6 (Zr Eq7 .ret)), [.tmp 6]⟩
theorem Q36_ok : Ak Tryz.prog Q36.V ZQ 110 = some Q36 := by kernel_rfl

def Ci7 : Sts := Zq 4 151 0<|.nil
def Eq8 : Sts := zA 7 (zK 1)<|zA 8 (zM 7)<|zA 9 (.makeSl 3 1 8 [Zi] (.t 8) (.t 8))<|zA 5 (.alloc 34 [Zn])<|ZW 5 9<|.nil
def Eq9 : Sts := zA 6 (.alloc 123 [.nilFunc])<|.nil
def Er0 : Sts := zA 10 (.mkfn 112 [] [(.t 1), (.t 4), (.t 5), (.t 6), (.t 2), (.t 3)])<|ZW 6 10<|.nil
def Er1 : Sts := zA 11 (.loadX (.t 6))<|zA 12 (.callv (.t 11) [(zN 0)])<|.nil
def Q21 : RFun := ⟨13, [0, 1, 2, 3, 4, 5, 6], (Zr Ci7 (Zr Eq8 (Zr Eq9 (Zr Er0 (.reg Er1))))), []⟩
theorem Q21_ok : Ak Tryz.prog Q21.V ZQ 111 = some Q21 := by kernel_rfl

def Er2 : Sts := Zm 8 Zf<|.nil
def Er3 : Sts := zB 13 0<|zA 14 (zK 1)<|zA 15 (zM 14)<|zA 16 (Zb .eql 13 15)<|.nil
def Ci8 : AT := .q (zC 0 17 (.loadX (.t 2))<|zC 1 18 (zK 3)<|.nil)<|zE 2 19 (Z1 113 18) false (zF<|zE 3 20 (.callv (.t 17) [(.t 19)]) true (.q (zD 4 8 20<|.nil)<|.fin)<|.no)<|.no
def Er4 : Sts := zA 21 (zK 1)<|ZZ 22 23 0 6 21<|zA 24 (Zo 6 23)<|zA 25 (Z1 86 24)<|zA 26 (Zt 25)<|.nil
def Er5 : Sts := zA 27 (zK 3)<|ZZ 28 29 0 1 27<|.op none (.store 1 (.t 29) (.c (.int .i64 (-2))))<|.nil
def Er6 : Sts := zA 30 (.loadX (.t 4))<|zB 31 0<|zA 32 (Zc .add 31 1)<|zA 33 (.callv (.t 30) [(.t 32)])<|zB 8 33<|.nil
def Ci9 : AT := .q (zC 1 35 (zK 5)<|zC 2 36 (zK 1)<|zD 3 37 0<|zC 4 38 (zH 6 36 37)<|zC 5 39 (zI 0 38)<|zC 6 40 (zI 1 39)<|zC 7 41 (zJ 40)<|zC 8 42 (zH 1 35 41)<|zC 9 43 (zK 42)<|.nil)<|zE 0 34 (.buildSl 3 1 [Zi] [(0, 1, (.c (.int .i64 (-1))))]) false (zF<|zE 10 44 (.append 3 1 8 [Zi] (.t 34) (.t 43)) true (.q (zD 11 9 44<|.nil)<|.fin)<|.no)<|.no
def Er7 : Sts := zA 45 (zK 6)<|ZZ 46 47 0 1 45<|zA 48 (Zg 47)<|.nil
def Er8 : Sts := zB 49 9<|zB 50 0<|zA 51 (Z2 114 49 50)<|zB 10 51<|.nil
def Er9 : Sts := zB 52 9<|zB 53 10<|zA 54 (Zc .sub 53 1)<|zB 55 10<|zA 56 (.slS 1 (.t 52) (some (.t 54)) (some (.t 55)) none)<|zB 9 56<|.nil
def Cj0 : Sts := zB 57 9<|zA 58 (zM 57)<|zG 59 0<|.nil
def Cj1 : Sts := zA 60 (Zb .lss 59 58)<|.nil
def Cj2 : Sts := Zj 61 62 1 57 59<|zB 12 62<|.nil
def Cj3 : Sts := zA 63 (zK 3)<|zB 64 0<|zB 65 12<|zA 66 (zH 1 63 64)<|ZW 66 65<|.nil
def Cj4 : Sts := zA 67 (.loadX (.t 4))<|zB 68 0<|zA 69 (Zc .add 68 1)<|zA 70 (.callv (.t 67) [(.t 69)])<|zA 71 (Zt 70)<|.nil
def Cj5 : Sts := Zm 8 Zf<|.nil
def Cj6 : Sts := zA 72 (Zc .add 59 1)<|zB 59 72<|.nil
def Az2 : RCode := (Zr Cj1 (.seq (ZX 60 0) (.seq (.block 1 (Zr Cj2 (Zr Cj3 (Zr Cj4 (.cond (.t 71) (Zr Cj5 .ret) .skip))))) (.reg Cj6))))
def Cj7 : Sts := zA 8 (.mv (.c (.bool true)))<|.nil
def Q22 : RFun := ⟨73, [0, 1, 2, 3, 4, 5, 6, 8, 9, 10, 12, 57, 58, 59], (Zr Er2 (.seq (Zr Er3 (.cond (.t 16) (.seq (.any Ci8) .ret) .skip)) (.seq (Zr Er4 (.cond (.t 26) (Zr Er5 (Zr Er6 .ret)) .skip)) (.seq (.any Ci9) (.seq (Zr Er7 (.cond (.t 48) (Zr Er8 (.reg Er9)) .skip)) (.seq (Zr Cj0 (.block 0 (.loop Az2))) (Zr Cj7 .ret))))))), [.tmp 8]⟩
theorem Q22_ok : Ak Tryz.prog Q22.V ZQ 112 = some Q22 := by kernel_rfl

def Cj8 : Sts := Zm 2 Zn<|.nil
def Cj9 : Sts := zB 3 0<|zA 4 (.eqS false (.t 3))<|.nil
def Ck0 : Sts := Zm 2 Zn<|.nil
def Ck1 : Sts := zA 5 (.buildSl 3 0 [] [])<|zB 6 0<|zA 7 (.append 3 1 8 [Zi] (.t 5) (.t 6))<|zB 2 7<|.nil
def Cy1 : RFun := ⟨8, [0, 2], (Zr Cj8 (.seq (Zr Cj9 (.cond (.t 4) (Zr Ck0 .ret) .skip)) (Zr Ck1 .ret))), [.tmp 2]⟩
theorem Q107_ok : Ak Tryz.prog Cy1.V ZQ 113 = some Cy1 := by kernel_rfl

def Ck2 : Sts := zG 4 0<|.nil
def Ck3 : Sts := zB 6 0<|zA 7 (zM 6)<|zG 8 0<|.nil
def Ck4 : Sts := zA 9 (Zb .lss 8 7)<|.nil
def Ck5 : Sts := zB 10 8<|zB 5 10<|.nil
def Ck6 : Sts := zB 11 1<|zB 12 0<|ZZ 13 14 5 1 12<|zA 15 (zJ 14)<|zA 16 (Zb .eql 11 15)<|.nil
def Ck7 : Sts := zB 17 5<|zB 4 17<|.nil
def Ck8 : Sts := zA 18 (Zc .add 8 1)<|zB 8 18<|.nil
def Az3 : RCode := (Zr Ck4 (.seq (ZX 9 0) (.seq (.block 1 (Zr Ck5 (Zr Ck6 (.cond (.t 16) (Zr Ck7 .ret) .skip)))) (.reg Ck8))))
def Ck9 : Sts := zA 4 (.mv (.c (.int .i64 (-1))))<|.nil
def Cy2 : RFun := ⟨19, [0, 1, 4, 5, 7, 8], (Zr Ck2 (.seq (Zr Ck3 (.block 0 (.loop Az3))) (Zr Ck9 .ret))), [.tmp 4]⟩
theorem Q115_ok : Ak Tryz.prog Cy2.V ZQ 114 = some Cy2 := by kernel_rfl

def Cl0 : Sts := Zq 3 151 0<|.nil
def Cl1 : Sts := zA 4 (.alloc 50 [.nilFunc])<|.nil
def Es0 : Sts := zA 5 (.mkfn 116 [] [(.t 3), (.t 1), (.t 4)])<|ZW 4 5<|.nil
def Es1 : Sts := zA 6 (.loadX (.t 4))<|zA 7 (zK 2)<|zA 8 (.callv (.t 6) [(.c Zn), (.t 7)])<|.nil
def Q24 : RFun := ⟨9, [0, 1, 2, 3, 4], (Zr Cl0 (Zr Cl1 (Zr Es0 (.reg Es1)))), []⟩
theorem Q24_ok : Ak Tryz.prog Q24.V ZQ 115 = some Q24 := by kernel_rfl

def Es2 : Sts := Zm 7 Zf<|.nil
def Es3 : Sts := zB 11 1<|zA 12 (zM 11)<|zA 13 (Zc .eql 12 0)<|.nil
def Az4 : AT := .q (zC 0 14 (.loadX (.t 2))<|zD 1 15 0<|.nil)<|zE 2 16 (Z1 113 15) false (zF<|zE 3 17 (.callv (.t 14) [(.t 16)]) true (.q (zD 4 7 17<|.nil)<|.fin)<|.no)<|.no
def Es4 : Sts := zB 18 1<|zA 19 (zM 18)<|zG 20 0<|.nil
def Es5 : Sts := zA 21 (Zb .lss 20 19)<|.nil
def Es6 : Sts := zB 22 20<|Zj 23 24 1 18 20<|zA 9 (.alloc 3 [Zi])<|zB 8 22<|ZW 9 24<|.nil
def Es7 : Sts := zB 25 1<|zB 26 8<|zA 27 (.slS 1 (.t 25) none (some (.t 26)) none)<|zA 28 (.mkfn 118 [] [(.t 3), (.t 9)])<|zA 29 (Z2 117 27 28)<|zB 10 29<|.nil
def Az5 : AT := .q (zD 0 30 10<|zC 1 31 (Zt 30)<|zD 2 32 31<|.nil)<|.br 32 (zF<|.q (zC 3 33 (.loadX (.t 4))<|.nil)<|zF<|.q (zD 4 34 0<|.nil)<|zF<|.q (zC 5 35 (Z1 119 34)<|.nil)<|zF<|.q (zC 6 36 (zJ 9)<|.nil)<|zF<|.q (zD 9 39 1<|.nil)<|zF<|.q (zD 10 40 8<|.nil)<|zF<|.q (zC 11 41 (.slS 1 (.t 39) none (some (.t 40)) none)<|.nil)<|zF<|.q (zD 12 42 1<|.nil)<|zF<|.q (zD 13 43 8<|.nil)<|zF<|.q (zC 14 44 (Zc .add 43 1)<|.nil)<|zF<|.q (zC 15 45 (.slS 1 (.t 42) (some (.t 44)) none none)<|.nil)<|zF<|zE 7 37 (.buildSl 3 1 [Zi] [(0, 1, (.t 36))]) false (zF<|zE 8 38 (.append 3 1 8 [Zi] (.t 35) (.t 37)) false (zF<|zE 16 46 (.buildSl 34 2 [Zn, Zn] [(0, 1, (.t 41)), (1, 1, (.t 45))]) false (zF<|zE 17 47 (Z1 120 46) false (zF<|zE 18 48 (.callv (.t 33) [(.t 38), (.t 47)]) true (.q (.g 32 true (zC 19 49 (Zt 48)<|.nil) 20 50 (.t 49)<|.nil)<|.fin)<|.no)<|.no)<|.no)<|zE 16 46 (.buildSl 34 2 [Zn, Zn] [(0, 1, (.t 41)), (1, 1, (.t 45))]) false (zF<|zE 8 38 (.append 3 1 8 [Zi] (.t 35) (.t 37)) false (zF<|zE 17 47 (Z1 120 46) false (zF<|zE 18 48 (.callv (.t 33) [(.t 38), (.t 47)]) true (.q (.g 32 true (zC 19 49 (Zt 48)<|.nil) 20 50 (.t 49)<|.nil)<|.fin)<|.no)<|.no)<|.no)<|.no)<|zE 16 46 (.buildSl 34 2 [Zn, Zn] [(0, 1, (.t 41)), (1, 1, (.t 45))]) false (zF<|zE 7 37 (.buildSl 3 1 [Zi] [(0, 1, (.t 36))]) false (zF<|zE 8 38 (.append 3 1 8 [Zi] (.t 35) (.t 37)) false (zF<|zE 17 47 (Z1 120 46) false (zF<|zE 18 48 (.callv (.t 33) [(.t 38), (.t 47)]) true (.q (.g 32 true (zC 19 49 (Zt 48)<|.nil) 20 50 (.t 49)<|.nil)<|.fin)<|.no)<|.no)<|.no)<|.no)<|.no)<|zF<|zL 3 33<|zF<|zL 4 34<|zF<|zL 5 35<|zF<|zL 6 36<|zF<|zL 7 37<|zF<|zL 8 38<|zF<|zL 9 39<|zF<|zL 10 40<|zF<|zL 11 41<|zF<|zL 12 42<|zF<|zL 13 43<|zF<|zL 14 44<|zF<|zL 15 45<|zF<|zL 16 46<|zF<|zL 17 47<|zF<|zL 18 48<|.q (.g 32 true (zC 19 49 (Zt 48)<|.nil) 20 50 (.t 49)<|.nil)<|.fin
def Es8 : Sts := Zm 7 Zf<|.nil
def Es9 : Sts := zA 51 (Zc .add 20 1)<|zB 20 51<|.nil
def Az6 : RCode := (Zr Es5 (.seq (ZX 21 0) (.seq (.block 1 (Zr Es6 (Zr Es7 (.seq (.any Az5) (.cond (.t 50) (Zr Es8 .ret) .skip))))) (.reg Es9))))
def Cl2 : Sts := zA 7 (.mv (.c (.bool true)))<|.nil
def Q25 : RFun := ⟨52, [0, 1, 2, 3, 4, 7, 8, 9, 10, 18, 19, 20], (Zr Es2 (.seq (Zr Es3 (.cond (.t 13) (.seq (.any Az4) .ret) .skip)) (.seq (Zr Es4 (.block 0 (.loop Az6))) (Zr Cl2 .ret)))), [.tmp 7]⟩
theorem Q25_ok : Ak Tryz.prog Q25.V ZQ 116 = some Q25 := by kernel_rfl

def Cl3 : Sts := Zm 4 Zf<|.nil
def Cl4 : Sts := zB 5 0<|zB 6 1<|zA 7 (Z2 140 5 6)<|zA 8 (Zc .geq 7 0)<|zB 4 8<|.nil
def Cy3 : RFun := ⟨9, [0, 1, 4], (Zr Cl3 (Zr Cl4 .ret)), [.tmp 4]⟩
theorem Q111_ok : Ak Tryz.prog Cy3.V ZQ 117 = some Cy3 := by kernel_rfl

def Et0 : Sts := Zm 4 Zf<|.nil
def Et1 : AT := .q (zC 0 5 (zK 1)<|zD 1 6 0<|zC 2 7 (zH 6 5 6)<|zC 3 8 (zI 5 7)<|zC 4 9 (zJ 8)<|zC 5 10 (zK 1)<|zC 6 11 (zJ 2)<|zC 7 12 (zH 6 10 11)<|zC 8 13 (zI 5 12)<|zC 9 14 (zJ 13)<|zC 10 15 (Zb .eql 9 14)<|zD 11 4 15<|.nil)<|.fin
def Q26 : RFun := ⟨16, [0, 1, 2, 4], (Zr Et0 (.seq (.any Et1) .ret)), [.tmp 4]⟩
theorem Q26_ok : Ak Tryz.prog Q26.V ZQ 118 = some Q26 := by kernel_rfl

def Cl5 : Sts := Zm 2 Zn<|.nil
def Cl6 : Sts := zB 3 0<|zB 4 0<|zA 5 (zM 4)<|zB 6 0<|zA 7 (zM 6)<|zA 8 (.slS 1 (.t 3) none (some (.t 5)) (some (.t 7)))<|zB 2 8<|.nil
def Cy4 : RFun := ⟨9, [0, 2], (Zr Cl5 (Zr Cl6 .ret)), [.tmp 2]⟩
theorem Q105_ok : Ak Tryz.prog Cy4.V ZQ 119 = some Cy4 := by kernel_rfl

def Cl7 : Sts := Zm 2 Zn<|.nil
def Cl8 : Sts := zG 3 0<|.nil
def Cl9 : Sts := zB 9 0<|zA 10 (zM 9)<|zG 11 0<|.nil
def Cm0 : Sts := zA 12 (Zb .lss 11 10)<|.nil
def Cm1 : Sts := zA 13 (zH 1 9 11)<|zA 14 (zK 13)<|zB 5 14<|.nil
def Cm2 : Sts := zB 15 3<|zB 16 5<|zA 17 (zM 16)<|zA 18 (Zb .add 15 17)<|zB 3 18<|.nil
def Cm3 : Sts := zB 19 3<|zA 20 (Zc .lss 19 0)<|.nil
def Cm4 : Sts := zA 21 (.bad)<|.op none (.bad)<|.nil
def Cm5 : Sts := zA 22 (Zc .add 11 1)<|zB 11 22<|.nil
def Az7 : RCode := (Zr Cm0 (.seq (ZX 12 0) (.seq (.block 1 (Zr Cm1 (Zr Cm2 (Zr Cm3 (.cond (.t 20) (.reg Cm4) .skip))))) (.reg Cm5))))
def Cm6 : Sts := zB 23 3<|zA 24 (.call 141 [(.c Zn), (.t 23)])<|zB 6 24<|.nil
def Az8 : Sts := zB 25 0<|zA 26 (zM 25)<|zG 27 0<|.nil
def Az9 : Sts := zA 28 (Zb .lss 27 26)<|.nil
def Ba0 : Sts := zA 29 (zH 1 25 27)<|zA 30 (zK 29)<|zB 8 30<|.nil
def Ba1 : Sts := zB 31 6<|zB 32 8<|zA 33 (.append 3 1 8 [Zi] (.t 31) (.t 32))<|zB 6 33<|.nil
def Ba2 : Sts := zA 34 (Zc .add 27 1)<|zB 27 34<|.nil
def Al4 : RCode := (Zr Az9 (.seq (ZX 28 2) (.seq (.block 3 (Zr Ba0 (.reg Ba1))) (.reg Ba2))))
def Ba3 : Sts := zB 35 6<|zB 2 35<|.nil
def Cy5 : RFun := ⟨36, [0, 2, 3, 5, 6, 8, 9, 10, 11, 25, 26, 27], (Zr Cl7 (Zr Cl8 (.seq (Zr Cl9 (.block 0 (.loop Az7))) (Zr Cm6 (.seq (Zr Az8 (.block 2 (.loop Al4))) (Zr Ba3 .ret)))))), [.tmp 2]⟩
theorem Q110_ok : Ak Tryz.prog Cy5.V ZQ 120 = some Cy5 := by kernel_rfl

def Et2 : AT := .q (zD 0 6 0<|zD 1 7 1<|zC 2 8 (zH 1 6 7)<|zC 3 9 (.loadI .u32 (.t 8))<|zD 4 10 2<|zC 5 11 (.bin .shl (.c (.int .u32 1)) (.t 10))<|zC 6 12 (Zb .or 9 11)<|zC 7 13 (zH 1 6 7)<|.nil)<|.s 8 none (.store 1 (.t 13) (.t 12)) true (zF<|.fin)<|.no
def Q41 : RFun := ⟨14, [0, 1, 2], (.any Et2), []⟩
theorem Q41_ok : Ak Tryz.prog Q41.V ZQ 121 = some Q41 := by kernel_rfl

def Et3 : Sts := Zm 2 Zf<|.nil
def Et4 : Sts := zB 4 0<|zA 5 (zM 4)<|zG 6 0<|.nil
def Et5 : Sts := zA 7 (Zb .lss 6 5)<|.nil
def Et6 : Sts := zB 8 6<|zB 3 8<|.nil
def Et7 : Sts := zB 9 0<|zB 10 3<|zB 11 3<|zA 12 (.call 68 [(.t 9), (.t 10), (.t 11)])<|.nil
def Et8 : Sts := zA 2 (.mv (.c (.bool true)))<|.nil
def Et9 : Sts := zA 13 (Zc .add 6 1)<|zB 6 13<|.nil
def Cm7 : RCode := (Zr Et5 (.seq (ZX 7 0) (.seq (.block 1 (Zr Et6 (Zr Et7 (.cond (.t 12) (Zr Et8 .ret) .skip)))) (.reg Et9))))
def Eu0 : Sts := Zm 2 Zf<|.nil
def Q38 : RFun := ⟨14, [0, 2, 3, 5, 6], (Zr Et3 (.seq (Zr Et4 (.block 0 (.loop Cm7))) (Zr Eu0 .ret))), [.tmp 2]⟩
theorem Q38_ok : Ak Tryz.prog Q38.V ZQ 122 = some Q38 := by kernel_rfl

def Eu1 : Sts := Zq 3 45 1<|Zm 4 Zn<|.nil
def Eu2 : Sts := zB 17 0<|zA 18 (Z1 136 17)<|zB 5 18<|.nil
def Eu3 : Sts := ZY 19 20 2 3<|zA 21 (zM 20)<|zG 22 0<|.nil
def Eu4 : Sts := zA 23 (Zb .lss 22 21)<|.nil
def Eu5 : Sts := zA 24 (zH 1 20 22)<|zA 25 (zK 24)<|zB 7 25<|.nil
def Eu6 : Sts := zB 26 7<|zA 27 (zM 26)<|zG 28 0<|.nil
def Eu7 : Sts := zA 29 (Zb .lss 28 27)<|.nil
def Eu8 : Sts := zB 30 28<|Zj 31 32 1 26 28<|zB 8 30<|zB 9 32<|.nil
def Eu9 : Sts := zB 33 7<|zB 34 8<|zA 35 (Zc .add 34 1)<|zA 36 (.slS 1 (.t 33) (some (.t 35)) none none)<|zA 37 (zM 36)<|zG 38 0<|.nil
def Ev0 : Sts := zA 39 (Zb .lss 38 37)<|.nil
def Cm8 : Sts := Zj 40 41 1 36 38<|zB 11 41<|.nil
def Cm9 : Sts := zB 42 5<|zB 43 9<|zB 44 11<|zA 45 (.call 121 [(.t 42), (.t 43), (.t 44)])<|.nil
def Cn0 : Sts := zA 46 (Zc .add 38 1)<|zB 38 46<|.nil
def Ba4 : RCode := (Zr Ev0 (.seq (ZX 39 4) (.seq (.block 5 (Zr Cm8 (.reg Cm9))) (.reg Cn0))))
def Cn1 : Sts := zA 47 (Zc .add 28 1)<|zB 28 47<|.nil
def Ba5 : RCode := (Zr Eu7 (.seq (ZX 29 2) (.seq (.block 3 (Zr Eu8 (Zr Eu9 (.block 4 (.loop Ba4))))) (.reg Cn1))))
def Cn2 : Sts := zA 48 (Zc .add 22 1)<|zB 22 48<|.nil
def Ba6 : RCode := (Zr Eu4 (.seq (ZX 23 0) (.seq (.block 1 (Zr Eu5 (Zr Eu6 (.block 2 (.loop Ba5))))) (.reg Cn2))))
def Cn3 : Sts := ZY 49 50 0 3<|zA 51 (zM 50)<|zG 52 0<|.nil
def Cn4 : Sts := zA 53 (Zb .lss 52 51)<|.nil
def Cn5 : Sts := zB 54 52<|Zj 55 56 1 50 52<|zB 12 54<|zB 13 56<|.nil
def Cn6 : Sts := zB 57 0<|ZZ 58 59 12 6 57<|zA 60 (Zo 6 59)<|zA 61 (Z1 86 60)<|zA 62 (Zt 61)<|.nil
def Cn7 : Sts := zB 63 13<|zA 64 (Zc .geq 63 0)<|.nil
def Cn8 : Sts := zB 65 5<|zB 66 13<|zB 67 12<|zA 68 (.call 121 [(.t 65), (.t 66), (.t 67)])<|.nil
def Cn9 : Sts := zB 69 13<|zA 70 (.bin .eql (.t 69) (.c (.int .i64 (-1))))<|zB 14 70<|.nil
def Co0 : AT := .q (zC 0 71 (zI 2 3)<|zC 1 72 (zK 71)<|zD 2 73 0<|zD 3 74 12<|zC 4 75 (zH 6 73 74)<|zC 5 76 (zI 0 75)<|zC 6 77 (zI 1 76)<|zC 7 78 (zJ 77)<|zC 8 79 (zH 1 72 78)<|zC 9 80 (zK 79)<|zC 10 81 (zM 80)<|zC 11 82 (.mv (zN 0))<|.nil)<|.fin
def Co2 : Sts := zA 83 (Zb .lss 82 81)<|.nil
def Co3 : Sts := Zj 84 85 1 80 82<|zB 16 85<|.nil
def Co4 : Sts := zB 86 14<|zB 87 86<|.cnd 87 true (zB 88 16<|zB 89 12<|zA 90 (Zb .neq 88 89)<|.nil) 91 (.t 90)<|.nil
def Co5 : Sts := zB 92 5<|zB 93 12<|zB 94 16<|zA 95 (.call 121 [(.t 92), (.t 93), (.t 94)])<|.nil
def Co6 : Sts := zB 96 14<|zB 97 96<|.cnd 97 false (zB 98 16<|zB 99 13<|zA 100 (Zb .eql 98 99)<|.nil) 101 (.t 100)<|zB 14 101<|.nil
def Co7 : Sts := zA 102 (Zc .add 82 1)<|zB 82 102<|.nil
def Ba7 : RCode := (Zr Co2 (.seq (ZX 83 8) (.seq (.block 9 (Zr Co3 (.seq (Zr Co4 (.cond (.t 91) (.reg Co5) .skip)) (.reg Co6)))) (.reg Co7))))
def Co8 : Sts := zA 103 (Zc .add 52 1)<|zB 52 103<|.nil
def Ba8 : RCode := (Zr Cn4 (.seq (ZX 53 6) (.seq (.block 7 (Zr Cn5 (.seq (Zr Cn6 (Zs 62 7)) (.seq (Zr Cn7 (.cond (.t 64) (.reg Cn8) .skip)) (Zr Cn9 (.seq (.any Co0) (.block 8 (.loop Ba7)))))))) (.reg Co8))))
def Co9 : Sts := zB 104 5<|zA 105 (Z1 106 104)<|zB 4 105<|.nil
def Q11 : RFun := ⟨106, [0, 1, 3, 4, 5, 7, 8, 9, 11, 12, 13, 14, 16, 20, 21, 22, 26, 27, 28, 36, 37, 38, 50, 51, 52, 80, 81, 82], (Zr Eu1 (Zr Eu2 (.seq (Zr Eu3 (.block 0 (.loop Ba6))) (.seq (Zr Cn3 (.block 6 (.loop Ba8))) (Zr Co9 .ret))))), [.tmp 4]⟩
theorem Q11_ok : Ak Tryz.prog Q11.V ZQ 123 = some Q11 := by kernel_rfl

def Cp0 : Sts := Zm 2 Zn<|.nil
def Cp1 : Sts := zB 3 0<|zA 4 (.eqS false (.t 3))<|.nil
def Cp2 : Sts := Zm 2 Zn<|.nil
def Cp3 : Sts := zA 5 (.buildSl 4 0 [] [])<|zB 6 0<|zA 7 (.append 4 1 1 [Zf] (.t 5) (.t 6))<|zB 2 7<|.nil
def Cy6 : RFun := ⟨8, [0, 2], (Zr Cp0 (.seq (Zr Cp1 (.cond (.t 4) (Zr Cp2 .ret) .skip)) (Zr Cp3 .ret))), [.tmp 2]⟩
theorem Q106_ok : Ak Tryz.prog Cy6.V ZQ 124 = some Cy6 := by kernel_rfl

def Ev1 : Sts := zG 4 0<|.nil
def Ev2 : Sts := zB 7 0<|zA 8 (Z1 152 7)<|zB 5 8<|.nil
def Ev3 : Sts := zB 9 1<|zA 10 (Z1 152 9)<|zB 6 10<|.nil
def Ev4 : Sts := zB 11 5<|.nil
def Ev5 : Sts := zB 12 6<|.nil
def Ev6 : Sts := zG 4 0<|.nil
def Ev7 : Sts := zA 4 (.mv (.c (.int .i64 (-1))))<|.nil
def Ev8 : Sts := zB 13 6<|.nil
def Ev9 : Sts := zG 4 1<|.nil
def Ew0 : Sts := zB 14 0<|zB 15 1<|zA 16 (Zb .lss 14 15)<|.nil
def Cp4 : Sts := zA 4 (.mv (.c (.int .i64 (-1))))<|.nil
def Cp5 : Sts := zB 17 0<|zB 18 1<|zA 19 (Zb .gtr 17 18)<|.nil
def Cp6 : Sts := zG 4 1<|.nil
def Cp7 : Sts := zG 4 0<|.nil
def Q42 : RFun := ⟨20, [0, 1, 4, 5, 6], (Zr Ev1 (Zr Ev2 (Zr Ev3 (.seq (Zr Ev4 (.cond (.t 11) (.seq (Zr Ev5 (.cond (.t 12) (Zr Ev6 .ret) .skip)) (Zr Ev7 .ret)) .skip)) (.seq (Zr Ev8 (.cond (.t 13) (Zr Ev9 .ret) .skip)) (.seq (Zr Ew0 (.cond (.t 16) (Zr Cp4 .ret) .skip)) (.seq (Zr Cp5 (.cond (.t 19) (Zr Cp6 .ret) .skip)) (Zr Cp7 .ret)))))))), [.tmp 4]⟩
theorem Q42_ok : Ak Tryz.prog Q42.V ZQ 127 = some Q42 := by kernel_rfl

def Ew1 : Sts := Zq 1 83 0<|zG 2 0<|.nil
def Ew2 : Sts := Zy 3 4 4 1<|zA 5 (Zc .neq 4 4)<|.nil
def Ew3 : Sts := Zy 6 7 4 1<|zB 2 7<|.nil
def Ew4 : Sts := Zy 8 9 0 1<|zA 10 (Zc .eql 9 0)<|.nil
def Ew5 : Sts := zG 2 1<|.nil
def Ew6 : Sts := Zy 11 12 0 1<|zA 13 (Zc .eql 12 1)<|.nil
def Ew7 : Sts := zG 2 2<|.nil
def Ew8 : Sts := zG 2 3<|.nil
def Q71 : RFun := ⟨14, [0, 1, 2], (Zr Ew1 (.seq (Zr Ew2 (.cond (.t 5) (Zr Ew3 .ret) .skip)) (.seq (Zr Ew4 (.cond (.t 10) (Zr Ew5 .ret) .skip)) (.seq (Zr Ew6 (.cond (.t 13) (Zr Ew7 .ret) .skip)) (Zr Ew8 .ret))))), [.tmp 2]⟩
theorem Q71_ok : Ak Tryz.prog Q71.V ZQ 128 = some Q71 := by kernel_rfl

def Ew9 : Sts := zB 10 1<|zA 11 (Zc .eql 10 3)<|.nil
def Ex0 : Sts := zB 12 0<|zA 13 (Z1 153 12)<|.nil
def Ex2 : Sts := zG 4 0<|.nil
def Ex3 : Sts := zA 5 (.mv (.c (.int .i64 (-1))))<|.nil
def Ex4 : Sts := zA 6 (.alloc 141 [Zf, Zf, Zf, Zf, Zf, Zf, Zf, Zf, Zf, Zf, Zf, Zf, Zf, Zf, Zf, Zf])<|.nil
def Cp8 : Sts := zG 7 0<|.nil
def Ex5 : Sts := zB 14 7<|ZO 15 16 17 0 2<|ZY 18 19 2 17<|ZZ 20 21 1 1 19<|zA 22 (zK 21)<|zA 23 (zM 22)<|zA 24 (Zb .lss 14 23)<|.nil
def Ex6 : Sts := ZO 27 28 29 0 2<|ZY 30 31 2 29<|ZZ 32 33 1 1 31<|zA 34 (zK 33)<|ZZ 35 36 7 1 34<|zA 37 (zJ 36)<|zB 5 37<|.nil
def Ex7 : Sts := zB 38 5<|zA 39 (.iaddrA 16 1 (.t 6) (.t 38))<|.op none (.store 1 (.t 39) (.c (.bool true)))<|.nil
def Ex8 : Sts := Zu 25 7 26
def Ac6 : RCode := (.seq (Zr Ex5 (ZX 24 0)) (.seq (.block 1 (Zr Ex6 (.reg Ex7))) (.reg Ex8)))
def Cp9 : Sts := zG 8 0<|.nil
def Cq0 : Sts := zB 40 8<|ZP 41 42 43 44 0 1<|zA 45 (zM 44)<|zA 46 (Zb .lss 40 45)<|.nil
def Cq1 : Sts := ZO 49 50 51 0 2<|ZY 52 53 1 51<|ZZ 54 55 8 1 53<|zA 56 (Zg 55)<|zA 57 (Zt 56)<|zB 58 57<|.cnd 58 false (ZP 59 60 61 62 0 1<|ZZ 63 64 8 6 62<|zA 65 (zI 1 64)<|Zy 66 67 1 65<|zB 68 1<|zA 69 (Zb .neq 67 68)<|.nil) 70 (.t 69)<|zB 71 70<|.cnd 71 false (zB 72 8<|zA 73 (.iaddrA 16 1 (.t 6) (.t 72))<|zA 74 (Zg 73)<|.nil) 75 (.t 74)<|.nil
def Cq2 : Sts := Zu 76 4 77
def Cq3 : Sts := ZP 78 79 80 81 0 1<|ZZ 82 83 8 6 81<|zA 84 (zI 1 83)<|zA 85 (Zo 5 84)<|zA 86 (Z1 56 85)<|zB 87 86<|.cnd 87 true (ZO 88 89 90 0 2<|ZY 91 92 0 90<|ZZ 93 94 8 1 92<|zA 95 (zJ 94)<|zB 96 5<|zA 97 (Zb .neq 95 96)<|.nil) 98 (.t 97)<|.nil
def Ap7 : Sts := ZO 99 100 101 0 2<|ZY 102 103 2 101<|ZZ 104 105 1 1 103<|zA 106 (zK 105)<|zB 9 106<|.nil
def Ac7 : AT := .q (zD 0 107 0<|zC 1 108 (Zk 107)<|zC 2 109 (zI 2 108)<|zC 3 110 (zI 2 109)<|zC 4 111 (zK 110)<|zD 5 112 1<|zD 6 113 9<|zD 8 115 8<|.nil)<|zE 7 114 (Z1 154 113) false (zF<|zE 9 116 (.buildSl 3 1 [Zi] [(0, 1, (.t 115))]) false (zF<|zE 10 117 (.append 3 1 8 [Zi] (.t 114) (.t 116)) false (.q (zC 11 118 (zH 1 111 112)<|.nil)<|.s 12 none (.store 1 (.t 118) (.t 117)) true (zF<|.fin)<|.no)<|.no)<|.no)<|zE 9 116 (.buildSl 3 1 [Zi] [(0, 1, (.t 115))]) false (zF<|zE 7 114 (Z1 154 113) false (zF<|zE 10 117 (.append 3 1 8 [Zi] (.t 114) (.t 116)) false (.q (zC 11 118 (zH 1 111 112)<|.nil)<|.s 12 none (.store 1 (.t 118) (.t 117)) true (zF<|.fin)<|.no)<|.no)<|.no)<|.no
def Ap8 : Sts := zB 119 0<|zB 120 1<|zA 121 (Z2 129 119 120)<|.nil
def Ap9 : Sts := ZO 122 123 124 0 2<|ZY 125 126 2 124<|zB 127 1<|zB 128 9<|zA 129 (zH 1 126 127)<|ZW 129 128<|.nil
def Cq4 : Sts := Zu 47 8 48
def Ba9 : RCode := (.seq (Zr Cq0 (ZX 46 2)) (.seq (.block 3 (.seq (Zr Cq1 (Zs 75 3)) (Zr Cq2 (.seq (Zr Cq3 (Zs 98 3)) (Zr Ap7 (.seq (.any Ac7) (Zr Ap8 (.reg Ap9)))))))) (.reg Cq4)))
def Cq5 : Sts := zB 130 4<|zA 131 (Zc .eql 130 0)<|.nil
def Cq6 : Sts := zB 132 0<|zB 133 1<|zA 134 (Zc .add 133 1)<|zA 135 (Z2 129 132 134)<|.nil
def Q79 : RFun := ⟨136, [0, 1, 4, 5, 6, 7, 8, 9], (.seq (Zr Ew9 (.cond (.t 11) (Zr Ex0 .ret) .skip)) (Zr Ex2 (Zr Ex3 (Zr Ex4 (.seq (Zr Cp8 (.block 0 (.loop Ac6))) (.seq (Zr Cp9 (.block 2 (.loop Ba9))) (Zr Cq5 (.cond (.t 131) (.reg Cq6) .skip)))))))), []⟩
theorem Q79_ok : Ak Tryz.prog Q79.V ZQ 129 = some Q79 := by kernel_rfl

def Ex9 : Sts := Zm 2 Zf<|.nil
def Ey0 : Sts := zB 3 0<|zA 4 (Z1 155 3)<|zA 5 (Zc .and 4 2)<|zA 6 (Zc .eql 5 2)<|zB 2 6<|.nil
def Q65 : RFun := ⟨7, [0, 2], (Zr Ex9 (Zr Ey0 .ret)), [.tmp 2]⟩
theorem Q65_ok : Ak Tryz.prog Q65.V ZQ 130 = some Q65 := by kernel_rfl

def Ey1 : Sts := Zm 2 Zf<|.nil
def Ey2 : Sts := zB 3 0<|zA 4 (Z1 155 3)<|zA 5 (Zc .and 4 1)<|zA 6 (Zc .eql 5 1)<|zB 2 6<|.nil
def Q63 : RFun := ⟨7, [0, 2], (Zr Ey1 (Zr Ey2 .ret)), [.tmp 2]⟩
theorem Q63_ok : Ak Tryz.prog Q63.V ZQ 131 = some Q63 := by kernel_rfl

def Cq7 : Sts := zG 2 0<|.nil
def Cq8 : Sts := zB 3 0<|zA 4 (Zc .eql 3 4)<|.nil
def Cq9 : Sts := zG 2 7<|.nil
def Cr0 : Sts := zB 5 0<|zB 2 5<|.nil
def Cy7 : RFun := ⟨6, [0, 2], (Zr Cq7 (.seq (Zr Cq8 (.cond (.t 4) (Zr Cq9 .ret) .skip)) (Zr Cr0 .ret))), [.tmp 2]⟩
theorem Q102_ok : Ak Tryz.prog Cy7.V ZQ 132 = some Cy7 := by kernel_rfl

def Ey3 : Sts := Zm 2 Zn<|.nil
def Ey4 : Sts := zB 3 0<|zA 4 (zM 3)<|zA 5 (.makeSl 144 1 4 [(.int .u32 0)] (.t 4) (.t 4))<|zB 2 5<|.nil
def Q32 : RFun := ⟨6, [0, 2], (Zr Ey3 (Zr Ey4 .ret)), [.tmp 2]⟩
theorem Q32_ok : Ak Tryz.prog Q32.V ZQ 136 = some Q32 := by kernel_rfl

def Fk0 : Sts := Zq 1 121 0<|Zm 2 Zf<|.nil
def Fk1 : Sts := zA 6 (zI 0 1)<|Zy 7 8 4 6<|zA 9 (Z1 158 8)<|zB 5 9<|zA 10 (Zx 0 5)<|zA 11 (Zx 1 5)<|zB 3 10<|zB 4 11<|.nil
def Fk2 : Sts := zB 12 3<|zB 2 12<|.nil
def Q6 : RFun := ⟨13, [0, 1, 2, 3], (Zr Fk0 (Zr Fk1 (Zr Fk2 .ret))), [.tmp 2]⟩
theorem Q6_ok : Ak Tryz.prog Q6.V ZQ 137 = some Q6 := by kernel_rfl

def Fk3 : Sts := Zq 1 121 0<|Zm 2 Zf<|.nil
def Fk4 : Sts := zA 6 (zI 0 1)<|Zy 7 8 4 6<|zA 9 (Z1 159 8)<|zB 5 9<|zA 10 (Zx 0 5)<|zA 11 (Zx 1 5)<|zB 3 10<|zB 4 11<|.nil
def Fk5 : Sts := zB 12 3<|zB 2 12<|.nil
def Q4 : RFun := ⟨13, [0, 1, 2, 3], (Zr Fk3 (Zr Fk4 (Zr Fk5 .ret))), [.tmp 2]⟩
theorem Q4_ok : Ak Tryz.prog Q4.V ZQ 138 = some Q4 := by kernel_rfl

def Ey5 : Sts := Zm 5 Zf<|.nil
def Ey6 : AT := .q (zC 0 6 (zK 1)<|zD 1 7 0<|zC 2 8 (zH 6 6 7)<|zC 3 9 (zI 0 8)<|zC 4 10 (zI 0 9)<|zC 5 11 (zJ 10)<|zC 6 12 (Zc .neq 11 5)<|zD 7 13 12<|.g 13 true (zC 8 14 (zK 2)<|zD 9 15 0<|zC 10 16 (zH 1 14 15)<|zC 11 17 (Zg 16)<|.nil) 12 18 (.t 17)<|zD 13 19 18<|.g 19 true (zC 14 20 (zK 1)<|zD 15 21 0<|zC 16 22 (zH 6 20 21)<|zC 17 23 (zI 0 22)<|zC 18 24 (zI 1 23)<|zC 19 25 (zJ 24)<|zC 20 26 (zJ 3)<|zC 21 27 (Zb .eql 25 26)<|.nil) 22 28 (.t 27)<|zD 23 5 28<|.nil)<|.fin
def Q37 : RFun := ⟨29, [0, 1, 2, 3, 5], (Zr Ey5 (.seq (.any Ey6) .ret)), [.tmp 5]⟩
theorem Q37_ok : Ak Tryz.prog Q37.V ZQ 139 = some Q37 := by kernel_rfl

def Cr1 : Sts := zG 4 0<|.nil
def Cr2 : Sts := zB 6 0<|zA 7 (zM 6)<|zG 8 0<|.nil
def Cr3 : Sts := zA 9 (Zb .lss 8 7)<|.nil
def Cr4 : Sts := zB 10 8<|zB 5 10<|.nil
def Cr5 : Sts := zB 11 1<|zB 12 0<|ZZ 13 14 5 1 12<|zA 15 (zJ 14)<|zA 16 (.callv (.t 11) [(.t 15)])<|.nil
def Cr6 : Sts := zB 17 5<|zB 4 17<|.nil
def Cr7 : Sts := zA 18 (Zc .add 8 1)<|zB 8 18<|.nil
def Bb0 : RCode := (Zr Cr3 (.seq (ZX 9 0) (.seq (.block 1 (Zr Cr4 (Zr Cr5 (.cond (.t 16) (Zr Cr6 .ret) .skip)))) (.reg Cr7))))
def Cr8 : Sts := zA 4 (.mv (.c (.int .i64 (-1))))<|.nil
def Cy8 : RFun := ⟨19, [0, 1, 4, 5, 7, 8], (Zr Cr1 (.seq (Zr Cr2 (.block 0 (.loop Bb0))) (Zr Cr8 .ret))), [.tmp 4]⟩
theorem Q114_ok : Ak Tryz.prog Cy8.V ZQ 140 = some Cy8 := by kernel_rfl

def Cr9 : Sts := Zm 4 Zn<|.nil
def Cs0 : Sts := zB 5 1<|zA 6 (Zc .lss 5 0)<|.nil
def Cs1 : Sts := zA 7 (.bad)<|.op none (.bad)<|.nil
def Cs2 : Sts := zB 8 1<|zB 9 0<|zA 10 (.cap (.t 9))<|zB 11 0<|zA 12 (zM 11)<|zA 13 (Zb .sub 10 12)<|zA 14 (Zb .sub 8 13)<|zB 1 14<|.nil
def Cs3 : Sts := zB 15 1<|zA 16 (Zc .gtr 15 0)<|.nil
def Cs4 : Sts := zB 17 0<|zB 18 0<|zA 19 (.cap (.t 18))<|zA 20 (.slS 1 (.t 17) none (some (.t 19)) none)<|zB 21 1<|zA 22 (.appendZ 3 1 8 [Zi] (.t 20) (.t 21))<|zB 23 0<|zA 24 (zM 23)<|zA 25 (.slS 1 (.t 22) none (some (.t 24)) none)<|zB 0 25<|.nil
def Cs5 : Sts := zB 26 0<|zB 4 26<|.nil
def Cy9 : RFun := ⟨27, [0, 1, 4], (Zr Cr9 (.seq (Zr Cs0 (.cond (.t 6) (.reg Cs1) .skip)) (.seq (Zr Cs2 (Zr Cs3 (.cond (.t 16) (.reg Cs4) .skip))) (Zr Cs5 .ret)))), [.tmp 4]⟩
theorem Q113_ok : Ak Tryz.prog Cy9.V ZQ 141 = some Cy9 := by kernel_rfl

def Ey7 : Sts := Zm 2 Zf<|.nil
def Ey8 : Sts := zB 3 0<|zB 4 0<|zA 5 (Zb .neq 3 4)<|zB 2 5<|.nil
def Q43 : RFun := ⟨6, [0, 2], (Zr Ey7 (Zr Ey8 .ret)), [.tmp 2]⟩
theorem Q43_ok : Ak Tryz.prog Q43.V ZQ 152 = some Q43 := by kernel_rfl

def Ey9 : Sts := ZO 2 3 4 0 2<|zA 5 (zI 3 4)<|.op none (.store 1 (.t 5) (.c Zn))<|.nil
def Cs6 : AT := .q (zD 0 6 0<|zC 1 7 (Zk 6)<|zC 2 8 (zI 1 7)<|zC 3 9 (zK 8)<|zD 4 10 0<|zC 5 11 (Zk 10)<|zC 6 12 (zI 2 11)<|zC 7 13 (Zo 4 12)<|zD 9 15 0<|zC 10 16 (Zk 15)<|zC 11 17 (zI 1 16)<|zC 12 18 (zK 17)<|zD 13 19 0<|zC 14 20 (Zk 19)<|zC 15 21 (zI 2 20)<|zC 16 22 (Zo 4 21)<|.nil)<|zE 8 14 (Z2 53 9 13) false (zF<|zE 17 23 (Z2 54 18 22) true (zF<|zE 18 24 (Z2 52 14 23) true (.q (zC 19 25 (Zt 24)<|.nil)<|.fin)<|.no)<|.no)<|.no
def Ez0 : Sts := zB 26 0<|zA 27 (Z1 165 26)<|.nil
def Q80 : RFun := ⟨28, [0], (Zr Ey9 (.seq (.any Cs6) (.cond (.t 25) (.reg Ez0) .skip))), []⟩
theorem Q80_ok : Ak Tryz.prog Q80.V ZQ 153 = some Q80 := by kernel_rfl

def Ez1 : Sts := Zm 2 Zn<|.nil
def Ez2 : Sts := zA 3 (.buildSl 3 0 [] [])<|zB 4 0<|zA 5 (.append 3 1 8 [Zi] (.t 3) (.t 4))<|zB 2 5<|.nil
def Q56 : RFun := ⟨6, [0, 2], (Zr Ez1 (Zr Ez2 .ret)), [.tmp 2]⟩
theorem Q56_ok : Ak Tryz.prog Q56.V ZQ 154 = some Q56 := by kernel_rfl

def Ez3 : Sts := zG 2 0<|.nil
def Ez4 : Sts := zA 3 (.buildSl 3 5 [Zi, Zi, Zi, Zi, Zi] [(0, 1, (zN 0)), (1, 1, (zN 1)), (2, 1, (zN 2)), (3, 1, (zN 3)), (4, 1, (zN 7))])<|ZZ 4 5 0 1 3<|zA 6 (zJ 5)<|zB 2 6<|.nil
def Q64 : RFun := ⟨7, [0, 2], (Zr Ez3 (Zr Ez4 .ret)), [.tmp 2]⟩
theorem Q64_ok : Ak Tryz.prog Q64.V ZQ 155 = some Q64 := by kernel_rfl

def Cs7 : Sts := Zm 2 Zf<|zG 3 0<|.nil
def Cs8 : Sts := zB 4 0<|zA 5 (Z1 96 4)<|zA 6 (Zt 5)<|.nil
def Cs9 : Sts := Zm 2 Zf<|zG 3 1<|.nil
def Ct0 : Sts := zB 7 0<|zA 8 (Z1 132 7)<|zA 9 (Zc .and 8 2)<|zA 10 (Zc .neq 9 0)<|zB 2 10<|zG 3 0<|.nil
def Cz0 : RFun := ⟨11, [0, 2, 3], (Zr Cs7 (.seq (Zr Cs8 (.cond (.t 6) (Zr Cs9 .ret) .skip)) (Zr Ct0 .ret))), [.tmp 2, .tmp 3]⟩
theorem Q101_ok : Ak Tryz.prog Cz0.V ZQ 158 = some Cz0 := by kernel_rfl

def Ez5 : Sts := Zm 2 Zf<|zG 3 0<|.nil
def Ez6 : Sts := zB 4 0<|zA 5 (Z1 96 4)<|zA 6 (Zt 5)<|.nil
def Ez7 : Sts := Zm 2 Zf<|zG 3 1<|.nil
def Ez8 : Sts := zB 7 0<|zA 8 (Z1 132 7)<|zA 9 (Zc .and 8 1)<|zA 10 (Zc .neq 9 0)<|zB 2 10<|zG 3 0<|.nil
def Q98 : RFun := ⟨11, [0, 2, 3], (Zr Ez5 (.seq (Zr Ez6 (.cond (.t 6) (Zr Ez7 .ret) .skip)) (Zr Ez8 .ret))), [.tmp 2, .tmp 3]⟩
theorem Q98_ok : Ak Tryz.prog Q98.V ZQ 159 = some Q98 := by kernel_rfl

def Ez9 : Sts := zG 2 0<|.nil
def Fa0 : Sts := ZO 7 8 9 0 2<|ZY 10 11 3 9<|zB 3 11<|.nil
def Fa1 : Sts := zG 4 0<|.nil
def Fa2 : Sts := zB 12 4<|ZP 13 14 15 16 0 1<|zA 17 (zM 16)<|zA 18 (Zb .lss 12 17)<|.nil
def Fa3 : Sts := ZP 21 22 23 24 0 1<|ZZ 25 26 4 6 24<|zA 27 (zI 1 26)<|zA 28 (Zo 5 27)<|zA 29 (Z1 94 28)<|zA 30 (Zt 29)<|zB 31 30<|.cnd 31 false (zB 32 3<|zB 33 4<|zA 34 (Z2 170 32 33)<|.nil) 35 (.t 34)<|.nil
def Fa4 : Sts := Zu 36 2 37
def Fa5 : Sts := zA 5 (.mv (.c (.bool true)))<|.nil
def Ct1 : Sts := zG 6 0<|.nil
def Fa6 : Sts := zB 38 6<|zB 39 4<|zA 40 (Zb .lss 38 39)<|.nil
def Ct2 : AT := .q (zD 0 43 0<|zC 1 44 (Zk 43)<|zC 2 45 (zI 1 44)<|zC 3 46 (zK 45)<|zD 4 47 6<|zC 5 48 (zH 6 46 47)<|zC 6 49 (zI 1 48)<|zC 7 50 (Zo 5 49)<|zC 8 51 (Z1 94 50)<|zD 9 52 51<|.g 52 true (zD 10 53 0<|zC 11 54 (Zk 53)<|zC 12 55 (zI 1 54)<|zC 13 56 (zK 55)<|zD 14 57 6<|zC 15 58 (zH 6 56 57)<|zC 16 59 (zI 0 58)<|zC 17 60 (zJ 59)<|zD 18 61 0<|zC 19 62 (Zk 61)<|zC 20 63 (zI 1 62)<|zC 21 64 (zK 63)<|zD 22 65 4<|zC 23 66 (zH 6 64 65)<|zC 24 67 (zI 0 66)<|zC 25 68 (zJ 67)<|zC 26 69 (Zb .eql 60 68)<|.nil) 27 70 (.t 69)<|zD 28 71 70<|.g 71 true (zD 29 72 3<|zD 30 73 6<|zC 31 74 (Z2 170 72 73)<|zC 32 75 (Zt 74)<|.nil) 33 76 (.t 75)<|.nil)<|.fin
def Ct3 : Sts := Zm 5 Zf<|.nil
def Ct4 : Sts := Zu 41 6 42
def Ac8 : RCode := (.seq (Zr Fa6 (ZX 40 2)) (.seq (.block 3 (.seq (.any Ct2) (.cond (.t 76) (.reg Ct3) .skip))) (.reg Ct4)))
def Ct5 : Sts := zB 77 5<|.nil
def Ct6 : Sts := zB 78 0<|zB 79 3<|zA 80 (Z1 154 79)<|zB 81 4<|zA 82 (.buildSl 3 1 [Zi] [(0, 1, (.t 81))])<|zA 83 (.append 3 1 8 [Zi] (.t 80) (.t 82))<|zA 84 (Zk 78)<|zA 85 (zI 2 84)<|zA 86 (zI 3 85)<|ZW 86 83<|.nil
def Ct7 : Sts := zB 87 0<|zA 88 (Z1 165 87)<|.nil
def Ct8 : Sts := zB 89 0<|zB 90 3<|zA 91 (Zk 89)<|zA 92 (zI 2 91)<|zA 93 (zI 3 92)<|ZW 93 90<|.nil
def Ct9 : Sts := Zu 19 4 20
def Bb1 : RCode := (.seq (Zr Fa2 (ZX 18 0)) (.seq (.block 1 (.seq (Zr Fa3 (Zs 35 1)) (Zr Fa4 (Zr Fa5 (.seq (Zr Ct1 (.block 2 (.loop Ac8))) (Zr Ct5 (.cond (.t 77) (Zr Ct6 (Zr Ct7 (.reg Ct8))) .skip))))))) (.reg Ct9)))
def Cu0 : Sts := zB 94 2<|zA 95 (Zc .eql 94 0)<|.nil
def Cu1 : Sts := zB 96 0<|zA 97 (Z1 171 96)<|.nil
def Q77 : RFun := ⟨98, [0, 2, 3, 4, 5, 6], (Zr Ez9 (Zr Fa0 (.seq (Zr Fa1 (.block 0 (.loop Bb1))) (Zr Cu0 (.cond (.t 95) (.reg Cu1) .skip))))), []⟩
theorem Q77_ok : Ak Tryz.prog Q77.V ZQ 165 = some Q77 := by kernel_rfl

def Fa7 : Sts := Zm 4 Zf<|.nil
def Fa8 : Sts := zG 5 0<|.nil
def Fa9 : Sts := Zl 6 5 7 0 8 9
def Fb0 : Sts := zB 12 0<|ZZ 13 14 5 1 12<|zA 15 (zJ 14)<|zB 16 1<|zA 17 (Zb .eql 15 16)<|.nil
def Fb1 : Sts := zA 4 (.mv (.c (.bool true)))<|.nil
def Fb2 : Sts := Zu 10 5 11
def Cu2 : RCode := (.seq (Zr Fa9 (ZX 9 0)) (.seq (.block 1 (Zr Fb0 (.cond (.t 17) (Zr Fb1 .ret) .skip))) (.reg Fb2)))
def Fb3 : Sts := Zm 4 Zf<|.nil
def Q58 : RFun := ⟨18, [0, 1, 4, 5], (Zr Fa7 (.seq (Zr Fa8 (.block 0 (.loop Cu2))) (Zr Fb3 .ret))), [.tmp 4]⟩
theorem Q58_ok : Ak Tryz.prog Q58.V ZQ 170 = some Q58 := by kernel_rfl

def Cu3 : AT := .q (zD 0 2 0<|zC 1 3 (Zk 2)<|zC 2 4 (zI 1 3)<|zC 3 5 (zK 4)<|zD 5 7 0<|zC 6 8 (Zk 7)<|zC 7 9 (zI 1 8)<|zC 8 10 (zK 9)<|zD 9 11 0<|zC 10 12 (Zk 11)<|zC 11 13 (zI 2 12)<|zC 12 14 (Zo 4 13)<|zD 14 16 0<|zC 15 17 (Zk 16)<|zC 16 18 (zI 2 17)<|zC 17 19 (Zo 4 18)<|.nil)<|zE 4 6 (Z1 49 5) false (zF<|zE 13 15 (Z2 50 10 14) false (zF<|zE 18 20 (Z1 51 19) true (zF<|zE 19 21 (Z2 48 15 20) true (zF<|zE 20 22 (Z2 48 6 21) true (zF<|zE 21 23 (Z1 47 22) true (zF<|zE 22 24 (Z1 46 23) true (.q (zD 23 25 24<|.nil)<|.br 25 (zF<|zL 24 26<|zF<|zL 25 27<|zF<|zL 26 28<|zF<|zL 27 29<|zF<|zL 28 30<|zF<|zL 29 31<|zF<|zL 30 32<|zF<|zL 31 33<|zF<|zL 32 34<|zF<|zL 33 35<|zF<|zL 34 36<|zF<|zL 35 37<|zF<|zL 36 38<|zF<|zL 37 39<|zF<|zL 38 40<|zF<|zL 39 41<|zF<|zL 40 42<|zF<|zL 41 43<|zF<|zL 42 44<|.q (zC 43 45 (.pick (.t 25) (.c (.bool true)) (.t 44))<|.nil)<|.fin)<|zF<|.q (zD 24 26 0<|.nil)<|zF<|.q (zC 25 27 (Zk 26)<|.nil)<|zF<|.q (zC 26 28 (zI 1 27)<|.nil)<|zF<|.q (zC 27 29 (zK 28)<|.nil)<|zF<|.q (zD 28 30 0<|.nil)<|zF<|.q (zC 29 31 (Zk 30)<|.nil)<|zF<|.q (zC 30 32 (zI 2 31)<|.nil)<|zF<|.q (zC 31 33 (Zo 4 32)<|.nil)<|zF<|.q (zD 33 35 0<|.nil)<|zF<|.q (zC 34 36 (Zk 35)<|.nil)<|zF<|.q (zC 35 37 (zI 1 36)<|.nil)<|zF<|.q (zC 36 38 (zK 37)<|.nil)<|zF<|.q (zD 37 39 0<|.nil)<|zF<|.q (zC 38 40 (Zk 39)<|.nil)<|zF<|.q (zC 39 41 (zI 2 40)<|.nil)<|zF<|.q (zC 40 42 (Zo 4 41)<|.nil)<|zF<|zE 32 34 (Z2 53 29 33) false (zF<|zE 41 43 (Z2 54 38 42) true (zF<|zE 42 44 (Z2 52 34 43) true (.q (zC 43 45 (.pick (.t 25) (.c (.bool true)) (.t 44))<|.nil)<|.fin)<|.no)<|.no)<|.no)<|.no)<|.no)<|.no)<|.no)<|.no)<|.no)<|.no
def Cu4 : AT := .q (zD 0 46 0<|zD 1 47 0<|zC 2 48 (Zk 47)<|zC 3 49 (zI 6 48)<|zC 4 50 (zK 49)<|zD 5 51 0<|zC 6 52 (Zk 51)<|zC 7 53 (zI 0 52)<|zC 8 54 (Zo 1 53)<|zD 9 55 0<|zC 10 56 (Zk 55)<|zC 11 57 (zI 2 56)<|zC 12 58 (Zo 4 57)<|.nil)<|zE 13 59 (Z2 21 54 58) false (zF<|zE 14 60 (Z2 174 50 59) false (.q (zC 15 61 (Zk 46)<|zC 16 62 (zI 6 61)<|.nil)<|.s 17 none (.store 1 (.t 62) (.t 60)) true (zF<|.fin)<|.no)<|.no)<|.no
def Fb4 : AT := .q (zD 0 63 0<|zC 1 64 (Zk 63)<|zC 2 65 (zI 7 64)<|zC 3 66 (zJ 65)<|zD 4 67 0<|zC 5 68 (Zk 67)<|zC 6 69 (zI 8 68)<|zC 7 70 (zJ 69)<|zC 8 71 (Zb .leq 66 70)<|.nil)<|.fin
def Fb5 : Sts := zB 72 0<|ZO 73 74 75 0 2<|zA 76 (Zo 4 75)<|zA 77 (Z1 175 76)<|zA 78 (Zk 72)<|zA 79 (zI 9 78)<|Zw 4 79 77<|.nil
def Fb6 : Sts := ZO 80 81 82 0 7<|zA 83 (zJ 82)<|zA 84 (Zc .add 83 1)<|zA 85 (Zk 80)<|zA 86 (zI 7 85)<|ZW 86 84<|.nil
def Q78 : RFun := ⟨87, [0], (.seq (.seq (.any Cu3) (.cond (.t 45) .ret .skip)) (.seq (.any Cu4) (.seq (.seq (.any Fb4) (.cond (.t 71) (.reg Fb5) .skip)) (.reg Fb6)))), []⟩
theorem Q78_ok : Ak Tryz.prog Q78.V ZQ 171 = some Q78 := by kernel_rfl

def Fb7 : Sts := Zm 4 Zn<|.nil
def Fb8 : Sts := zG 5 0<|.nil
def Fb9 : Sts := zB 9 0<|zA 10 (zM 9)<|zB 6 10<|.nil
def Fc0 : Sts := zB 11 5<|zB 12 6<|zA 13 (Zb .lss 11 12)<|.nil
def Fc1 : Sts := zB 14 5<|zB 15 6<|zA 16 (Zb .add 14 15)<|zA 17 (Zc .quo 16 2)<|zB 7 17<|.nil
def Fc2 : Sts := zB 18 0<|ZZ 19 20 7 1 18<|zA 21 (zK 20)<|zB 22 1<|zA 23 (Z2 31 21 22)<|.nil
def Fc3 : Sts := zB 24 7<|zA 25 (Zc .add 24 1)<|zB 5 25<|.nil
def Fc4 : Sts := zB 26 7<|zB 6 26<|.nil
def Cu5 : RCode := (.seq (Zr Fc0 (ZX 13 0)) (.block 1 (Zr Fc1 (Zr Fc2 (.cond (.t 23) (.reg Fc3) (.reg Fc4))))))
def Fc5 : Sts := zB 27 5<|zB 28 0<|zA 29 (zM 28)<|zA 30 (Zb .lss 27 29)<|zB 31 30<|.cnd 31 true (zB 32 0<|ZZ 33 34 5 1 32<|zA 35 (zK 34)<|zB 36 1<|zA 37 (Z2 20 35 36)<|.nil) 38 (.t 37)<|.nil
def Fc6 : Sts := zB 39 0<|zB 4 39<|.nil
def Cu6 : Sts := zB 40 0<|zA 41 (.buildSl 34 1 [Zn] [(0, 1, (.c Zn))])<|zA 42 (.append 34 1 24 [Zn] (.t 40) (.t 41))<|zB 0 42<|.nil
def Aq0 : Sts := zB 43 0<|zA 44 (zM 43)<|zA 45 (Zc .sub 44 1)<|zB 8 45<|.nil
def Cu7 : Sts := zB 46 8<|zB 47 5<|zA 48 (Zb .gtr 46 47)<|.nil
def Cu8 : Sts := zB 51 0<|zB 52 8<|zB 53 0<|zB 54 8<|zA 55 (Zc .sub 54 1)<|zA 56 (zH 1 53 55)<|zA 57 (zK 56)<|zA 58 (zH 1 51 52)<|ZW 58 57<|.nil
def Cu9 : Sts := zB 49 8<|zA 50 (Zc .sub 49 1)<|zB 8 50<|.nil
def Ac9 : RCode := (.seq (Zr Cu7 (ZX 48 2)) (.seq (.block 3 (.reg Cu8)) (.reg Cu9)))
def Aq1 : Sts := zB 59 0<|zB 60 5<|zB 61 1<|zA 62 (Z1 154 61)<|zA 63 (zH 1 59 60)<|ZW 63 62<|.nil
def Aq2 : Sts := zB 64 0<|zB 4 64<|.nil
def Q62 : RFun := ⟨65, [0, 1, 4, 5, 6, 7, 8], (Zr Fb7 (Zr Fb8 (Zr Fb9 (.seq (.block 0 (.loop Cu5)) (.seq (Zr Fc5 (.cond (.t 38) (Zr Fc6 .ret) .skip)) (Zr Cu6 (.seq (Zr Aq0 (.block 2 (.loop Ac9))) (Zr Aq1 (Zr Aq2 .ret))))))))), [.tmp 4]⟩
theorem Q62_ok : Ak Tryz.prog Q62.V ZQ 174 = some Q62 := by kernel_rfl

def Cv0 : Sts := Zq 1 37 0<|zA 2 (.alloc 37 [Zn, Zn, Zn, Zn])<|.nil
def Cv1 : AT := .q (zC 0 3 (zI 0 1)<|zC 1 4 (zK 3)<|zC 4 7 (zI 1 1)<|zC 5 8 (zK 7)<|zC 7 10 (zI 2 1)<|zC 8 11 (zK 10)<|zC 10 13 (zI 3 1)<|zC 11 14 (zK 13)<|.nil)<|zE 2 5 (Z1 154 4) false (zF<|zE 3 6 (.buildSl 4 0 [] []) false (zF<|zE 6 9 (.append 4 1 1 [Zf] (.t 6) (.t 8)) false (zF<|zE 9 12 (Z1 185 11) false (zF<|zE 12 15 (Z1 154 14) true (.q (zC 13 16 (.build [Zn, Zn, Zn, Zn] [(0, 1, (.t 5)), (1, 1, (.t 9)), (2, 1, (.t 12)), (3, 1, (.t 15))])<|.nil)<|.s 14 none (.store 4 (.t 2) (.t 16)) true (zF<|.fin)<|.no)<|.no)<|.no)<|.no)<|.no)<|zE 3 6 (.buildSl 4 0 [] []) false (zF<|zE 2 5 (Z1 154 4) false (zF<|zE 6 9 (.append 4 1 1 [Zf] (.t 6) (.t 8)) false (zF<|zE 9 12 (Z1 185 11) false (zF<|zE 12 15 (Z1 154 14) true (.q (zC 13 16 (.build [Zn, Zn, Zn, Zn] [(0, 1, (.t 5)), (1, 1, (.t 9)), (2, 1, (.t 12)), (3, 1, (.t 15))])<|.nil)<|.s 14 none (.store 4 (.t 2) (.t 16)) true (zF<|.fin)<|.no)<|.no)<|.no)<|.no)<|.no)<|.no
def Q86 : RFun := ⟨17, [0, 1, 2], (Zr Cv0 (.seq (.any Cv1) .ret)), [.cellA 2 4]⟩
theorem Q86_ok : Ak Tryz.prog Q86.V ZQ 175 = some Q86 := by kernel_rfl

def Fc7 : Sts := Zm 2 Zn<|.nil
def Fc8 : Sts := Zm 3 Zn<|.nil
def Fc9 : Sts := zG 4 0<|.nil
def Fd0 : Sts := Zl 5 4 6 0 7 8
def Fd1 : Sts := zB 11 3<|zB 12 0<|ZZ 13 14 4 1 12<|zA 15 (zK 14)<|zA 16 (Z1 154 15)<|zA 17 (.buildSl 34 1 [Zn] [(0, 1, (.t 16))])<|zA 18 (.append 34 1 24 [Zn] (.t 11) (.t 17))<|zB 3 18<|.nil
def Fd2 : Sts := Zu 9 4 10
def Cv2 : RCode := (.seq (Zr Fd0 (ZX 8 0)) (.seq (.block 1 (.reg Fd1)) (.reg Fd2)))
def Fd3 : Sts := zB 19 3<|zB 2 19<|.nil
def Q57 : RFun := ⟨20, [0, 2, 3, 4], (Zr Fc7 (Zr Fc8 (.seq (Zr Fc9 (.block 0 (.loop Cv2))) (Zr Fd3 .ret)))), [.tmp 2]⟩
theorem Q57_ok : Ak Tryz.prog Q57.V ZQ 185 = some Q57 := by kernel_rfl

abbrev vi (n : Int) : Value := .int .i64 n
abbrev vb (b : Bool) : Value := .bool b
def Bb2 (o : Int) : Int := if o = 4 then 7 else o
def Bz (o : Int) : Bool := decide (0 ≤ o) && decide (o < 5)
def Aq3 (k o : Int) : Bool :=
 if k = 0 then !decide (o = 2) && !decide (o = 3) else if k = 1 then !decide (o = 1) && !decide (o = 3) else if k = 5 then !decide (o = 0) else true
section
variable {M : Aa}
theorem L1 (o : Int) : As Tryz.prog 132 #[vi o] M (vi (Bb2 o)) := by
 refine Con.enter Q102_ok (args := [vi o]) (by simp [Cy7]) fun w0 => ?_
 simp only [Cy7, A9]
 repeat' first | refine st ?_ | refine rg ?_ | (refine cX ?_ ?_ <;> intro h <;> try exact Ai h) | refine rt Q102_ok ?_ | exact ⟨⟩ | fail
 all_goals simp_all [Bb2]
theorem Fi (o : Int) : As Tryz.prog 96 #[vi o] M (vb (Bz o)) := by
 refine Con.enter Q103_ok (args := [vi o]) (by simp [Cx8]) fun w0 => ?_
 simp only [Cx8, A9]
 repeat' first | refine st ?_ | refine rg ?_ | with_reducible assumption | (refine JE ?_ (fun hc K' hK => ?_) ?_; rotate_left) | refine rt Q103_ok ?_ | exact ⟨⟩ | fail
 all_goals simp_all [Bz]
theorem V0 (k o : Int) : As Tryz.prog 99 #[vi k, vi o] M (vb (Aq3 k o)) := by
 refine Con.enter Q104_ok (args := [vi k, vi o]) (by simp [Cy0]) fun w0 => ?_
 simp only [Cy0, A9]
 repeat' first | refine st ?_ | refine rg ?_ | with_reducible assumption | (refine JE ?_ (fun hc K' hK => ?_) ?_; rotate_left) | (refine cX ?_ ?_ <;> intro h <;> try exact Ai h) | refine rt Q104_ok ?_ | exact ⟨⟩ | fail
 all_goals simp_all [Aq3]
def Vg (k o : Int) : Bool := decide (0 ≤ k) && decide (k < 6) && Bz o
theorem N0 (k o : Int) : As Tryz.prog 64 #[vi k, vi o] M (.tuple #[vb (Vg k o && Aq3 k o), vi (if Vg k o then 0 else 1)]) := by
 refine Con.enter Q99_ok (args := [vi k, vi o]) (by simp [Q99]) fun w0 => ?_
 simp only [Q99, A9]
 repeat' first | refine st ?_ | refine rg ?_ | ((first | refine As.call (V0 _ _) ?_ | refine As.call (Fi _) ?_ | fail); try refine nx ?_) | with_reducible assumption | (refine JE ?_ (fun hc K' hK => ?_) ?_; rotate_left) | (refine cX ?_ ?_ <;> intro h <;> try exact Ai h) | refine rt Q99_ok ?_ | exact ⟨⟩ | fail
 all_goals (simp [Vg]; grind)
def Cz1 (o : Int) : Bool := decide (o = 1) || decide (o = 3) || decide (o = 4)
def Cz2 (o : Int) : Bool := decide (o = 2) || decide (o = 3) || decide (o = 4)
theorem D2 {o : Int} (h : Bz o = true) : o = 0 ∨ o = 1 ∨ o = 2 ∨ o = 3 ∨ o = 4 := by
 simp [Bz] at h; omega
theorem Nd (o : Int) (ho : Bz o = true) : As Tryz.prog 159 #[vi o] M (.tuple #[vb (Cz1 o), vi 0]) := by
 refine Con.enter Q98_ok (args := [vi o]) (by simp [Q98]) fun w0 => ?_
 simp only [Q98, A9]
 repeat' first | refine st ?_ | refine rg ?_ | ((first | refine As.call (L1 _) ?_ | refine As.call (Fi _) ?_ | fail); try refine nx ?_) | (refine cX ?_ ?_ <;> intro h <;> try exact Ai h) | refine rt Q98_ok ?_ | exact ⟨⟩ | fail
 all_goals (first | (cases (ho.symm.trans h); done) | (rcases D2 ho with rfl | rfl | rfl | rfl | rfl <;> (congr 3 <;> decide)))
theorem Nf (o : Int) (ho : Bz o = true) : As Tryz.prog 158 #[vi o] M (.tuple #[vb (Cz2 o), vi 0]) := by
 refine Con.enter Q101_ok (args := [vi o]) (by simp [Cz0]) fun w0 => ?_
 simp only [Cz0, A9]
 repeat' first | refine st ?_ | refine rg ?_ | ((first | refine As.call (L1 _) ?_ | refine As.call (Fi _) ?_ | fail); try refine nx ?_) | (refine cX ?_ ?_ <;> intro h <;> try exact Ai h) | refine rt Q101_ok ?_ | exact ⟨⟩ | fail
 all_goals (first | (cases (ho.symm.trans h); done) | (rcases D2 ho with rfl | rfl | rfl | rfl | rfl <;> (congr 3 <;> decide)))
def Jg (k o : Int) : Int := if o ≠ 4 then o else if k = 0 then 1 else if k = 1 then 2 else 3
theorem R7 (k o : Int) (hk : Vg k o = true) (hm : Aq3 k o = true) (h5 : k ≠ 5) : As Tryz.prog 72 #[vi k, vi o] M (.tuple #[vi (Jg k o), vi 0]) := by
 refine Con.enter Q100_ok (args := [vi k, vi o]) (by simp [Cx6]) fun w0 => ?_
 simp only [Cx6, A9]
 repeat' first | refine st ?_ | refine rg ?_ | (refine As.call (N0 _ _) ?_; try refine nx ?_) | with_reducible assumption | (refine JE ?_ (fun hc K' hK => ?_) ?_; rotate_left) | (refine cX ?_ ?_ <;> intro h <;> try exact Ai h) | refine rt Q100_ok ?_ | exact ⟨⟩ | fail
 all_goals simp_all [Jg]
structure OpV where
 kind : Int
 loc : Int
 v : Int
 w : Int
 ord : Int
 deriving DecidableEq
abbrev Bb (o : OpV) : List Value := [vi o.kind, vi o.loc, vi o.v, vi o.w, vi o.ord]
abbrev vop (o : OpV) : Value := .agg #[vi o.kind, vi o.loc, vi o.v, vi o.w, vi o.ord]
def Qp (n : Int) : Bool := decide (0 ≤ n) && decide (n ≤ 9)
theorem P1 (n : Int) : As Tryz.prog 100 #[vi n] M (vb (Qp n)) := by
 refine Con.enter Q48_ok (args := [vi n]) (by simp [Q48]) fun w0 => ?_
 simp only [Q48, A9]
 repeat' first | refine st ?_ | refine rg ?_ | with_reducible assumption | (refine JE ?_ (fun hc K' hK => ?_) ?_; rotate_left) | refine rt Q48_ok ?_ | exact ⟨⟩ | fail
 all_goals simp_all [Qp]
def Br (o : OpV) : Bool := decide (0 ≤ o.kind) && decide (o.kind ≤ 4)
theorem Fj (o : OpV) : As Tryz.prog 71 #[vop o] M (vb (Br o)) := by
 refine Con.enter Q47_ok (args := [vop o]) (by simp [Q47]) fun w0 => ?_
 simp only [Q47, A9]
 repeat' first | refine st ?_ | refine rg ?_ | with_reducible assumption | (refine JE ?_ (fun hc K' hK => ?_) ?_; rotate_left) | refine rt Q47_ok ?_ | ((first | with_reducible intro b | refine xiA rfl ?_ | fail); try refine nx ?_) | exact ⟨⟩ | fail
 all_goals simp_all [Br]
def Yo (o : OpV) : Bool :=
 decide (0 ≤ o.loc) && decide (o.loc < 3) &&
 (if o.kind = 0 then decide (o.v = 0) && decide (o.w = 0) else if o.kind = 1 then Qp o.v && decide (o.w = 0) else if o.kind = 2 then decide (-9 ≤ o.v) && decide (o.v ≤ 9) && decide (o.w = 0)
  else if o.kind = 3 ∨ o.kind = 4 then Qp o.v && Qp o.w else if o.kind = 5 then decide (o.loc = 0) && decide (o.v = 0) && decide (o.w = 0) else false)
theorem R8 (o : OpV) : As Tryz.prog 65 #[vop o] M (vb (Yo o)) := by
 refine Con.enter Q49_ok (args := [vop o]) (by simp [Q49]) fun w0 => ?_
 simp only [Q49, A9]
 repeat' first | refine st ?_ | refine rg ?_ | (refine As.call (P1 _) ?_; try refine nx ?_) | with_reducible assumption | (refine JE ?_ (fun hc K' hK => ?_) ?_; rotate_left) | (refine cX ?_ ?_ <;> intro h <;> try exact Ai h) | refine rt Q49_ok ?_ | ((first | with_reducible intro b | refine xiA rfl ?_ | fail); try refine nx ?_) | exact ⟨⟩ | fail
 all_goals (simp [Yo]; grind)
end
theorem Sl.ints {H : Aa} {b off : Nat} {xs : List Int} (h : rd H b off xs.length (xs.map vi)) : ∀ i (hi : i < xs.length), rd H b (off + i) 1 [vi xs[i]] := by
 intro i hi
 have := h.part (i := i) (m := 1) (by omega)
 rwa [show ((xs.map vi).drop i).take 1 = [vi xs[i]] from by
  rw [lBi (by simpa using hi)]; simp] at this
section
variable {M : Aa}
def mx (xs : List Int) (i : Nat) : Int := (xs.take i).foldl (fun a b => if b > a then b else a) (xs.headD 0)
theorem Bb3 {xs : List Int} {i : Nat} (hi : i < xs.length) : mx xs (i + 1) = if xs[i] > mx xs i then xs[i] else mx xs i := by
 simp only [mx, lA7 hi, lEi, lD1, lF2]
 rfl
theorem Tq (H : Aa) (b off c : Nat) (xs : List Int) (h0 : 0 < xs.length) (hl : xs.length < 1000000) (h : rd H b off xs.length (xs.map vi)) : As Tryz.prog 98 #[.slice (some ⟨b, off, none⟩) xs.length c] H (vi (mx xs xs.length)) := by
 have hr := Sl.ints h
 have lf : rd H b off 1 [vi xs[0]] := hr 0 h0
 have cQ : xs[0] = mx xs 1 := by cases xs with | nil => simp at h0 | cons x xs => simp [mx]
 refine Con.enter Q116_ok (args := [.slice (some ⟨b, off, none⟩) xs.length c]) (by simp [Cx9]) fun w0 => ?_
 simp only [Cx9, A9]
 repeat' first | refine st ?_ | refine rg ?_ | (refine cX ?_ ?_ <;> intro h <;> try exact Ai h) | refine ZF ?_ | (refine xm ?_; try refine nx ?_) | exact ⟨⟩ | fail
 ·refine JA (ρ' := [(0, .slice (some ⟨b, off, none⟩) xs.length c), (3, vi (mx xs 1)), (4, vi (1 : Nat))]) ?_ (by simp [get, cQ]) (lA0 _)
  refine EV.loop (fun i : Nat => ([(0, .slice (some ⟨b, off, none⟩) xs.length c), (3, vi (mx xs i)), (4, vi i)], H, [])) (fun i => 1 ≤ i ∧ i ≤ xs.length) (fun i => xs.length - i) 1 ⟨by omega, by omega⟩ ?_
  intro i ⟨rQ, bT⟩ ih
  dsimp only at ih ⊢
  repeat' first | refine st ?_ | refine rg ?_ | (refine cX ?_ ?_ <;> intro h <;> try exact Ai h) | refine rt Q116_ok ?_ | refine ZF ?_ | exact ⟨⟩ | fail
  ·have hi : i < xs.length := by omega
   refine ⟨_, As9 (hr i hi), ?_⟩
   repeat' first | refine su ?_ | refine rg ?_ | exact ⟨⟩ | fail
   refine JA (ih (i + 1) ⟨by omega, by omega⟩ (by omega)) ?_ (lA0 _)
   repeat' first | (refine lBp.2 (lAd ?_ ?_)) | (intro _ ba; cases ba; done) | rfl | (refine Ab8 rfl (by first | rfl | (push_cast; first | rfl | omega)) (by omega) (by omega); done) | (simp (disch := omega) only [Al, Au, reduceIte, Nat.reduceEqDiff, Option.some.injEq, Value.int.injEq, w64, lD2, lDg, lBd, lD6, Bb3 hi]; done) | fail
  ·rw [show i = xs.length from by omega]
structure LimS where
 acc : Int
 fen : Int
 w0 : Int
 w1 : Int
 w2 : Int
def Am (s : LimS) (o : OpV) : LimS :=
 if o.kind = 5 then { s with fen := s.fen + 1 }
 else if Br o = true then
  {acc := s.acc + 1, fen := if o.ord = 4 then s.fen + 2 else s.fen,
   w0 := if o.kind ≠ 0 ∧ o.loc = 0 then s.w0 + 1 else s.w0, w1 := if o.kind ≠ 0 ∧ o.loc = 1 then s.w1 + 1 else s.w1, w2 := if o.kind ≠ 0 ∧ o.loc = 2 then s.w2 + 1 else s.w2 }
 else s
def Bf (l : List OpV) : LimS := l.foldl Am ⟨0, 0, 0, 0, 0⟩
def Gc (ts : List (List OpV)) : Bool :=
 decide (ts.length ≤ 3) && decide ((Bf ts.flatten).acc ≤ 6) && decide ((Bf ts.flatten).fen ≤ 8) && decide ((Bf ts.flatten).w0 ≤ 4) && decide ((Bf ts.flatten).w1 ≤ 4) && decide ((Bf ts.flatten).w2 ≤ 4)
theorem Tr (l : List OpV) : 0 ≤ (Bf l).acc ∧ (Bf l).acc ≤ l.length ∧ 0 ≤ (Bf l).fen ∧ (Bf l).fen ≤ 2 * l.length ∧ 0 ≤ (Bf l).w0 ∧ (Bf l).w0 ≤ l.length ∧ 0 ≤ (Bf l).w1 ∧ (Bf l).w1 ≤ l.length ∧ 0 ≤ (Bf l).w2 ∧ (Bf l).w2 ≤ l.length := by
 have key : ∀ (l : List OpV) (s : LimS), s.acc ≤ (l.foldl Am s).acc ∧ (l.foldl Am s).acc ≤ s.acc + l.length ∧ s.fen ≤ (l.foldl Am s).fen ∧ (l.foldl Am s).fen ≤ s.fen + 2 * l.length ∧ s.w0 ≤ (l.foldl Am s).w0 ∧ (l.foldl Am s).w0 ≤ s.w0 + l.length ∧ s.w1 ≤ (l.foldl Am s).w1 ∧ (l.foldl Am s).w1 ≤ s.w1 + l.length ∧ s.w2 ≤ (l.foldl Am s).w2 ∧ (l.foldl Am s).w2 ≤ s.w2 + l.length := by
  intro l
  induction l with
  | nil => intro s; simp
  | cons o l ih =>
   intro s
   have := ih (Am s o)
   simp only [lD1, lB5]
   have h2 : s.acc ≤ (Am s o).acc ∧ (Am s o).acc ≤ s.acc + 1 ∧ s.fen ≤ (Am s o).fen ∧ (Am s o).fen ≤ s.fen + 2 ∧ s.w0 ≤ (Am s o).w0 ∧ (Am s o).w0 ≤ s.w0 + 1 ∧ s.w1 ≤ (Am s o).w1 ∧ (Am s o).w1 ≤ s.w1 + 1 ∧ s.w2 ≤ (Am s o).w2 ∧ (Am s o).w2 ≤ s.w2 + 1 := by
    unfold Am
    split
    ·simp; omega
    ·split
     ·simp only []
      refine ⟨?_, ?_, ?_, ?_, ?_, ?_, ?_, ?_, ?_, ?_⟩ <;> (repeat' split) <;> omega
     ·simp; omega
   omega
 have := key l ⟨0, 0, 0, 0, 0⟩
 dsimp only at this
 unfold Bf
 omega
theorem D3 {α : Type} {ts : List (List α)} {i : Nat} (hi : i < ts.length) : (ts.take (i + 1)).flatten = (ts.take i).flatten ++ ts[i] := by
 rw [lA7 hi, lFf]; simp
theorem Cp {α : Type} (ts : List (List α)) (i : Nat) : (ts.take i).flatten.length ≤ ts.flatten.length := by
 have : ts.flatten = (ts.take i).flatten ++ (ts.drop i).flatten := by rw [← lFf, lEg]
 rw [this]; simp
structure Sized {α : Type} (ts : List (List α)) : Prop where
 len : ts.length ≤ 281474976710656
 each : ∀ t ∈ ts, t.length ≤ 281474976710656
theorem R9 {α : Type} {B : Nat} : ∀ {ts : List (List α)}, (∀ t ∈ ts, t.length ≤ B) → ts.flatten.length ≤ ts.length * B
 | [], _ => by simp
 | t :: ts, h => by
  have h1 := R9 (ts := ts) fun x hx => h x (lB6 _ hx)
  have h2 := h t (lAz ..)
  rw [lD9, lA4, lB5, lEe]; omega
theorem Sized.flat {α : Type} {ts : List (List α)} (h : Sized ts) (h3 : ts.length ≤ 3) : ts.flatten.length < 1000000000000000 := by
 have h1 := R9 h.each
 have h2 : ts.length * 281474976710656 ≤ 3 * 281474976710656 := lBu _ h3
 omega
theorem N1 (ts : List (List OpV)) (s : Value) (hs : Ee M 5 Bb s ts) (hb : Sized ts) : As Tryz.prog 63 #[.agg #[s]] M (vb (Gc ts)) := by
 obtain ⟨a, c, vs, rfl, hl, aH, hk⟩ := hs
 refine Con.enter Q50_ok (args := [.agg #[.slice a ts.length c]]) (by simp [Q50]) fun w0 => ?_
 simp only [Q50, A9]
 repeat' first | refine st ?_ | refine rg ?_ | (refine cX ?_ ?_ <;> intro h <;> try exact Ai h) | refine rt Q50_ok ?_ | ((first | with_reducible intro b | refine xsA rfl ?_ | fail); try refine nx ?_) | exact ⟨⟩ | fail
 ·simp [Gc]; omega
 rename_i b1
 have gW : ts.length ≤ 3 := by omega
 have lg := hb.2
 have hb := hb.flat gW
 refine JA (ρ' := [(3, vi (Bf (ts.take 0).flatten).acc), (4, vi (Bf (ts.take 0).flatten).fen), (5, pv b 0), (15, .slice a ts.length c), (16, vi ts.length), (17, vi (0 : Nat))])
  (G' := [(b, Cl 142 [vi (Bf (ts.take 0).flatten).w0, vi (Bf (ts.take 0).flatten).w1, vi (Bf (ts.take 0).flatten).w2])]) ?_ (by simp [get, Bf]) (by simp [Bf])
 refine EV.loop (fun i : Nat => ([(3, vi (Bf (ts.take i).flatten).acc), (4, vi (Bf (ts.take i).flatten).fen), (5, pv b 0), (15, .slice a ts.length c), (16, vi ts.length), (17, vi i)], M,
  [(b, Cl 142 [vi (Bf (ts.take i).flatten).w0, vi (Bf (ts.take i).flatten).w1, vi (Bf (ts.take i).flatten).w2])])) (fun i => i ≤ ts.length) (fun i => ts.length - i) 0 (lA8 _) ?_
 intro i hi ih
 dsimp only at ih ⊢
 repeat' first | refine st ?_ | refine rg ?_ | (refine As.call (Tq _ _ 0 3 [_, _, _] (by simp) (by simp) (Ap 0 rfl rfl (by simp))) ?_; try refine nx ?_) | with_reducible assumption | (refine JE ?_ (fun hc K' hK => ?_) ?_; rotate_left) | (refine cX ?_ ?_ <;> intro h <;> try exact Ai h) | refine rt Q50_ok ?_ | exact ⟨⟩ | fail
 ·have aC : i < ts.length := by omega
  obtain ⟨pb, po, rfl, hat⟩ := Ee.at aH hl hk (by omega)
  obtain ⟨a', c', aR, aW⟩ := hat i aC
  simp only [lAw] at aR
  repeat' first | refine st ?_ | refine rg ?_ | refine ZF ?_ | (refine xn ?_; try refine nx ?_) | exact ⟨⟩ | fail
  have aG : ((ts.take i).flatten ++ ts[i]).length ≤ ts.flatten.length := by rw [← D3 aC]; exact Cp ts (i + 1)
  simp only [lA4] at aG
  let W : Nat → LimS := fun j => Bf ((ts.take i).flatten ++ ts[i].take j)
  refine JA (ρ' := [(3, vi (W 0).acc), (4, vi (W 0).fen), (5, pv b 0), (15, .slice (some ⟨pb, po, none⟩) ts.length c), (16, vi ts.length), (17, vi i), (21, .slice a' ts[i].length c'), (22, vi ts[i].length), (23, vi (0 : Nat))])
   (G' := [(b, Cl 142 [vi (W 0).w0, vi (W 0).w1, vi (W 0).w2])]) ?_ (by simp [get, W]) (by simp [W])
  refine EV.loop (fun j : Nat => ([(3, vi (W j).acc), (4, vi (W j).fen), (5, pv b 0), (15, .slice (some ⟨pb, po, none⟩) ts.length c), (16, vi ts.length), (17, vi i), (21, .slice a' ts[i].length c'), (22, vi ts[i].length), (23, vi j)], M,
   [(b, Cl 142 [vi (W j).w0, vi (W j).w1, vi (W j).w2])])) (fun j => j ≤ ts[i].length) (fun j => ts[i].length - j) 0 (lA8 _) ?_
  intro j hj ih2
  dsimp only at ih2 ⊢
  repeat' first | refine st ?_ | refine rg ?_ | (refine cX ?_ ?_ <;> intro h <;> try exact Ai h) | exact ⟨⟩ | fail
  ·have aN : j < ts[i].length := by omega
   obtain ⟨qb, qo, rfl, aJ⟩ := Sl.at (enc := Bb) (fun _ => rfl) (by omega) aW (by omega)
   have cw := aJ j aN
   have hW : W (j + 1) = Am (W j) ts[i][j] := by
    simp only [W, Bf, lA7 aN, ← lAc, lEi, lD1, lF2]
   have rR := Tr ((ts.take i).flatten ++ ts[i].take j)
   have si : ((ts.take i).flatten ++ ts[i].take j).length < 1000000000000000 := by rw [lA4, lC0]; omega
   have fin : ∀ ρ G', (∀ p ∈ [(3, vi (W (j + 1)).acc), (4, vi (W (j + 1)).fen), (5, pv b 0), (15, .slice (some ⟨pb, po, none⟩) ts.length c), (16, vi ts.length), (17, vi i), (21, .slice (some ⟨qb, qo, none⟩) ts[i].length c'), (22, vi ts[i].length), (23, vi (j + 1 : Nat))], get ρ p.1 = some p.2) →
     [(b, Cl 142 [vi (W (j + 1)).w0, vi (W (j + 1)).w1, vi (W (j + 1)).w2])].Sublist G' → _ := fun ρ G' h1 h2 => JA (ρ := ρ) (G := G') (ih2 (j + 1) (by omega) (by omega)) h1 h2
   rw [hW] at fin
   have rS : W j = Bf ((ts.take i).flatten ++ ts[i].take j) := rfl
   rw [← rS] at rR
   clear_value W
   have e1 : IntKind.i64.wrap ((W j).acc + 1) = (W j).acc + 1 := w64 (by omega) (by omega)
   have e2 : IntKind.i64.wrap ((W j).fen + 1) = (W j).fen + 1 := w64 (by omega) (by omega)
   have e3 : IntKind.i64.wrap ((W j).fen + 2) = (W j).fen + 2 := w64 (by omega) (by omega)
   have e4 : IntKind.i64.wrap ((W j).w0 + 1) = (W j).w0 + 1 := w64 (by omega) (by omega)
   have e5 : IntKind.i64.wrap ((W j).w1 + 1) = (W j).w1 + 1 := w64 (by omega) (by omega)
   have e6 : IntKind.i64.wrap ((W j).w2 + 1) = (W j).w2 + 1 := w64 (by omega) (by omega)
   have e7 : IntKind.i64.wrap ((j : Int) + 1) = ((j + 1 : Nat) : Int) := w64 (by omega) (by omega)
   clear ih ih2 hat aJ aH hk aR aW rR si rS aG hW hb lg hl
   generalize W j = s at *
   generalize ts[i][j] = o at *
   clear W
   repeat' first | refine st ?_ | refine rg ?_ | (refine As.call (Fj _) ?_; try refine nx ?_) | with_reducible assumption | (refine JE ?_ (fun hc K' hK => ?_) ?_; rotate_left) | (refine cX ?_ ?_ <;> intro h <;> try exact Ai h) | (with_reducible intro b; try refine nx ?_) | refine ZF ?_ | ((first | refine xm ?_ | refine xrA rfl ?_ | refine xiA rfl ?_ | fail); try refine nx ?_) | (refine xw ?_; refine nx ?_) | exact ⟨⟩ | fail
   all_goals try refine fin _ _ ?_ ?_
   all_goals first
    | (simp [get, Am, *]; done)
    | (simp [get, Am, *]; grind)
    | skip
   all_goals
    have bY : o.loc = 0 ∨ o.loc = 1 ∨ o.loc = 2 := by omega
    have jy : ¬ o.kind = 0 := by omega
    rcases bY with bY | bY | bY <;> rw [bY] <;> simp only [Int.reduceToNat, Int.toNat_zero, Int.reduceLE, Int.reduceLT, true_and]
   all_goals repeat' first | refine su ?_ | refine rg ?_ | (refine xiA rfl ?_; try refine nx ?_) | (refine xw ?_; refine nx ?_) | exact ⟨⟩ | fail
   all_goals try refine fin _ _ ?_ ?_
   all_goals first
    | (simp [get, Am, *]; done)
    | (simp [get, Am, *]; grind)
    | skip
  ·have aN : j = ts[i].length := by omega
   subst aN
   have hf : (ts.take i).flatten ++ ts[i].take ts[i].length = (ts.take (i + 1)).flatten := by rw [D3 aC, lB1]
   refine JA (ih (i + 1) (by omega) (by omega)) ?_ ?_
   ·clear ih ih2
    rw [← hf]
    simp [get, W]
    exact w64 (by omega) (by omega)
   ·rw [← hf]
    exact lA0 _
 ·have gX : i = ts.length := by omega
  subst gX
  rw [lB1]
  simp only [Gc, mx, lEp, lDc, lD1, lF2, List.headD_cons]
  congr 1
  have h3 : decide (ts.length ≤ 3) = true := by simpa using gW
  rw [h3]
  grind
end
section
variable {M : Aa}
def Ng (o : OpV) : Bool := Vg o.kind o.ord && Aq3 o.kind o.ord && Yo o
def A2 (ts : List (List OpV)) : Int := if Gc ts = false then 2 else if ts.length = 0 then 1 else if ts.flatten.all Ng = true then 0 else 1
theorem E9 (o : OpV) : Ng o = true ↔ Vg o.kind o.ord = true ∧ Aq3 o.kind o.ord = true ∧ Yo o = true := by
 simp [Ng, and_assoc]
theorem P2 (ts : List (List OpV)) (s : Value) (hs : Ee M 5 Bb s ts) (hb : Sized ts) : As Tryz.prog 24 #[.agg #[s]] M (vi (A2 ts)) := by
 have oZ := fun G => N1 (M := M.add G) ts s (hs.mono (JB _ _)) hb
 have lg := hb.1
 have o4 := hb.2
 obtain ⟨a, c, vs, rfl, hl, aH, hk⟩ := hs
 refine Con.enter Q44_ok (args := [.agg #[.slice a ts.length c]]) (by simp [Q44]) fun w0 => ?_
 simp only [Q44, A9]
 repeat' first | refine st ?_ | refine rg ?_ | (refine As.call (oZ _) ?_; try refine nx ?_) | (refine cX ?_ ?_ <;> intro h <;> try exact Ai h) | refine rt Q44_ok ?_ | ((first | with_reducible intro b | refine xrA rfl ?_ | refine xsA rfl ?_ | fail); try refine nx ?_) | exact ⟨⟩ | fail
 ·simp [A2, h]
 ·rename_i h1
  have : ts.length = 0 := by omega
  simp [A2, this, h1]
 rename_i h1
 refine JA (ρ' := [(17, .slice a ts.length c), (18, vi ts.length), (19, vi (0 : Nat))]) (G' := []) ?_ (by simp (disch := omega) only [lBp, lB4, false_implies, implies_true, and_true, true_and, Al, Au, reduceIte, Nat.reduceEqDiff, Option.some.injEq, Value.int.injEq, w64, lD2, lDg, lBd, lD6]) (by simp)
 refine EV.loop (fun i : Nat => ([(17, .slice a ts.length c), (18, vi ts.length), (19, vi i)], M, [])) (fun i => i ≤ ts.length ∧ (ts.take i).flatten.all Ng = true) (fun i => ts.length - i) 0 (by simp) ?_
 intro i ⟨hi, ae⟩ ih
 dsimp only at ih ⊢
 repeat' first | refine st ?_ | refine rg ?_ | (refine cX ?_ ?_ <;> intro h <;> try exact Ai h) | refine rt Q44_ok ?_ | exact ⟨⟩ | fail
 ·have aC : i < ts.length := by omega
  obtain ⟨pb, po, rfl, hat⟩ := Ee.at aH hl hk (by omega)
  obtain ⟨a', c', aR, aW⟩ := hat i aC
  simp only [lAw] at aR
  have aG : ts[i].length ≤ ts.flatten.length := by have := D3 aC; have h2 := Cp ts (i + 1); rw [this, lA4] at h2; omega
  have u4 := o4 ts[i] (lAm aC)
  have aI : ∀ o ∈ ts[i], o ∈ ts.flatten := fun o ho => lE9.2 ⟨ts[i], lAm aC, ho⟩
  repeat' first | refine st ?_ | refine rg ?_ | refine ZF ?_ | (refine xn ?_; try refine nx ?_) | exact ⟨⟩ | fail
  refine JA (ρ' := [(17, .slice (some ⟨pb, po, none⟩) ts.length c), (18, vi ts.length), (19, vi i), (23, .slice a' ts[i].length c'), (24, vi ts[i].length), (25, vi (0 : Nat))]) (G' := []) ?_ (by simp (disch := omega) only [lBp, lB4, false_implies, implies_true, and_true, true_and, Al, Au, reduceIte, Nat.reduceEqDiff, Option.some.injEq, Value.int.injEq, w64, lD2, lDg, lBd, lD6]) (by simp)
  refine EV.loop (fun j : Nat => ([(17, .slice (some ⟨pb, po, none⟩) ts.length c), (18, vi ts.length), (19, vi i), (23, .slice a' ts[i].length c'), (24, vi ts[i].length), (25, vi j)], M, [])) (fun j => j ≤ ts[i].length ∧ (ts[i].take j).all Ng = true) (fun j => ts[i].length - j) 0 (by simp) ?_
  intro j ⟨hj, f8⟩ ih2
  dsimp only at ih2 ⊢
  repeat' first | refine st ?_ | refine rg ?_ | (refine cX ?_ ?_ <;> intro h <;> try exact Ai h) | exact ⟨⟩ | fail
  ·have aN : j < ts[i].length := by omega
   obtain ⟨qb, qo, rfl, aJ⟩ := Sl.at (enc := Bb) (fun _ => rfl) (by omega) aW (by omega)
   have cw := aJ j aN
   repeat' first | refine st ?_ | refine rg ?_ | ((first | refine As.call (R8 _) ?_ | refine As.call (N0 _ _) ?_ | fail); try refine nx ?_) | with_reducible assumption | (refine JE ?_ (fun hc K' hK => ?_) ?_; rotate_left) | (refine cX ?_ ?_ <;> intro h <;> try exact Ai h) | refine rt Q44_ok ?_ | (with_reducible intro b; try refine nx ?_) | refine ZF ?_ | ((first | refine xm ?_ | refine xrA rfl ?_ | refine xiA rfl ?_ | fail); try refine nx ?_) | (refine xw ?_; refine nx ?_) | exact ⟨⟩ | fail
   ·have aP : Ng ts[i][j] = false := by
     cases hq : Ng ts[i][j] with
     | false => rfl
     | true => obtain ⟨q1, q2, q3⟩ := (E9 _).1 hq; simp [q1, q2, q3] at h
    have hne : ts.flatten.all Ng = false := by
     rw [lEh]
     exact ⟨ts[i][j], aI _ (lAm aN), by simp [aP]⟩
    have h0 : ¬ ts.length = 0 := by omega
    simp [A2, h1, h0, hne]
   ·have bX : Ng ts[i][j] = true := by
     rw [E9]
     grind
    refine JA (ih2 (j + 1) ⟨by omega, ?_⟩ (by omega)) ?_ (by simp)
    ·rw [lA7 aN, lDh, f8]
     simp [bX]
    ·exact eE
  ·have aN : j = ts[i].length := by omega
   subst aN
   refine JA (ih (i + 1) ⟨by omega, ?_⟩ (by omega)) ?_ (by simp)
   ·rw [D3 aC, lDh, ae, lC1]
    rwa [lB1] at f8
   ·exact eE
 ·have gX : i = ts.length := by omega
  subst gX
  rw [lB1] at ae
  have h0 : ¬ ts.length = 0 := by omega
  simp [A2, ae, h1, h0]
end
section
variable {M : Aa}
abbrev Hy : OpV := ⟨5, 0, 0, 0, 4⟩
theorem I9 : As Tryz.prog 73 #[] M (vop Hy) := by
 refine Con.enter Q52_ok (args := []) (by simp [Q52]) fun w0 => ?_
 simp only [Q52, A9]
 repeat' first | refine st ?_ | refine rg ?_ | refine rt Q52_ok ?_ | ((first | with_reducible intro b | refine xrA rfl ?_ | fail); try refine nx ?_) | (refine xw ?_; refine nx ?_) | exact ⟨⟩ | fail
 all_goals rfl
def Cq (o : OpV) : List OpV := if Br o = false ∨ o.ord ≠ 4 then [o] else [Hy, { o with ord := Jg o.kind o.ord }, Hy]
theorem Ke (o : OpV) (f : Bool) (ho : Ng o = true) : Con Tryz.prog 70 #[vop o, vb f] M [] fun v _ G' => ∃ b, v = .slice (some ⟨b, 0, none⟩) (Cq o).length (Cq o).length ∧ G' = [(b, Cl 83 ((Cq o).flatMap Bb))] := by
 obtain ⟨q1, q2, q3⟩ := (E9 o).1 ho
 refine Con.enter Q46_ok (args := [vop o, vb f]) (by simp [Q46]) fun w0 => ?_
 simp only [Q46, A9]
 repeat' first | refine st ?_ | refine rg ?_ | (refine As.call (Fj _) ?_; try refine nx ?_) | with_reducible assumption | (refine JE ?_ (fun hc K' hK => ?_) ?_; rotate_left) | (refine cX ?_ ?_ <;> intro h <;> try exact Ai h) | ((first | with_reducible intro b | refine xrA rfl ?_ | refine xiA rfl ?_ | fail); try refine nx ?_) | exact ⟨⟩ | fail
 ·refine JA (ρ' := [(4, .slice (some ⟨b, 0, none⟩) 1 1)]) (G' := [(b, Cl 83 (Bb o))]) ?_ (by simp (disch := omega) only [lBp, lB4, false_implies, implies_true, and_true, true_and, Al, Au, reduceIte, Nat.reduceEqDiff, Option.some.injEq, Value.int.injEq, w64, lD2, lDg, lBd, lD6]) (by simp)
  (refine rt Q46_ok ?_; try with_reducible exact ⟨⟩)
  have he : Cq o = [o] := by simp [Cq, h]
  exact ⟨b, by rw [he]; rfl, by rw [he]; rfl⟩
 ·have h5 : o.kind ≠ 5 := by
   intro h5
   have := h.1
   simp [Br, h5] at this
  refine As.call (R7 _ _ q1 q2 h5) ?_
  (refine nx ?_; try with_reducible exact ⟨⟩)
  repeat' first | refine st ?_ | (refine EV.any _ (lA0 _) ?_; (conv => (arg 2; whnf)); refine nx ?_) | ((first | refine As.call (I9) ?_ | with_reducible intro b | refine xrA rfl ?_ | fail); try refine nx ?_) | (refine xw ?_; refine nx ?_) | (refine lAd (Aa.le_refl _) (lAd (fun p hp => hp) ?_)) | exact ⟨⟩ | fail
  have he : Cq o = [Hy, { o with ord := Jg o.kind o.ord }, Hy] := by simp [Cq, h]
  rename_i b1
  refine JA (ρ' := [(4, .slice (some ⟨b, 0, none⟩) 3 3)]) (G' := [(b, Cl 83 (Bb Hy ++ Bb { o with ord := Jg o.kind o.ord } ++ Bb Hy))]) ?_ (by simp (disch := omega) only [lBp, lB4, false_implies, implies_true, and_true, true_and, Al, Au, reduceIte, Nat.reduceEqDiff, Option.some.injEq, Value.int.injEq, w64, lD2, lDg, lBd, lD6]) (by simp)
  (refine rt Q46_ok ?_; try with_reducible exact ⟨⟩)
  exact ⟨b, by rw [he]; rfl, by rw [he]; rfl⟩
end
end Go.EV

namespace Go.EV
open Go.Proofs
def Ef (f : OpV → Bool → List OpV) : Bool → List OpV → List OpV
 | _, [] => []
 | b, o :: l => f o b ++ Ef f (b && !Br o) l
def P3 (l : List OpV) : Bool := l.all fun o => !Br o
theorem L2 (f : OpV → Bool → List OpV) : ∀ (l1 : List OpV) (b : Bool) (l2 : List OpV), Ef f b (l1 ++ l2) = Ef f b l1 ++ Ef f (b && P3 l1) l2
 | [], b, l2 => by simp [Ef, P3]
 | o :: l1, b, l2 => by simp [Ef, L2 f l1, P3, Bool.and_assoc]
theorem Yp (f : OpV → Bool → List OpV) {l : List OpV} {j : Nat} (hj : j < l.length) : Ef f true (l.take (j + 1)) = Ef f true (l.take j) ++ f l[j] (P3 (l.take j)) := by
 rw [lA7 hj, L2]; simp [Ef]
theorem Ad0 {f : OpV → Bool → List OpV} {l : List OpV} (hf : ∀ o ∈ l, ∀ b, (f o b).length ≤ 3) : ∀ b, (Ef f b l).length ≤ 3 * l.length := by
 induction l with
 | nil => intro b; simp [Ef]
 | cons o l ih =>
  intro b
  have h1 := hf o (by simp) b
  have h2 := ih (fun o' bD => hf o' (by simp [bD])) (b && !Br o)
  simp [Ef]; omega
theorem Yq {l : List OpV} {j : Nat} (hj : j < l.length) : P3 (l.take (j + 1)) = (P3 (l.take j) && !Br l[j]) := by
 unfold P3
 rw [lA7 hj, lDh]; simp
section
variable {M : Aa}
def ByC (P : Program) (T g : Nat) (f : OpV → Bool → List OpV) (l : List OpV) : Prop :=
 ∀ (M : Aa) (o : OpV) (b : Bool), o ∈ l → (f o b).length ≤ 3 ∧ Con P g #[vop o, vb b] M [] fun v _ G' => ∃ ov, v = osv ov (f o b).length ∧ Eo 5 ov (f o b).length ((f o b).flatMap Bb) ∧ G' = osg T ov ((f o b).flatMap Bb)
theorem Bb4 (l : List OpV) : ok1 (l.flatMap Bb) := by
 intro v hv
 simp only [lB3] at hv
 obtain ⟨o, _, hv⟩ := hv
 simp at hv
 rcases hv with rfl | rfl | rfl | rfl | rfl <;> rfl
theorem Nh (f : OpV → Bool → List OpV) (g : Nat) (ts : List (List OpV)) (s : Value) (hs : Ee M 5 Bb s ts) (hb : ts.flatten.length < 1000000) (lg : ts.length < 1000000)
  (hg : ByC Tryz.prog 83 g f ts.flatten) :
  Con Tryz.prog 69 #[.agg #[s], .func (.func g) #[] #[]] M [] fun v M' _ => ∃ s', v = .agg #[s'] ∧ Ee M' 5 Bb s' (ts.map (Ef f true)) := by
 obtain ⟨a, c, vs, rfl, hl, aH, hk⟩ := hs
 refine Con.enter Q51_ok (args := [.agg #[.slice a ts.length c], .func (.func g) #[] #[]]) (by simp [Q51]) fun w0 => ?_
 simp only [Q51, A9]
 repeat' first | refine st ?_ | refine rg ?_ | ((first | with_reducible intro b | refine xsA rfl ?_ | fail); try refine nx ?_) | exact ⟨⟩ | fail
 rename_i b2 b4
 refine JA (ρ' := [(1, .func (.func g) #[] #[]), (4, pv b4 0), (5, pv b 0), (13, .slice a ts.length c), (14, vi ts.length), (15, vi (0 : Nat))])
  (G' := [(b, Cl 24 [osv none 0]), (b4, Cl 24 [.slice none 0 0])] ++ osg 70 none []) ?_ ?env0 eS
 case env0 =>
  exact eE
 refine EV.loop (fun x : Nat × Aa × Vec × List Value => ([(1, .func (.func g) #[] #[]), (4, pv b4 0), (5, pv b 0), (13, .slice a ts.length c), (14, vi ts.length), (15, vi x.1)], x.2.1,
   [(b, Cl 24 [osv x.2.2.1 x.1]), (b4, Cl 24 [.slice none 0 0])] ++ osg 70 x.2.2.1 x.2.2.2))
  (fun x => x.1 ≤ ts.length ∧ M.le x.2.1 ∧ Eo 1 x.2.2.1 x.1 x.2.2.2 ∧ x.2.2.2.length = x.1 ∧ ∀ k (h : k < x.2.2.2.length) (h' : k < ts.length), Sl x.2.1 5 Bb x.2.2.2[k] (Ef f true ts[k]))
  (fun x => ts.length - x.1) (0, M, none, []) ⟨lA8 _, Aa.le_refl _, ⟨rfl, rfl⟩, rfl, fun k h => absurd h (by simp)⟩ ?_
 rintro ⟨i, Mi, oq, vs'⟩ ⟨hi, ci, iG, bu, jz⟩ ih
 dsimp only at hi ci iG bu jz ih ⊢
 repeat' first | refine st ?_ | refine rg ?_ | (refine cX ?_ ?_ <;> intro h <;> try exact Ai h) | (refine xrA rfl ?_; try refine nx ?_) | (refine xw ?_; refine nx ?_) | exact ⟨⟩ | fail
 ·have aC : i < ts.length := by omega
  obtain ⟨pb, po, rfl, hat⟩ := Ee.at (aH.mono ci) hl (fun k h h' => (hk k h h').mono ci) (by omega)
  obtain ⟨a', c', aR, aW⟩ := hat i aC
  simp only [lAw] at aR
  have aG : ts[i].length ≤ ts.flatten.length := by have := D3 aC; have h2 := Cp ts (i + 1); rw [this, lA4] at h2; omega
  have aI : ∀ o ∈ ts[i], o ∈ ts.flatten := fun o ho => lE9.2 ⟨ts[i], lAm aC, ho⟩
  repeat' first | refine st ?_ | refine rg ?_ | refine ZF ?_ | (refine xn ?_; try refine nx ?_) | exact ⟨⟩ | fail
  refine JA (ρ' := [(1, .func (.func g) #[] #[]), (4, pv b4 0), (5, pv b 0), (8, osv none (Ef f true (ts[i].take 0)).length), (9, vb (P3 (ts[i].take 0))), (13, .slice (some ⟨pb, po, none⟩) ts.length c), (14, vi ts.length), (15, vi i), (19, .slice a' ts[i].length c'), (20, vi ts[i].length), (21, vi (0 : Nat))])
   (G' := [(b, Cl 24 [osv oq i]), (b4, Cl 24 [.slice none 0 0])] ++ (osg 70 oq vs' ++ osg 83 none ((Ef f true (ts[i].take 0)).flatMap Bb))) ?_ ?env1 (by simp only [osg, lAa]; exact lA0 _)
  case env1 =>
   exact eE
  refine EV.loop (fun x : Nat × Vec => ([(1, .func (.func g) #[] #[]), (4, pv b4 0), (5, pv b 0), (8, osv x.2 (Ef f true (ts[i].take x.1)).length), (9, vb (P3 (ts[i].take x.1))), (13, .slice (some ⟨pb, po, none⟩) ts.length c), (14, vi ts.length), (15, vi i), (19, .slice a' ts[i].length c'), (20, vi ts[i].length), (21, vi x.1)], Mi,
    [(b, Cl 24 [osv oq i]), (b4, Cl 24 [.slice none 0 0])] ++ (osg 70 oq vs' ++ osg 83 x.2 ((Ef f true (ts[i].take x.1)).flatMap Bb))))
   (fun x => x.1 ≤ ts[i].length ∧ Eo 5 x.2 (Ef f true (ts[i].take x.1)).length ((Ef f true (ts[i].take x.1)).flatMap Bb))
   (fun x => ts[i].length - x.1) (0, none) ⟨lA8 _, rfl, rfl⟩ ?_
  rintro ⟨j, ov⟩ ⟨hj, aL⟩ ih2
  dsimp only at hj aL ih2 ⊢
  repeat' first | refine st ?_ | refine rg ?_ | (refine cX ?_ ?_ <;> intro h <;> try exact Ai h) | ((first | with_reducible intro b | refine xsA rfl ?_ | fail); try refine nx ?_) | exact ⟨⟩ | fail
  ·have aN : j < ts[i].length := by omega
   obtain ⟨qb, qo, rfl, aJ⟩ := Sl.at (enc := Bb) (fun _ => rfl) (by omega) aW (by omega)
   have cw := aJ j aN
   repeat' first | refine st ?_ | refine rg ?_ | (with_reducible intro b; try refine nx ?_) | refine ZF ?_ | ((first | refine xm ?_ | refine xrA rfl ?_ | fail); try refine nx ?_) | (refine xw ?_; refine nx ?_) | exact ⟨⟩ | fail
   have rT := fun M => hg M ts[i][j] (P3 (ts[i].take j)) (aI _ (lAm aN))
   have gW := (rT M).1
   refine Con.callB (G1 := []) (rT _).2 (Aa.le_refl _) (lAe _) ?_
   rintro v M' G' ⟨ov', rfl, o5, rfl⟩
   (refine nx ?_; try with_reducible exact ⟨⟩)
   have e8 : (Ef f true (ts[i].take j)).length ≤ 3 * (ts[i].take j).length := Ad0 (fun o ho b => (hg M o b (aI _ (List.mem_of_mem_take ho))).1) true
   have lh : (ts[i].take j).length ≤ j := by simp; omega
   refine ⟨_, Ew (T := 83) o5 (fun p hp => by simp [hp]), Bb4 _, Or.inl ⟨ov, _, rfl, _, aL, _, B4 [[_, _, _], osg 70 oq vs', osg 83 ov _, osg 83 ov' _] 2 (by simp), ?_, ?_, ?_⟩⟩
   ·simp only [maxLen]; omega
   ·omega
   intro o' bD _
   simp only [lB7, lB9, lAs, lAt, lCj, lBz, C7, C6, C5, lAg, lAl, lAc, lAa]
   repeat' first | refine su ?_ | refine rg ?_ | (refine As.call (Fj _) ?_; try refine nx ?_) | with_reducible assumption | (refine JE ?_ (fun hc K' hK => ?_) ?_; rotate_left) | (refine xrA rfl ?_; try refine nx ?_) | exact ⟨⟩ | fail
   have e := Yp (f := f) aN
   have ih3 := ih2 (j + 1, o') ⟨by dsimp only; omega, by rw [e, lA4, lAy]; exact bD⟩ (by dsimp only; omega)
   dsimp only at ih3
   rw [Yq aN, e, lA4, lAy] at ih3
   refine JA ih3 ?_ eS
   exact eE
  ·have aN : j = ts[i].length := by omega
   subst aN
   rw [lB1] at aL ⊢
   refine ⟨[osv ov (Ef f true ts[i]).length], Or.inr ⟨b, 0, rfl, Ap 0 rfl rfl (by simp)⟩, by simp [Bp, Cb, Value.oneCell'], Or.inl ⟨oq, i, rfl, vs', iG, _, B4 [[_, _, _], osg 70 oq vs', osg 83 ov _] 1 (by simp), ?_, ?_, ?_⟩⟩
   ·simp only [maxLen]; omega
   ·omega
   intro o' bD _
   simp only [lB7, lB9, lAs, lAt, lCj, lBz, C7, C6, C5, lAg, lAl, lAc, lAa]
   repeat' first | refine su ?_ | refine rg ?_ | (refine xw ?_; refine nx ?_) | exact ⟨⟩ | fail
   refine JF ?_ (B4 [[_, _, _], osg 83 ov _, osg 70 o' _] 1 (by simp))
   simp only [lB7, lB9, lAs, lAt, lCj, lBz, C7, C6, C5, lAg, lAl, lAc, lAa]
   refine EV.freeze ?_
   have ih3 := ih (i + 1, Mi.add (osg 83 ov ((Ef f true ts[i]).flatMap Bb)), o', vs' ++ [osv ov (Ef f true ts[i]).length]) ⟨by dsimp only; omega, Aa.le_trans ci (JB _ _), bD, by simp [bu], ?_⟩ (by dsimp only; omega)
   dsimp only at ih3
   refine JA ih3 ?_ eS
   ·exact eE
   ·intro k bs bh
    dsimp only at bs bh ⊢
    by_cases gE : k < vs'.length
    ·rw [lCq gE]
     exact (jz k gE bh).mono (JB _ _)
    ·have : k = i := by simp at bs; omega
     subst this
     rw [lCm (by omega)]
     simp only [bu, lF5, lAt]
     exact ⟨_, _, rfl, Ew aL (fun p hp => hp)⟩
 ·have bT : i = ts.length := by omega
  subst bT
  refine JF ?_ (B4 [[_, _], osg 70 oq vs'] 1 (by simp))
  simp only [lB7, lB9, lAs, lAt, lCj, lBz, C7, C6, C5, lAg, lAl, lAc, lAa]
  refine EV.freeze ?_
  (refine rt Q51_ok ?_; try with_reducible exact ⟨⟩)
  refine ⟨_, Ap 1 rfl rfl (by simp), _, rfl, oad oq, Qj oq, vs', by simp, by simpa using bu, ?_, ?_⟩
  ·simpa using Ew iG (fun p hp => hp)
  ·intro k h1 h2
   simp only [lDm]
   exact (jz k h1 (by simpa using h2)).mono (JB _ _)
end
def Eb (l : List OpV) : List OpV := l.flatMap Cq
theorem Ts : ∀ (b : Bool) (l : List OpV), Ef (fun o _ => Cq o) b l = Eb l
 | _, [] => rfl
 | b, o :: l => by rw [Ef, Ts]; simp [Eb]
theorem Dd {ts : List (List OpV)} (h : A2 ts = 0) : Gc ts = true ∧ ts.length ≠ 0 ∧ ts.flatten.all Ng = true := by
 unfold A2 at h
 split at h
 ·omega
 ·split at h
  ·omega
  ·split at h
   ·rename_i h1 h2 h3; exact ⟨by simpa using h1, h2, h3⟩
   ·omega
theorem H7 {ts : List (List OpV)} (h : A2 ts = 0) : ts.flatten.length ≤ 14 ∧ ts.length ≤ 3 := by
 obtain ⟨hl, _, hall⟩ := Dd h
 have key : ∀ (l : List OpV) (s : LimS), (∀ o ∈ l, Ng o = true) → (l.length : Int) + s.acc + s.fen ≤ (l.foldl Am s).acc + (l.foldl Am s).fen := by
  intro l
  induction l with
  | nil => intro s _; simp
  | cons o l ih =>
   intro s h
   have ih2 := ih (Am s o) (fun x hx => h x (lB6 _ hx))
   obtain ⟨q1, _, _⟩ := (E9 o).1 (h o (lAz ..))
   have hk : 0 ≤ o.kind ∧ o.kind < 6 := by simp only [Vg, lA6, decide_eq_true_eq] at q1; exact q1.1
   have h1 : s.acc + s.fen + 1 ≤ (Am s o).acc + (Am s o).fen := by
    unfold Am
    split
    ·dsimp only; omega
    ·rw [if_pos (by simp [Br]; omega)]
     dsimp only
     split <;> omega
   rw [lD1, lB5]
   omega
 have := key ts.flatten ⟨0, 0, 0, 0, 0⟩ (lB0.1 hall)
 simp only [Gc, lA6, decide_eq_true_eq] at hl
 have e : (Bf ts.flatten) = ts.flatten.foldl Am ⟨0, 0, 0, 0, 0⟩ := rfl
 rw [← e] at this
 dsimp only at this
 exact ⟨by omega, by omega⟩
theorem Kf (o : OpV) : (Cq o).length ≤ 3 := by
 unfold Cq; split <;> simp
section
variable {M : Aa}
theorem Bb5 {l : List OpV} (hl : ∀ o ∈ l, Ng o = true) : ByC Tryz.prog 83 70 (fun o _ => Cq o) l := by
 intro M o b ho
 refine ⟨Kf o, (Ke o b (hl o ho)).mono ?_⟩
 rintro v M' G' ⟨bb, rfl, rfl⟩
 refine ⟨some (bb, (Cq o).length, []), rfl, ⟨?_, ?_, lA5 _, ?_⟩, by simp [osg]⟩
 ·rw [F9 (sz := 5) (fun _ => rfl)]
 ·rw [lAa, F9 (sz := 5) (fun _ => rfl)]
 ·have := Kf o; simp only [maxLen]; omega
theorem N3 (ts : List (List OpV)) (s : Value) (hs : Ee M 5 Bb s ts) (hb : Sized ts) :
  Con Tryz.prog 30 #[.agg #[s]] M [] fun v M' _ => (A2 ts ≠ 0 ∧ v = .tuple #[.agg #[.slice none 0 0], vi (A2 ts)]) ∨ (A2 ts = 0 ∧ ∃ s', v = .tuple #[.agg #[s'], vi 0] ∧ Ee M' 5 Bb s' (ts.map Eb)) := by
 have aK := hs
 obtain ⟨a, c, vs, rfl, hl, aH, hk⟩ := hs
 refine Con.enter Q45_ok (args := [.agg #[.slice a ts.length c]]) (by simp [Q45]) fun w0 => ?_
 simp only [Q45, A9]
 repeat' first | refine st ?_ | refine rg ?_ | (refine As.call (P2 _ _ (aK.mono (JB _ _)) hb) ?_; try refine nx ?_) | (refine cX ?_ ?_ <;> intro h <;> try exact Ai h) | refine rt Q45_ok ?_ | ((first | with_reducible intro b | refine xrA rfl ?_ | fail); try refine nx ?_) | (refine xw ?_; refine nx ?_) | exact ⟨⟩ | fail
 ·exact .inl h
 ·obtain ⟨_, _, hall⟩ := Dd h
  have i6 := H7 h
  refine Con.callA (G1 := []) (Nh _ _ ts _ aK (by omega) (by omega) (Bb5 (lB0.1 hall))) (lAe _) ?_
  rintro v M' G' ax ⟨s', rfl, aZ⟩
  obtain ⟨a', c', vs', rfl, be⟩ := aZ
  (refine nx ?_; try with_reducible exact ⟨⟩)
  repeat' first | refine rt Q45_ok ?_ | (refine xrA rfl ?_; try refine nx ?_) | (refine xw ?_; refine nx ?_) | exact ⟨⟩ | fail
  refine .inr ⟨h, _, rfl, ?_⟩
  have e : Ef (fun o _ => Cq o) true = Eb := funext fun l => Ts true l
  rw [← e]
  exact ⟨a', c', vs', rfl, be⟩
end
variable {P : Program}
def N7 (P : Program) (l : Nat) (args : Array Value) (M : Aa) (G : Own) (Φ : Value → Aa → Own → Prop) : Prop :=
 ∀ w, EV.St w (G.map (·.1)) M M G w → ∃ r : Loop, w.heap[l]? = some (.loop r) ∧ args.size = r.params.size ∧
  Qh P l r.fn ((r.params.zip args).foldl (fun tmps (t, a) => tmps.setIfInBounds t a) r.tmps) r.assign r.body w fun v w' => ∃ M' G', EV.St w (G.map (·.1)) M M' G' w' ∧ Φ v M' G'
section
variable {C : Cx P} {l : Nat} {args : Array Value} {M : Aa} {G G1 G2 : Own} {K : Value → Aa → Own → Prop} {Φ : Value → Aa → Own → Prop}
theorem N7.callA (h : N7 P l args M G1 Φ) (hG : G.Perm (G1 ++ G2)) (hk : ∀ v M' G', M.le M' → Φ v M' G' → K v M' (G2 ++ G')) : Fh C l args M G K := by
 intro w hs
 have aZ := hs.perm hG
 obtain ⟨r, h1, h2, h3⟩ := h w (aZ.part (JB _ _))
 refine ⟨r, h1, h2, h3.mono ?_⟩
 rintro v w' ⟨M', G', k1, k2⟩
 exact ⟨M', G2 ++ G', (aZ.callA k1).perm lBq, hk v M' G' k1.base k2⟩
end
def Cx.round (P : Program) (l : Nat) (f : FuncId) (nt : Nat) (w0 : World) (F : List Nat) (M0 : Aa) (Φ : Value → Aa → Own → Prop) : Cx P where
 b := { (default : Frame) with fn := f, kind := .normal, roundOf := some l }
 T := fun cs m => ∀ c cs', cs = c :: cs' → ∃ v w', (∃ M' G', EV.St w0 F M0 M' G' w' ∧ Φ v M' G') ∧ Steps P m (lone (c.finish v) cs' w')
 back := by
  intro cs m m' hs h c cs' e
  obtain ⟨v, w', h1, h2⟩ := h c cs' e
  exact ⟨v, w', h1, Steps.trans (.one hs) h2⟩
 nt := nt
 ds := []
 w0 := w0
 F := F
 M0 := M0
def Cv3 : List Nat → List Value → Env → Env
 | t :: ps, v :: vs, ρ => Cv3 ps vs ((t, v) :: ρ)
 | _, _, ρ => ρ
theorem Xb {nt : Nat} : ∀ (ps : List Nat) (vs : List Value) (ρ : Env) (a : Act), (∀ t ∈ ps, t < nt) → E1 nt ρ a →
  E1 nt (Cv3 ps vs ρ) { a with tmps := (ps.zip vs).foldl (fun tmps (t, v) => tmps.setIfInBounds t v) a.tmps }
 | [], _, ρ, a, _, h => h
 | _ :: _, [], ρ, a, _, h => h
 | t :: ps, v :: vs, ρ, a, hp, h => by
  have h1 := h.put t (hp t (lAz ..)) v
  have h2 := Xb ps vs ((t, v) :: ρ) (a.put (some t) v) (fun q hq => hp q (lB6 _ hq)) h1
  simpa [Cv3, Act.put] using h2
structure LoopIs (P : Program) (V : List Nat) (r : Loop) (f : FuncId) (nt : Nat) (ps : List Nat) (asn bd : RCode) (ρ : Env) : Prop where
 fn : r.fn = f
 par : r.params.toList = ps
 pb : ∀ t ∈ ps, t < nt
 fits : E1 nt ρ { tmps := r.tmps, defers := [] }
 asg : CmpC P nt V r.assign asn
 body : CmpC P nt V r.body bd
section
variable {l : Nat} {f : FuncId} {nt : Nat} {V : List Nat} {ps : List Nat} {asn bd : RCode} {ρ : Env} {r : Loop} {M : Aa} {G : Own} {Φ : Value → Aa → Own → Prop}
theorem N7.enter {vs : List Value} (hl : (l, Obj.loop r) ∈ G) (hr : LoopIs P V r f nt ps asn bd ρ) (hv : vs.length = ps.length)
  (h : ∀ w0, EV (Cx.round P l f nt w0 (G.map (·.1)) M Φ) V [.code asn, .begins, .code bd] (Cv3 ps vs ρ) M G) : N7 P l vs.toArray M G Φ := by
 intro w hs
 have hps := hr.par
 refine ⟨r, hs.own _ hl, ?_, ?_⟩
 ·rw [lE0, hv, ← hps, Array.length_toList]
 ·intro c cs
  have hf : E1 nt (Cv3 ps vs ρ) { tmps := (ps.zip vs).foldl (fun tmps (t, v) => tmps.setIfInBounds t v) r.tmps, defers := [] } := Xb ps vs ρ { tmps := r.tmps, defers := [] } hr.pb hr.fits
  have := h w [.code r.assign, .beginRound, .code r.body] (.cons (.code hr.asg) (.cons .begins (.cons (.code hr.body) .nil))) _ w hf rfl hs (c :: cs) c cs rfl
  obtain ⟨v, w', h1, h2⟩ := this
  refine ⟨v, w', h1, ?_⟩
  have e : (r.params.zip vs.toArray).foldl (fun tmps (t, a) => tmps.setIfInBounds t a) r.tmps = (ps.zip vs).foldl (fun tmps (t, v) => tmps.setIfInBounds t v) r.tmps := by
   rw [← hps, ← Array.foldl_toList, Array.toList_zip]
  rw [e, hr.fn]
  exact h2
theorem JX {w0 w : World} {F : List Nat} {M0 : Aa} {G0 : Own} {r r' : Loop} (hs : EV.St w0 F M0 M ((l, Obj.loop r) :: G0) w) : EV.St w0 F M0 M ((l, Obj.loop r') :: G0) (w.putObj l (.loop r')) :=
 hs.put (i := 0) (o' := .loop r') rfl rfl ⟨rfl, lA5 _⟩ rfl (by simp) (fun k hk => World.putObj_heap_other hk) (World.putObj_heap_same (hs.lt (lAz ..)))
variable {w0 : World} {F : List Nat} {M0 : Aa} {G0 : Own} {k : List RItem}
theorem EV.begins (aX : r.state = .ready) (h : EV (Cx.round P l f nt w0 F M0 Φ) V k ρ M ((l, Obj.loop { r with state := .busy }) :: G0)) : EV (Cx.round P l f nt w0 F M0 Φ) V (.begins :: k) ρ M ((l, Obj.loop r) :: G0) := by
 intro k' hk a w hf hd hs cs
 cases hk with
 | cons hx hk => cases hx with
  | begins =>
   have hl := hs.own (l, Obj.loop r) (lAz ..)
   exact (Cx.round P l f nt w0 F M0 Φ).back (stepR_beginRound rfl (run_beginRound hl aX)) (h _ hk a _ hf hd (JX hs) cs)
theorem EV.endRound (h : Φ (.bool true) M ((l, Obj.loop { r with state := .ready, pending := none }) :: G0)) : EV (Cx.round P l f nt w0 F M0 Φ) V [] ρ M ((l, Obj.loop r) :: G0) := by
 intro k' hk a w hf hd hs cs c cs' e
 subst e
 cases hk
 have hl := hs.own (l, Obj.loop r) (lAz ..)
 exact ⟨_, _, ⟨M, _, JX hs, h⟩, .one (stepR_round_end rfl rfl (run_endRound none hl))⟩
theorem EV.retRound (h : Φ (.bool false) M ((l, Obj.loop { r with state := .done, pending := some .ret }) :: G0)) : EV (Cx.round P l f nt w0 F M0 Φ) V (.code .ret :: k) ρ M ((l, Obj.loop r) :: G0) := by
 intro k' hk a w hf hd hs cs c cs' e
 subst e
 cases hk with
 | cons hx hk => cases hx with
  | code hc => cases hc with
   | ret =>
    have hl := hs.own (l, Obj.loop r) (lAz ..)
    exact ⟨_, _, ⟨M, _, JX hs, h⟩, .one (stepR_round_ret rfl rfl (run_endRound (some .ret) hl))⟩
end
variable {P : Program}
def H8 (ms : List Nat) : List Deferred := ms.map fun d => { target := .collected d, args := #[] }
def N8 (ms : List Nat) : Own := ms.map fun d => (d, Obj.deferred (some []))
def Cx.marks (C : Cx P) (ms : List Nat) : Cx P :=
 {b := C.b, T := C.T, back := C.back, nt := C.nt, ds := H8 ms ++ C.ds, w0 := C.w0, F := C.F, M0 := C.M0 }
abbrev yv (l : Nat) : Value := .func (.yield l) #[] #[]
def Sa (C : Cx P) (V : List Nat) (k : List RItem) (ρ : Env) (l : Nat) (M : Aa) (G : Own) : Prop :=
 ∃ r G', G.Perm ((l, Obj.loop r) :: G') ∧ r.state ≠ .busy ∧
  (match r.pending with
   | none => EV C V k ρ M G'
   | some .ret => EV C V (.code .ret :: k) ρ M G'
   | some (.exit id) => EV C V (.code (.exit id) :: k) ρ M G'
   | _ => False)
theorem Qr (C : Cx P) {cs : List Frame} {m m' : Machine} (h : Steps P m m') (ht : C.T cs m') : C.T cs m := by
 obtain ⟨n, hn⟩ := h
 have key : ∀ (n : Nat) (m m' : Machine), runN P n m = .next m' → C.T cs m' → C.T cs m := by
  intro n
  induction n with
  | zero => intro m m' h1 h2; simp [runN] at h1; subst h1; exact h2
  | succ n ih =>
   intro m m' h1 h2
   simp only [runN] at h1
   cases aX : step P m with
   | next m1 => rw [aX] at h1; exact C.back aX (ih m1 m' h1 h2)
   | ended o w => rw [aX] at h1; simp at h1
 exact key n m m' hn ht
theorem L3 {a : Act} {x : Operand} {g : FuncId} {first caps : Array Value} (l : Nat) (w : World) (hx : a.eval x = .func (.func g) first caps) :
  (resolve a.eval (rangeCall x l) 0).run P w = .ok { target := .fn (.func g) caps, args := first ++ #[yv l] } w := by
 have e : (#[Operand.const (Value.func (Fn.yield l) #[] #[])] : Array Operand).map a.eval = #[yv l] := by simp [Act.eval]
 simp only [resolve, rangeCall, hx, e]
 rfl
section
variable {C : Cx P} {V : List Nat} {k : List RItem} {ρ : Env} {M : Aa} {G : Own} {f : A} {ps : List Nat} {asn bd : RCode} {fv : Value} {g : FuncId} {first caps : Array Value}
theorem KB {k' : List Item} (hk : CmpK P C.nt V k' k) {a : Act} {l : Nat} {cs : List Frame} {fr : Frame} {w' : World} {v : Value} {M' : Aa} {G' : Own}
  (hf : E1 C.nt ρ a) (hd : a.defers = C.ds) (bA : fr.leaving P w' (.returned v)) (aX : C.St M' G' w') (hr : Sa C V k ρ l M' G') :
  C.T cs (lone fr (C.b.atR a (.inRangeFunc l :: k') :: cs) w') := by
 obtain ⟨r, G1, hp, hb, hm⟩ := hr
 refine C.back (step_leave_returned bA) ?_
 rw [finish_atR_inRangeFunc]
 have li := aX.perm hp
 have hl := li.own (l, Obj.loop r) (lAz ..)
 refine C.back (stepR_endRangeFunc (run_endLoop hl hb)) ?_
 have ed : C.St M' G1 (w'.putObj l (.loop { r with state := .exhausted })) := (JX li).weaken (lD8 _ _)
 revert ed
 cases i7 : r.pending with
 | none => rw [i7] at hm; exact fun ed => hm _ hk a _ hf hd ed cs
 | some c =>
  rw [i7] at hm
  cases c with
  | ret => exact fun ed => hm _ (.cons (.code .ret) hk) a _ hf hd ed cs
  | exit id => exact fun ed => hm _ (.cons (.code .exit) hk) a _ hf hd ed cs
  | _ => exact hm.elim
theorem EV.rangeF (bW : C.b.roundOf = none) (hfv : ev ρ f = some fv) (cC : fn? fv = some (g, first, caps))
  (h : ∀ (l d : Nat) (r : Loop), LoopIs P V r C.b.fn C.nt ps asn bd ρ → r.state = .ready → r.pending = none →
   Dc (C.marks [d]) g (first ++ #[yv l] ++ caps) M ((l, Obj.loop r) :: (d, Obj.deferred (some [])) :: G) fun _ M' G' => Sa (C.marks [d]) V k ρ l M' G') :
  EV C V (.code (.rangeF f ps asn bd) :: k) ρ M G := by
 intro k' hk a w hf hd hs cs
 have e0 := R4 cC
 subst e0
 cases hk with
 | cons hx hk => cases hx with
  | code hc => cases hc with
   | @rangeF x _ ps' asn' bd' _ _ hA hps ha hb =>
    have hx := Aj hf hA hfv
    obtain ⟨hgo, bI⟩ := h (w.heap.size + 1) w.heap.size { state := .ready, pending := none, fn := C.b.fn, tmps := a.tmps, params := ps', assign := asn', body := bd', defers := w.heap.size }
     ⟨rfl, rfl, hps, ⟨hf.1, hf.2⟩, ha, hb⟩ rfl rfl
    have he := run_enterLoop_outer (P := P) (w := w) C.b.fn a.tmps ps' asn' bd'
    rw [← bW] at he
    have aF := L3 (P := P) (w.heap.size + 1) ((w.alloc (.deferred (some []))).alloc (.loop { state := .ready, pending := none, fn := C.b.fn, tmps := a.tmps, params := ps', assign := asn', body := bd', defers := w.heap.size })) hx
    have bc := Hg hgo (first ++ #[yv (w.heap.size + 1)] ++ caps) ((w.alloc (.deferred (some []))).alloc (.loop { state := .ready, pending := none, fn := C.b.fn, tmps := a.tmps, params := ps', assign := asn', body := bd', defers := w.heap.size }))
    refine C.back (stepR_rangeFunc he aF bc) ?_
    have aX : (C.marks [w.heap.size]).St M ((w.heap.size + 1, Obj.loop { state := .ready, pending := none, fn := C.b.fn, tmps := a.tmps, params := ps', assign := asn', body := bd', defers := w.heap.size }) :: (w.heap.size, Obj.deferred (some [])) :: G)
      ((w.alloc (.deferred (some []))).alloc (.loop { state := .ready, pending := none, fn := C.b.fn, tmps := a.tmps, params := ps', assign := asn', body := bd', defers := w.heap.size })) := by
     have h1 := hs.alloc (.deferred (some []))
     have h2 := h1.alloc (.loop { state := .ready, pending := none, fn := C.b.fn, tmps := a.tmps, params := ps', assign := asn', body := bd', defers := w.heap.size })
     simpa [Cx.marks] using h2
    obtain ⟨e, w'', fr, ⟨v, lJ, M', G', kA, ck⟩, ee, bN, bB⟩ := bI _ aX (C.b.atR { a with defers := [{ target := .collected w.heap.size, args := #[] }] ++ a.defers } (.inRangeFunc (w.heap.size + 1) :: _) :: cs)
    subst lJ
    refine Qr C ee ?_
    refine KB (C := C.marks [w.heap.size]) (a := { a with defers := [{ target := .collected w.heap.size, args := #[] }] ++ a.defers }) hk ⟨hf.1, hf.2⟩ ?_ bB kA ck
    show [{ target := .collected w.heap.size, args := #[] }] ++ a.defers = H8 [w.heap.size] ++ C.ds
    rw [hd]; rfl
theorem EV.rangeI {l0 : Nat} {r0 : Loop} (bW : C.b.roundOf = some l0) (eg : (l0, Obj.loop r0) ∈ G) (hfv : ev ρ f = some fv) (cC : fn? fv = some (g, first, caps))
  (h : ∀ (l : Nat) (r : Loop), LoopIs P V r C.b.fn C.nt ps asn bd ρ → r.state = .ready → r.pending = none →
   Dc C g (first ++ #[yv l] ++ caps) M ((l, Obj.loop r) :: G) fun _ M' G' => Sa C V k ρ l M' G') :
  EV C V (.code (.rangeF f ps asn bd) :: k) ρ M G := by
 intro k' hk a w hf hd hs cs
 have e0 := R4 cC
 subst e0
 cases hk with
 | cons hx hk => cases hx with
  | code hc => cases hc with
   | @rangeF x _ ps' asn' bd' _ _ hA hps ha hb =>
    have hx := Aj hf hA hfv
    obtain ⟨hgo, bI⟩ := h w.heap.size { state := .ready, pending := none, fn := C.b.fn, tmps := a.tmps, params := ps', assign := asn', body := bd', defers := r0.defers }
     ⟨rfl, rfl, hps, ⟨hf.1, hf.2⟩, ha, hb⟩ rfl rfl
    have he := run_enterLoop_inner (P := P) (w := w) (hs.own _ eg) C.b.fn a.tmps ps' asn' bd'
    rw [← bW] at he
    have aF := L3 (P := P) w.heap.size (w.alloc (.loop { state := .ready, pending := none, fn := C.b.fn, tmps := a.tmps, params := ps', assign := asn', body := bd', defers := r0.defers })) hx
    have bc := Hg hgo (first ++ #[yv w.heap.size] ++ caps) (w.alloc (.loop { state := .ready, pending := none, fn := C.b.fn, tmps := a.tmps, params := ps', assign := asn', body := bd', defers := r0.defers }))
    refine C.back (stepR_rangeFunc he aF bc) ?_
    have aX := hs.alloc (.loop { state := .ready, pending := none, fn := C.b.fn, tmps := a.tmps, params := ps', assign := asn', body := bd', defers := r0.defers })
    obtain ⟨e, w'', fr, ⟨v, lJ, M', G', kA, ck⟩, ee, bN, bB⟩ := bI _ aX (C.b.atR { a with defers := [] ++ a.defers } (.inRangeFunc w.heap.size :: _) :: cs)
    subst lJ
    refine Qr C ee ?_
    exact KB (C := C) (a := { a with defers := [] ++ a.defers }) hk ⟨hf.1, hf.2⟩ hd bB kA ck
end
section
variable {f : FuncId} {w0 : World} {F : List Nat} {M0 M : Aa} {G : Own} {Φ : Value → Aa → Own → Prop} {V Q : List Nat} {k : List RItem} {ρ : Env}
theorem Ad1 {cs : List Frame} : ∀ (ms : List Nat) {w : World} {fr : Frame}, St w0 F M0 M (N8 ms ++ G) w → fr.mode = .returning → fr.defers = H8 ms →
  ∃ w', St w0 F M0 M G w' ∧ Steps P (lone fr cs w) (lone { fr with defers := [] } cs w')
 | [], w, fr, hs, _, hd => by
  refine ⟨w, by simpa [N8] using hs, ?_⟩
  have : { fr with defers := [] } = fr := by
   cases fr; simp only [H8, lFj] at hd; subst hd; rfl
  rw [this]; exact Steps.refl _ _
 | d :: ms, w, fr, hs, hm, hd => by
  have aK : St w0 F M0 M ((d, Obj.deferred (some [])) :: (N8 ms ++ G)) w := by simpa [N8] using hs
  have hl := aK.own (d, Obj.deferred (some [])) (lAz ..)
  have h1 := step_collected (P := P) (cs := cs) (fr := fr) (w := w) (d := { target := .collected d, args := #[] }) (r := d) (ds := H8 ms) (calls := []) (by rw [hm]; simp) hd rfl (run_takeDeferred hl)
  have bm : St w0 F M0 M ((d, Obj.deferred none) :: (N8 ms ++ G)) (w.putObj d (.deferred none)) :=
   aK.put (i := 0) (o' := .deferred none) rfl rfl ⟨rfl, lA5 _⟩ rfl (by simp) (fun k hk => World.putObj_heap_other hk) (World.putObj_heap_same (aK.lt (lAz ..)))
  obtain ⟨w', h2, h3⟩ := Ad1 ms (cs := cs) (fr := { fr with defers := [] ++ H8 ms }) (bm.weaken (lD8 _ _)) hm rfl
  exact ⟨w', h2, Steps.trans (.one h1) h3⟩
theorem JU {R : RFun} (hR : Ak P V Q f = some R) {ms : List Nat} {G1 : Own} (hG : G.Perm (N8 ms ++ G1)) (h : Bd8 R ρ M G1 Φ) : EV ((Cx.fn P f R.nt w0 F M0 Φ).marks ms) R.V (.code .ret :: k) ρ M G := by
 unfold Ak at hR
 split at hR
 ·rename_i hgo
  simp only [lA3] at hR
  obtain ⟨fn, cC, c, hc, r, hr, res, aF, e⟩ := hR
  cases e
  intro k' hk a w hf hd hs cs
  cases hk with
  | cons hx hk => cases hx with
   | code hc => cases hc with
    | ret =>
     have cu : a.defers = H8 ms := by rw [hd]; exact lAa _
     obtain ⟨w', aZ, aX⟩ := Ad1 (P := P) (cs := cs) ms (fr := { ((Cx.fn P f fn.ntmps w0 F M0 Φ).marks ms).b.atR a (.code .ret :: _) with mode := .returning }) (hs.perm hG) rfl cu
     obtain ⟨v, hv, hΦ⟩ := Hl (P := P) (fn := fn) (Q := fun v => Φ v M G1) hf (fun b o hb => aZ.agreeAdd hb) (compRs_ok aF) h
     refine ⟨.returned v, w', _, ⟨v, rfl, M, G1, aZ, hΦ⟩, Steps.trans (.one (stepR_ret rfl)) aX, rfl, ?_⟩
     exact ⟨rfl, rfl, rfl, fn, cC, hv⟩
 ·cases hR
theorem EV.doneM {R : RFun} (hR : Ak P V Q f = some R) {ms : List Nat} {G1 : Own} (hG : G.Perm (N8 ms ++ G1)) (h : Bd8 R ρ M G1 Φ) : EV ((Cx.fn P f R.nt w0 F M0 Φ).marks ms) R.V [] ρ M G := by
 unfold Ak at hR
 split at hR
 ·rename_i hgo
  simp only [lA3] at hR
  obtain ⟨fn, cC, c, hc, r, hr, res, aF, e⟩ := hR
  cases e
  intro k' hk a w hf hd hs cs
  cases hk with
  | nil =>
   have cu : a.defers = H8 ms := by rw [hd]; exact lAa _
   obtain ⟨w', aZ, aX⟩ := Ad1 (P := P) (cs := cs) ms (fr := { ((Cx.fn P f fn.ntmps w0 F M0 Φ).marks ms).b.atR a [] with mode := .returning }) (hs.perm hG) rfl cu
   obtain ⟨v, hv, hΦ⟩ := Hl (P := P) (fn := fn) (Q := fun v => Φ v M G1) hf (fun b o hb => aZ.agreeAdd hb) (compRs_ok aF) h
   refine ⟨.returned v, w', _, ⟨v, rfl, M, G1, aZ, hΦ⟩, Steps.trans (.one (stepR_end rfl)) aX, rfl, ?_⟩
   exact ⟨rfl, rfl, rfl, fn, cC, hv⟩
 ·cases hR
end
section
variable {l : Nat} {f : FuncId} {nt : Nat} {V : List Nat} {ρ : Env} {r : Loop} {M : Aa} {G : Own} {Φ : Value → Aa → Own → Prop} {w0 : World} {F : List Nat} {M0 : Aa} {G0 : Own} {k : List RItem}
theorem Ad2 {r : Loop} (h1 : r.state = .ready) (h2 : r.pending = none) : ({ { r with state := .busy } with state := .ready, pending := none } : Loop) = r := by
 cases r; simp only at h1 h2; subst h1 h2; rfl
end
def Ad3 {α : Type} (P : Program) (g : FuncId) (first caps : Array Value) (M : Aa) (L : List α) (El : α → Value → Aa → Prop) : Prop :=
 ∀ (l : Nat) (I : List α → Aa → Own → Prop) (S : Aa → Own → Prop) (M1 : Aa) (G : Own), M.le M1 →
  (∀ xs M2 M3 G2, M2.le M3 → I xs M2 G2 → I xs M3 G2) →
  (∀ xs x, x ∈ L → ∀ M2 G2 v, M1.le M2 → I xs M2 G2 → El x v M2 → N7 P l #[v] M2 G2 fun b M3 G3 => (b = .bool true ∧ I (xs ++ [x]) M3 G3) ∨ (b = .bool false ∧ S M3 G3)) →
  ∀ xs, I xs M1 G → Con P g (first ++ #[yv l] ++ caps) M1 G fun _ M' G' => I (xs ++ L) M' G' ∨ S M' G'
theorem Ad3.mono {α : Type} {g : FuncId} {first caps : Array Value} {M M' : Aa} {L : List α} {El : α → Value → Aa → Prop} (h : Ad3 P g first caps M L El) (hM : M.le M') : Ad3 P g first caps M' L El :=
 fun l I S M1 G a8 => h l I S M1 G (Aa.le_trans hM a8)
def Ad4 (l : Nat) (r : Loop) (N : Aa → Own → Prop) (S : Code → Aa → Own → Prop) (b : Value) (M : Aa) (G : Own) : Prop :=
 (b = .bool true ∧ ∃ G', G.Perm ((l, Obj.loop r) :: G') ∧ N M G') ∨
 (b = .bool false ∧ ∃ c G', G.Perm ((l, Obj.loop { r with state := .done, pending := some c }) :: G') ∧ S c M G')
abbrev JN (P : Program) (l : Nat) (r : Loop) (f : FuncId) (nt : Nat) (w0 : World) (F : List Nat) (M0 : Aa) (N : Aa → Own → Prop) (S : Code → Aa → Own → Prop) : Cx P :=
 Cx.round P l f nt w0 F M0 (Ad4 l r N S)
section
variable {l : Nat} {f : FuncId} {nt : Nat} {V : List Nat} {ρ : Env} {r : Loop} {M : Aa} {G : Own} {N : Aa → Own → Prop} {S : Code → Aa → Own → Prop} {w0 : World} {F : List Nat} {M0 : Aa} {G0 : Own} {k : List RItem}
theorem JP (aX : r.state = .ready) (h : EV (JN P l r f nt w0 F M0 N S) V k ρ M ((l, Obj.loop { r with state := .busy }) :: G0)) : EV (JN P l r f nt w0 F M0 N S) V (.begins :: k) ρ M ((l, Obj.loop r) :: G0) := EV.begins aX h
theorem JL (h1 : r.state = .ready) (h2 : r.pending = none) (hG : G.Perm ((l, Obj.loop { r with state := .busy }) :: G0)) (h : N M G0) : EV (JN P l r f nt w0 F M0 N S) V [] ρ M G := by
 refine JF (EV.endRound ?_) hG
 refine .inl ⟨rfl, G0, ?_, h⟩
 rw [Ad2 h1 h2]
theorem JS (hG : G.Perm ((l, Obj.loop { r with state := .busy }) :: G0)) (h : S .ret M G0) : EV (JN P l r f nt w0 F M0 N S) V (.code .ret :: k) ρ M G := by
 refine JF (EV.retRound ?_) hG
 exact .inr ⟨rfl, _, G0, lAe _, h⟩
end
def Ad5 (C : Cx P) (V : List Nat) (k : List RItem) (ρ : Env) (c : Code) (M : Aa) (G : Own) : Prop :=
 match c with
 | .ret => EV C V (.code .ret :: k) ρ M G
 | .exit id => EV C V (.code (.exit id) :: k) ρ M G
 | _ => False
section
variable {α : Type} {C : Cx P} {V : List Nat} {k : List RItem} {ρ : Env} {M : Aa} {G : Own} {f : A} {ps : List Nat} {asn bd : RCode} {fv : Value} {g : FuncId} {first caps : Array Value}
theorem N9 {L : List α} {El : α → Value → Aa → Prop} (cy : Ad3 P g first caps M L El) (I : List α → Aa → Own → Prop) (S : Code → Aa → Own → Prop)
  {l : Nat} {r : Loop} {fn : FuncId} {nt t : Nat} (hr : LoopIs P V r fn nt [t] asn bd ρ)
  (aE : ∀ xs M2 M3 G2, M2.le M3 → I xs M2 G2 → I xs M3 G2)
  (bv : ∀ xs x v M2 G2 w0 F, x ∈ L → M.le M2 → I xs M2 G2 → El x v M2 → EV (JN P l r fn nt w0 F M2 (I (xs ++ [x])) S) V [.code asn, .begins, .code bd] ((t, v) :: ρ) M2 ((l, Obj.loop r) :: G2))
  {G0 : Own} (hI : I [] M G0) :
  Con P g (first ++ #[yv l] ++ caps) M ((l, Obj.loop r) :: G0) fun _ M' G' => (∃ G1, G'.Perm ((l, Obj.loop r) :: G1) ∧ I L M' G1) ∨ (∃ c G1, G'.Perm ((l, Obj.loop { r with state := .done, pending := some c }) :: G1) ∧ S c M' G1) := by
 have := cy l (fun xs M2 G2 => ∃ G1, G2.Perm ((l, Obj.loop r) :: G1) ∧ I xs M2 G1) (fun M2 G2 => ∃ c G1, G2.Perm ((l, Obj.loop { r with state := .done, pending := some c }) :: G1) ∧ S c M2 G1) M ((l, Obj.loop r) :: G0) (Aa.le_refl _)
  (fun xs M2 M3 G2 a8 ⟨G1, h1, h2⟩ => ⟨G1, h1, aE _ _ _ _ a8 h2⟩) ?_ [] ⟨G0, lAe _, hI⟩
 ·exact this
 ·rintro xs x hx M2 G2 v bZ ⟨G1, hp, h2⟩ hv
  have hy : N7 P l [v].toArray M2 ((l, Obj.loop r) :: G1) (Ad4 l r (I (xs ++ [x])) S) :=
   N7.enter (lAz ..) hr rfl fun w0 => bv xs x v M2 G1 w0 _ hx bZ h2 hv
  intro w hs
  obtain ⟨r', e1, e2, e3⟩ := hy w (by
   have aZ := hs.perm hp
   have : St w ((((l, Obj.loop r) :: G1)).map (·.1)) M2 M2 ((l, Obj.loop r) :: G1) w := St.enter aZ.agree aZ.own aZ.sep aZ.nodup
   exact this)
  refine ⟨r', e1, e2, e3.mono ?_⟩
  rintro b w' ⟨M', G', k1, k2⟩
  refine ⟨M', G', ?_, ?_⟩
  ·have aI : ∀ b, b ∈ (((l, Obj.loop r) :: G1).map (·.1)) ↔ b ∈ G2.map (·.1) := fun b => ((hp.map (·.1)).mem_iff).symm
   exact ⟨k1.os, k1.tape, k1.output, k1.size, fun b hb hf => k1.frame b hb (fun h => hf ((aI b).1 h)), k1.agree, k1.own, k1.sep, fun p o6 => (k1.new p o6).imp (aI _).1 id, k1.nodup, k1.base,
    fun b o hm => (k1.fresh b o hm).imp id fun h => h.imp (aI _).1 id⟩
  ·rcases k2 with ⟨rfl, G3, h3, h4⟩ | ⟨rfl, c, G3, h3, h4⟩
   ·exact .inl ⟨rfl, G3, h3, h4⟩
   ·exact .inr ⟨rfl, c, G3, h3, h4⟩
theorem EV.over {L : List α} {El : α → Value → Aa → Prop} (bW : C.b.roundOf = none) (hfv : ev ρ f = some fv) (cC : fn? fv = some (g, first, caps)) (cy : Ad3 P g first caps M L El)
  (I : Nat → List α → Aa → Own → Prop) (S : Nat → Code → Aa → Own → Prop) {t : Nat}
  (aE : ∀ d xs M2 M3 G2, M2.le M3 → I d xs M2 G2 → I d xs M3 G2)
  (hI : ∀ d, I d [] M ((d, Obj.deferred (some [])) :: G))
  (bv : ∀ l d (r : Loop), r.state = .ready → r.pending = none → ∀ xs x v M2 G2 w0 F, x ∈ L → M.le M2 → I d xs M2 G2 → El x v M2 →
   EV (JN P l r C.b.fn C.nt w0 F M2 (I d (xs ++ [x])) (S d)) V [.code asn, .begins, .code bd] ((t, v) :: ρ) M2 ((l, Obj.loop r) :: G2))
  (ck : ∀ d M' G', M.le M' → I d L M' G' → EV (C.marks [d]) V k ρ M' G')
  (dg : ∀ d c M' G', M.le M' → S d c M' G' → Ad5 (C.marks [d]) V k ρ c M' G') :
  EV C V (.code (.rangeF f [t] asn bd) :: k) ρ M G := by
 refine EV.rangeF bW hfv cC fun l d r hr h1 h2 => ?_
 refine Con.callA (G2 := []) (N9 cy (I d) (S d) hr (aE d) (fun xs x v M2 G2 w0 F => bv l d r h1 h2 xs x v M2 G2 w0 F) (hI d)) (by simp) ?_
 rintro v M' G' ax (⟨G1, hp, h3⟩ | ⟨c, G1, hp, h3⟩)
 ·refine ⟨r, G1, by simpa using hp, by rw [h1]; simp, ?_⟩
  rw [h2]; exact ck d M' G1 ax h3
 ·refine ⟨_, G1, by simpa using hp, by simp, ?_⟩
  have := dg d c M' G1 ax h3
  cases c <;> first | exact this | exact this.elim
theorem JW {L : List α} {El : α → Value → Aa → Prop} {l0 : Nat} {r0 : Loop} (bW : C.b.roundOf = some l0) (eg : (l0, Obj.loop r0) ∈ G) (hfv : ev ρ f = some fv) (cC : fn? fv = some (g, first, caps)) (cy : Ad3 P g first caps M L El)
  (I : List α → Aa → Own → Prop) (S : Code → Aa → Own → Prop) {t : Nat}
  (aE : ∀ xs M2 M3 G2, M2.le M3 → I xs M2 G2 → I xs M3 G2)
  (hI : I [] M G)
  (bv : ∀ l (r : Loop), r.state = .ready → r.pending = none → ∀ xs x v M2 G2 w0 F, x ∈ L → M.le M2 → I xs M2 G2 → El x v M2 →
   EV (JN P l r C.b.fn C.nt w0 F M2 (I (xs ++ [x])) S) V [.code asn, .begins, .code bd] ((t, v) :: ρ) M2 ((l, Obj.loop r) :: G2))
  (ck : ∀ M' G', M.le M' → I L M' G' → EV C V k ρ M' G')
  (dg : ∀ c M' G', M.le M' → S c M' G' → Ad5 C V k ρ c M' G') :
  EV C V (.code (.rangeF f [t] asn bd) :: k) ρ M G := by
 refine EV.rangeI bW eg hfv cC fun l r hr h1 h2 => ?_
 refine Con.callA (G2 := []) (N9 cy I S hr aE (fun xs x v M2 G2 w0 F => bv l r h1 h2 xs x v M2 G2 w0 F) hI) (by simp) ?_
 rintro v M' G' ax (⟨G1, hp, h3⟩ | ⟨c, G1, hp, h3⟩)
 ·refine ⟨r, G1, by simpa using hp, by rw [h1]; simp, ?_⟩
  rw [h2]; exact ck M' G1 ax h3
 ·refine ⟨_, G1, by simpa using hp, by simp, ?_⟩
  have := dg c M' G1 ax h3
  cases c <;> first | exact this | exact this.elim
end
theorem JC {C : Cx P} {V : List Nat} {k : List RItem} {ρ : Env} {M : Aa} {G : Own} {c : RCode} {α : Type} (st : α → Env × Aa × Own) (I : α → Prop) (μ : α → Nat) (x : α) (hM : (st x).2.1 = M) (hI : I x)
  (hρ : ∀ p ∈ (st x).1, get ρ p.1 = some p.2) (hG : (st x).2.2.Sublist G)
  (body : ∀ x, I x → (∀ x', I x' → μ x' < μ x → EV C V (.inLoop c :: k) (st x').1 (st x').2.1 (st x').2.2) → EV C V (.code c :: .inLoop c :: k) (st x).1 (st x).2.1 (st x).2.2) :
  EV C V (.code (.loop c) :: k) ρ M G := by
 subst hM
 exact JA (EV.loop st I μ x hI body) hρ hG
end Go.EV
