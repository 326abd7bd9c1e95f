/- Part of the proof of a statement about executions of litmus programs: walks and laws. -/
import Derived.Test.YtmgnpoleilcjoaaGreatVPaa
import Derived.Test.YtmgnpoleilcjoaaGreatProg
set_option maxRecDepth 8000
set_option linter.unusedSimpArgs false
set_option linter.unusedVariables false
set_option linter.unusedSectionVars false
namespace Go.EV
variable {P : Program}
def Jm (ops : Array Oper) (s : Nat) (g : Option (Nat × Bool)) : Nat → Nat → Option Nat
 | _, 0 => none
 | i, n + 1 => match ops[i]? with
  | some o => if o.guard = g then (match o.op with
    | .pick (.tmp s') _ _ => if s' = s then some i else Jm ops s g (i + 1) n
    | _ => Jm ops s g (i + 1) n) else Jm ops s g (i + 1) n
  | none => none
def Vq (want : Bool) (s : Nat) : Op → Option Operand
 | .pick (.tmp s') x y => if s' = s then (if want then (match y with | .const (.bool false) => some x | _ => none) else (match x with | .const (.bool true) => some y | _ => none)) else none
 | _ => none
theorem pickOf_ok {want : Bool} {s : Nat} {op : Op} {x : Operand} (h : Vq want s op = some x) : op = if want then .pick (.tmp s) x (.const (.bool false)) else .pick (.tmp s) (.const (.bool true)) x := by
 unfold Vq at h
 split at h
 ·split at h
  ·rename_i e
   subst e
   split at h
   ·rename_i hw
    split at h
    ·cases h; simp [hw]
    ·cases h
   ·rename_i hw
    split at h
    ·cases h; simp [hw]
    ·cases h
  ·cases h
 ·cases h
def okG (g : Option (Nat × Bool)) (i : Nat) : Bool :=
 match g with
 | none => true
 | some p => decide (p.1 < i)
theorem okG_ok {g : Option (Nat × Bool)} {i : Nat} (h : okG g i = true) : ∀ p, g = some p → p.1 < i := by
 intro p e; subst e; simpa [okG] using h
def Yq : Op → Bool
 | .defer _ => true
 | _ => false
def Ac4 (d : Option Nat) (nt : Nat) : Bool :=
 match d with
 | none => true
 | some d => decide (d < nt)
def Ey7 (g : Option (Nat × Bool)) (og : Oper) (i0 gi : Nat) : Bool :=
 match g with
 | none => true
 | some _ => decide (i0 ≤ gi) && decide (og.guard = g)
def Ui (P : Program) (ops : Array Oper) (nt : Nat) : Nat → Option (Nat × Bool) → Nat → Nat → Nat → Option Sts
 | 0, _, _, _, _ => none
 | fuel + 1, g, i0, i, j =>
  if i = j then some .nil else
  (ops[i]?).bind fun o =>
  if o.guard = g then
   (if (okG g i && Ac4 o.dst nt && !Yq o.op) = true then (Aj8 P o).bind fun r => (Ui P ops nt fuel g i0 (i + 1) j).bind fun rest => some (.op o.dst r rest) else none)
  else match o.guard with
   | none => none
   | some (gi, want) => (ops[gi]?).bind fun og => og.dst.bind fun s => (Jm ops s g i (j - i)).bind fun m => (ops[m]?).bind fun p => p.dst.bind fun d =>
     (Vq want s p.op).bind fun x => (cA x).bind fun last =>
     if (decide (gi < i) && Ey7 g og i0 gi && okG g i && decide (p.guard = g) && decide (d < nt)) = true then
      (Ui P ops nt fuel (some (gi, want)) i i m).bind fun body => (Ui P ops nt fuel g i0 (m + 1) j).bind fun rest => some (.cnd s want body d last rest)
     else none
theorem compS_ok {ops : Array Oper} {nt : Nat} : ∀ {fuel : Nat} {g : Option (Nat × Bool)} {i0 i j : Nat} {sts : Sts}, Ui P ops nt fuel g i0 i j = some sts → CmpS P ops nt g i0 i j sts
 | 0, g, i0, i, j, sts, h => by simp [Ui] at h
 | fuel + 1, g, i0, i, j, sts, h => by
  unfold Ui at h
  split at h
  ·rename_i e; cases h; subst e; exact .nil
  ·simp only [Option.bind_eq_some_iff] at h
   obtain ⟨o, ho, h⟩ := h
   split at h
   ·rename_i hg
    split at h
    ·rename_i hc
     simp only [Bool.and_eq_true] at hc
     obtain ⟨⟨h1, h2⟩, h3⟩ := hc
     simp only [Option.bind_eq_some_iff] at h
     obtain ⟨r, hr, rest, lR, e⟩ := h
     cases e
     refine .op ho hg (okG_ok h1) (comp_ok hr) ?_ ?_ (compS_ok lR)
     ·intro c e; simp [Yq, e] at h3
     ·intro d e; simpa [Ac4, e] using h2
    ·cases h
   ·split at h
    ·cases h
    ·rename_i gi want sJ
     simp only [Option.bind_eq_some_iff] at h
     obtain ⟨og, dA, s, hs, m, hm, p, hp, d, hd, x, hx, last, hl, h⟩ := h
     split at h
     ·rename_i hc
      simp only [Bool.and_eq_true, decide_eq_true_eq] at hc
      obtain ⟨⟨⟨⟨h1, h2⟩, h3⟩, h4⟩, h5⟩ := hc
      simp only [Option.bind_eq_some_iff] at h
      obtain ⟨body, hb, rest, hr, e⟩ := h
      cases e
      refine .cnd dA hs h1 ?_ (okG_ok h3) (compS_ok hb) hp h4 (pickOf_ok hx) hl hd h5 (compS_ok hr)
      intro g6
      cases g with
      | none => simp at g6
      | some q => simpa [Ey7] using h2
     ·cases h
def Uj (ops : Array Oper) : Bool :=
 (List.range ops.size).all fun t => (List.range ops.size).all fun t' =>
  t == t' || (match (ops[t]?).bind (·.dst), (ops[t']?).bind (·.dst) with | some d, some d' => !(d == d') | _, _ => true)
theorem oneDst_ok {ops : Array Oper} (h : Uj ops = true) : Pc ops := by
 intro t t' o o' d ho bS hd cr
 have h1 : t < ops.size := (Array.getElem?_eq_some_iff.1 ho).1
 have h2 : t' < ops.size := (Array.getElem?_eq_some_iff.1 bS).1
 have h3 := List.all_eq_true.1 (List.all_eq_true.1 h t (List.mem_range.2 h1)) t' (List.mem_range.2 h2)
 simpa [ho, bS, hd, cr] using h3
def Yr (ops : Array Oper) (V : List Nat) : Bool :=
 ops.toList.all fun o => match o.guard, o.dst with | some _, some d => !V.contains d | _, _ => true
theorem guardV_ok {ops : Array Oper} {V : List Nat} (h : Yr ops V = true) : ∀ (t : Nat) (o : Oper) (d : Nat), ops[t]? = some o → o.dst = some d → o.guard ≠ none → d ∉ V := by
 intro t o d ho hd hg hm
 have := List.all_eq_true.1 h o (by simpa using Array.mem_of_getElem? ho)
 cases iF : o.guard with
 | none => exact hg iF
 | some g => simp [iF, hd, hm] at this
def Ku (o : Oper) (D : Nat) : Bool := o.after.toList.all fun e => !Region.binds .any e || bit D e.on
theorem depsIn_ok {ops : Array Oper} {i D : Nat} {o : Oper} (ho : ops[i]? = some o) (h : Ku o D = true) : ∀ p, dep ops p i → bit D p = true := by
 rintro p ⟨o', bS, e, he, hb, rfl⟩
 rw [ho] at bS; cases bS
 have := List.all_eq_true.1 h e he
 simpa [hb] using this
theorem Ys {ops : Array Oper} {i D : Nat} {o : Oper} (ho : ops[i]? = some o) (h : Ku o D = false) : ∃ p, dep ops p i ∧ bit D p = false := by
 simp only [Ku, List.all_eq_false] at h
 obtain ⟨e, he, h⟩ := h
 simp at h
 exact ⟨e.on, ⟨o, ho, e, he, h.1, rfl⟩, h.2⟩
def Af6 (l : List Nat) (o : Oper) : Nat := o.after.toList.foldl (fun m e => if Region.binds .any e then m ||| (1 <<< e.on) ||| l.getD e.on 0 else m) 0
def ups (ops : Array Oper) : Nat → List Nat
 | 0 => []
 | n + 1 => let l := ups ops n; l ++ [match ops[n]? with | some o => Af6 l o | none => 0]
theorem Pd (ops : Array Oper) : ∀ n, (ups ops n).length = n
 | 0 => rfl
 | n + 1 => by simp [ups, Pd ops n]
theorem upMask_ok {ops : Array Oper} {n : Nat} {o : Oper} (ho : ops[n]? = some o) {l : List Nat} (hl : ∀ i j, bit (l.getD j 0) i = true → Bef ops i j) {i : Nat} (h : bit (Af6 l o) i = true) : Bef ops i n := by
 have key : ∀ (es : List Edge) (m : Nat), (∀ e ∈ es, e ∈ o.after.toList) → (bit m i = true → Bef ops i n) → bit (es.foldl (fun m e => if Region.binds .any e then m ||| (1 <<< e.on) ||| l.getD e.on 0 else m) m) i = true → Bef ops i n := by
  intro es
  induction es with
  | nil => intro m _ hm h; exact hm h
  | cons e es ih =>
   intro m lM hm h
   refine ih _ (fun e' sK => lM e' (by simp [sK])) ?_ h
   intro hb
   dsimp only at hb
   split at hb
   ·rename_i nD
    simp only [bit, Nat.testBit_or, Nat.one_shiftLeft, Nat.testBit_two_pow, Bool.or_eq_true, decide_eq_true_eq] at hb
    have hd : dep ops e.on n := ⟨o, ho, e, lM e (by simp), nD, rfl⟩
    rcases hb with (hb | hb) | hb
    ·exact hm hb
    ·subst hb; exact .one hd
    ·exact .step (hl _ _ hb) hd
   ·exact hm hb
 exact key o.after.toList 0 (fun e he => he) (fun h => by simp [bit] at h) h
theorem ups_ok {ops : Array Oper} : ∀ n i j, bit ((ups ops n).getD j 0) i = true → Bef ops i j := by
 intro n
 induction n with
 | zero => intro i j h; simp [ups, bit] at h
 | succ n ih =>
  intro i j h
  have aG := Pd ops n
  simp only [ups, List.getD_eq_getElem?_getD] at h
  by_cases hj : j < n
  ·rw [List.getElem?_append_left (by omega)] at h
   exact ih i j (by rw [List.getD_eq_getElem?_getD]; exact h)
  ·by_cases e : j = n
   ·subst e
    rw [List.getElem?_append_right (by omega), aG, Nat.sub_self] at h
    simp only [List.getElem?_cons_zero, Option.getD_some] at h
    split at h
    ·rename_i o ho; exact upMask_ok ho ih h
    ·simp [bit] at h
   ·rw [List.getElem?_eq_none (by simp [aG]; omega)] at h
    simp [bit] at h
def W3 (md : Region.Mode) (ops : Array Oper) : List Nat → Nat → Bool
 | [], D => (List.range ops.size).all fun i => bit D i
 | i :: l, D => match ops[i]? with
  | some o => (o.after.toList.all fun e => !Region.binds md e || bit D e.on) && W3 md ops l (bset D i)
  | none => false
theorem liveB_ok {md : Region.Mode} {ops : Array Oper} {listed : Array Bool} (aN : listed.size = ops.size) (hr : Region.ready md ops listed = []) : ∀ {l : List Nat} {D : Nat}, W3 md ops l D = true → (∀ i, bit D i = true → listed.getD i false = true) →
  ∀ i, i < ops.size → listed.getD i false = true
 | [], D, h, hD, i, hi => hD i (List.all_eq_true.1 h i (List.mem_range.2 hi))
 | x :: l, D, h, hD, i, hi => by
  simp only [W3] at h
  split at h
  ·rename_i o ho
   simp only [Bool.and_eq_true] at h
   refine liveB_ok aN hr h.2 ?_ i hi
   intro j hj
   rw [Az] at hj
   rcases Ej hj with rfl | hj
   ·cases hl : listed.getD j false with
    | true => rfl
    | false =>
     exfalso
     have aZ : j < listed.size := by have := (Array.getElem?_eq_some_iff.1 ho).1; omega
     have := Ac1 (md := md) (listed := listed) ho (by simpa [Array.getD_eq_getD_getElem?, aZ] using hl) (fun e he hb => hD _ (by
      have := List.all_eq_true.1 h.1 e he
      simpa [hb] using this))
     rw [hr] at this; cases this
   ·exact hD j hj
  ·cases h
def Cs9 (md : Region.Mode) (ops : Array Oper) : Nat → Nat → List Nat
 | 0, _ => []
 | fuel + 1, D => match (List.range ops.size).find? fun i => !bit D i && (match ops[i]? with | some o => o.after.toList.all fun e => !Region.binds md e || bit D e.on | none => false) with
  | some i => i :: Cs9 md ops fuel (bset D i)
  | none => []
def Uk (ops : Array Oper) : Bool :=
 W3 .any ops (Cs9 .any ops ops.size 0) 0 && W3 .text ops (Cs9 .text ops ops.size 0) 0 && W3 .gc ops (Cs9 .gc ops ops.size 0) 0
theorem liveAll_ok {ops : Array Oper} (h : Uk ops = true) (md : Region.Mode) (listed : Array Bool) (aN : listed.size = ops.size) (hr : Region.ready md ops listed = []) : ∀ i, i < ops.size → listed.getD i false = true := by
 simp only [Uk, Bool.and_eq_true] at h
 obtain ⟨⟨h1, h2⟩, h3⟩ := h
 cases md
 ·exact liveB_ok aN hr h2 (by simp [bit])
 ·exact liveB_ok aN hr h3 (by simp [bit])
 ·exact liveB_ok aN hr h1 (by simp [bit])
def Aj9 (ops : Array Oper) (nt : Nat) (us : List Nat) : Bool :=
 Uj ops && Uk ops && (ops.toList.all fun o => Ac4 o.dst nt && (match o.op with | .select _ _ => false | .defer _ => false | _ => true)) &&
 (List.range ops.size).all fun i => match ops[i]? with
  | none => true
  | some o => (o.after.toList.all fun e => !Region.binds .any e || decide (e.on < i)) &&
   (o.looksAt ops).all fun t => (List.range ops.size).all fun j => match (ops[j]?).bind (·.dst) with
    | some d => !(d == t) || bit (us.getD i 0) j || bit (us.getD j 0) i
    | none => true
theorem planB_ok {ops : Array Oper} {nt n : Nat} (h : Aj9 ops nt (ups ops n) = true) : Plan ops nt := by
 simp only [Aj9, Bool.and_eq_true] at h
 obtain ⟨⟨⟨h1, lS⟩, h2⟩, h3⟩ := h
 have hall : ∀ (i : Nat) (o : Oper), ops[i]? = some o → (∀ d, o.dst = some d → d < nt) ∧ (∀ cs b, o.op ≠ .select cs b) ∧ (∀ c, o.op ≠ .defer c) := by
  intro i o ho
  have := List.all_eq_true.1 h2 o (by simpa using Array.mem_of_getElem? ho)
  simp only [Bool.and_eq_true] at this
  refine ⟨fun d hd => by simpa [Ac4, hd] using this.1, fun cs b e => by simp [e] at this, fun c e => by simp [e] at this⟩
 have ki : ∀ (i : Nat) (o : Oper), ops[i]? = some o → (∀ e ∈ o.after.toList, Region.binds .any e = true → e.on < i) ∧
   ∀ t ∈ o.looksAt ops, ∀ (j : Nat) (oj : Oper), ops[j]? = some oj → oj.dst = some t → Bef ops j i ∨ Bef ops i j := by
  intro i o ho
  have hi : i < ops.size := (Array.getElem?_eq_some_iff.1 ho).1
  have := List.all_eq_true.1 h3 i (List.mem_range.2 hi)
  simp only [ho, Bool.and_eq_true] at this
  refine ⟨fun e he hb => ?_, fun t ht j oj hj hd => ?_⟩
  ·have := List.all_eq_true.1 this.1 e he
   simpa [hb] using this
  ·have aM : j < ops.size := (Array.getElem?_eq_some_iff.1 hj).1
   have := List.all_eq_true.1 (List.all_eq_true.1 this.2 t ht) j (List.mem_range.2 aM)
   simp only [hj, Option.bind_some, hd, beq_self_eq_true, Bool.not_true, Bool.false_or, Bool.or_eq_true] at this
   exact this.imp (ups_ok n _ _) (ups_ok n _ _)
 have jE : ∀ i j, dep ops i j → i < j := by
  rintro i j ⟨o, ho, e, he, hb, rfl⟩
  exact (ki j o ho).1 e he hb
 have jb : ∀ i j, Bef ops i j → i < j := by
  intro i j hb
  induction hb with
  | one h => exact jE _ _ h
  | step _ hd ih => exact Nat.lt_trans ih (jE _ _ hd)
 refine ⟨?_, fun i hb => by have := jb i i hb; omega, oneDst_ok h1, fun i o d ho hd => (hall i o ho).1 d hd, fun i o ho => (hall i o ho).2, liveAll_ok lS⟩
 intro i j oi oj t hi hj hd ht
 exact (ki i oi hi).2 t ht j oj hj hd
def Aw6 (g : Option (Nat × Bool)) (og : Oper) (D0 gi : Nat) : Bool :=
 match g with
 | none => true
 | some _ => decide (og.guard = g) && !bit D0 gi
def Om (P : Program) (ops : Array Oper) (Q : List Nat) : Nat → Option (Nat × Bool) → Bool → Nat → Nat → Nat → Nat → Option (QL × Nat)
 | 0, _, _, _, _, _, _ => none
 | fuel + 1, g, must, D0, i, j, D =>
  if j ≤ i then some (.nil, D) else
  if bit D i = true then Om P ops Q fuel g must D0 (i + 1) j D else
  (ops[i]?).bind fun o =>
  if o.guard = g then
   (Aj8 P o).bind fun r =>
   if (Ku o D && R6 Q r) = true then (Om P ops Q fuel g must D0 (i + 1) j (bset D i)).bind fun q => some (.op i o.dst r q.1, q.2)
   else if must = true then none else Om P ops Q fuel g must D0 (i + 1) j D
  else match o.guard with
   | none => none
   | some (gi, want) => (ops[gi]?).bind fun og => og.dst.bind fun s => (Jm ops s g i (j - i)).bind fun m => (ops[m]?).bind fun p => p.dst.bind fun d =>
     (Vq want s p.op).bind fun x => (cA x).bind fun last =>
     match (if bit D gi = true then Om P ops Q fuel (some (gi, want)) true D i m D else none) with
     | some q =>
      if (Aw6 g og D0 gi && decide (p.guard = g) && !bit q.2 m && Ku p q.2) = true then
       (Om P ops Q fuel g must D0 (m + 1) j (bset q.2 m)).bind fun q' => some (.g s want q.1 m d last q'.1, q'.2)
      else none
     | none => if must = true then none else Om P ops Q fuel g must D0 (m + 1) j D
theorem takeQ_ok {ops : Array Oper} {nt : Nat} {Q : List Nat} : ∀ {fuel : Nat} {g : Option (Nat × Bool)} {must : Bool} {D0 i j D : Nat} {q : QL × Nat}, Om P ops Q fuel g must D0 i j D = some q → CmpQL P ops nt Q g D0 D q.1 q.2
 | 0, g, must, D0, i, j, D, q, h => by simp [Om] at h
 | fuel + 1, g, must, D0, i, j, D, q, h => by
  unfold Om at h
  split at h
  ·cases h; exact .nil
  ·split at h
   ·exact takeQ_ok h
   ·rename_i hD
    simp only [Option.bind_eq_some_iff] at h
    obtain ⟨o, ho, h⟩ := h
    split at h
    ·rename_i hg
     simp only [Option.bind_eq_some_iff] at h
     obtain ⟨r, hr, h⟩ := h
     split at h
     ·rename_i hc
      simp only [Bool.and_eq_true] at hc
      simp only [Option.bind_eq_some_iff] at h
      obtain ⟨q', oC, e⟩ := h
      cases e
      exact .op ho hg (by simpa using hD) (depsIn_ok ho hc.1) (comp_ok hr) hc.2 (takeQ_ok oC)
     ·split at h
      ·cases h
      ·exact takeQ_ok h
    ·split at h
     ·cases h
     ·rename_i gi want sJ
      simp only [Option.bind_eq_some_iff] at h
      obtain ⟨og, dA, s, hs, m, hm, p, hp, d, hd, x, hx, last, hl, h⟩ := h
      split at h
      ·rename_i q1 iK
       split at iK
       ·rename_i hgi
        split at h
        ·rename_i hc
         simp only [Bool.and_eq_true, decide_eq_true_eq, Bool.not_eq_true'] at hc
         obtain ⟨⟨⟨h1, h2⟩, h3⟩, h4⟩ := hc
         simp only [Option.bind_eq_some_iff] at h
         obtain ⟨q', oC, e⟩ := h
         cases e
         refine .g dA hs hgi ?_ (takeQ_ok iK) hp h2 h3 (depsIn_ok hp h4) (pickOf_ok hx) hl hd (takeQ_ok oC)
         intro g6
         cases g with
         | none => simp at g6
         | some q => simpa [Aw6] using h1
        ·cases h
       ·cases iK
      ·split at h
       ·cases h
       ·exact takeQ_ok h
def Aw7 (P : Program) (Q : List Nat) (o : Oper) : Bool := match Aj8 P o with | some r => R6 Q r | none => false
def Aw8 (P : Program) (ops : Array Oper) (Q : List Nat) (Γ : Gam) (D : Nat) : Option (Nat × Oper × Nat × Bool) :=
 (List.range ops.size).findSome? fun i => if bit D i = true then none else match ops[i]? with
  | some o => match o.guard with
   | some (gi, want) => if (Ku o D && bit D gi && (!Γ.contains (gi, some want) || Aw7 P Q o)) = true then some (i, o, gi, want) else none
   | none => none
  | none => none
theorem nextG_ok {ops : Array Oper} {Q : List Nat} {Γ : Gam} {D : Nat} {i gi : Nat} {o : Oper} {want : Bool} (h : Aw8 P ops Q Γ D = some (i, o, gi, want)) : ops[i]? = some o ∧ o.guard = some (gi, want) ∧ bit D i = false ∧ Ku o D = true ∧ bit D gi = true := by
 obtain ⟨j, _, h⟩ := List.exists_of_findSome?_eq_some h
 split at h
 ·cases h
 ·rename_i hD
  split at h
  ·rename_i o' ho
   split at h
   ·rename_i gi' want' hg
    split at h
    ·rename_i hc
     simp only [Bool.and_eq_true] at hc
     cases h
     exact ⟨ho, hg, by simpa using hD, hc.1.1, hc.1.2⟩
    ·cases h
   ·cases h
  ·cases h
def Ul (Γ : Gam) (g : Option (Nat × Bool)) : Bool :=
 match g with
 | none => true
 | some p => Γ.contains (p.1, some p.2)
theorem guardIn_ok {Γ : Gam} {g : Option (Nat × Bool)} (h : Ul Γ g = true) : ∀ p, g = some p → (p.1, some p.2) ∈ Γ := by
 intro p e
 subst e
 simpa [Ul] using h
def mkT (P : Program) (ops : Array Oper) (Q : List Nat) (us : List Nat) : Nat → Gam → Option Nat → Nat → Option AT
 | 0, _, _, _ => none
 | fuel + 1, Γ, none, D => (Om P ops Q (ops.size + 1) none false D 0 ops.size D).bind fun q =>
   if ((List.range ops.size).all fun i => bit q.2 i) = true then some (.q q.1 .fin) else
   match Aw8 P ops Q Γ q.2 with
   | some (i, o, gi, want) => match Γ.find? fun p => p.1 == gi with
    | some (gj, x) => if gj = gi ∧ (gj, x) ∈ Γ then
      (if x = some want then (Aj8 P o).bind fun r => if R6 Q r = true then (mkT P ops Q us fuel Γ none (bset q.2 i)).bind fun t => some (.q q.1 (.q (.op i o.dst r .nil) t))
        else (mkT P ops Q us fuel Γ (some 0) q.2).bind fun t => some (.q q.1 t)
       else (mkT P ops Q us fuel (if o.dst.isSome = true then (i, none) :: Γ else Γ) none (bset q.2 i)).bind fun t => some (.q q.1 (.sk i o.dst t)))
      else none
    | none => (ops[gi]?).bind fun og => og.dst.bind fun s => (mkT P ops Q us fuel ((gi, some true) :: Γ) none q.2).bind fun y => (mkT P ops Q us fuel ((gi, some false) :: Γ) none q.2).bind fun n => some (.q q.1 (.br s y n))
   | none => (mkT P ops Q us fuel Γ (some 0) q.2).bind fun t => some (.q q.1 t)
 | fuel + 1, Γ, some i, D =>
   if ops.size ≤ i then some .no else
   if bit D i = true then mkT P ops Q us fuel Γ (some (i + 1)) D else
   (ops[i]?).bind fun o =>
   if Ku o D = true then
    if Ul Γ o.guard = true then (Aj8 P o).bind fun r => (mkT P ops Q us fuel Γ none (bset D i)).bind fun t => (mkT P ops Q us fuel Γ (some (i + 1)) D).bind fun more =>
     some (.s i o.dst r (Nat.land D (us.getD i 0) == D) t more) else none
   else mkT P ops Q us fuel Γ (some (i + 1)) D
theorem mkT_ok {ops : Array Oper} {nt n : Nat} {Q : List Nat} : ∀ {fuel : Nat} {Γ : Gam} {mode : Option Nat} {D : Nat} {t : AT}, mkT P ops Q (ups ops n) fuel Γ mode D = some t → CmpA P ops nt Q Γ mode D t
 | 0, Γ, mode, D, t, h => by simp [mkT] at h
 | fuel + 1, Γ, none, D, t, h => by
  simp only [mkT, Option.bind_eq_some_iff] at h
  obtain ⟨q, hq, h⟩ := h
  have dN : ∀ p : Nat × Bool, (none : Option (Nat × Bool)) = some p → (p.1, some p.2) ∈ Γ := fun p e => by cases e
  split at h
  ·rename_i hall
   cases h
   exact .q dN (takeQ_ok hq) (.fin fun i hi => List.all_eq_true.1 hall i (List.mem_range.2 hi))
  ·rename_i hall
   have hne : ∃ i, i < ops.size ∧ bit q.2 i = false := by
    have hall : ((List.range ops.size).all fun i => bit q.2 i) = false := by simpa using hall
    obtain ⟨i, hi, hb⟩ := List.all_eq_false.1 hall
    exact ⟨i, List.mem_range.1 hi, by simpa using hb⟩
   split at h
   ·rename_i i o gi want hn
    obtain ⟨ho, hg, hD, hdep, hgD⟩ := nextG_ok hn
    split at h
    ·rename_i gj x _
     split at h
     ·rename_i hc
      obtain ⟨rfl, aJ⟩ := hc
      split at h
      ·rename_i hx
       subst hx
       simp only [Option.bind_eq_some_iff] at h
       obtain ⟨r, hr, h⟩ := h
       split at h
       ·rename_i sL
        simp only [Option.bind_eq_some_iff] at h
        obtain ⟨t', eW, e⟩ := h
        cases e
        refine .q dN (takeQ_ok hq) (.q (g := some (gj, want)) (fun p e => by cases e; exact aJ) (.op ho hg hD (depsIn_ok ho hdep) (comp_ok hr) sL .nil) (mkT_ok eW))
       ·simp only [Option.bind_eq_some_iff] at h
        obtain ⟨t', eW, e⟩ := h
        cases e
        exact .q dN (takeQ_ok hq) (.alts hne (mkT_ok eW))
      ·rename_i hx
       simp only [Option.bind_eq_some_iff] at h
       obtain ⟨t', eW, e⟩ := h
       cases e
       refine .q dN (takeQ_ok hq) (.sk ho hg aJ hx hD (depsIn_ok ho hdep) ?_ (mkT_ok eW))
       intro y hy
       split at hy
       ·rename_i hs
        rcases List.mem_cons.1 hy with e | hy
        ·exact .inr ⟨e, Option.isSome_iff_exists.1 hs⟩
        ·exact .inl hy
       ·exact .inl hy
     ·cases h
    ·simp only [Option.bind_eq_some_iff] at h
     obtain ⟨og, dA, s, hs, y, hy, n', jc, e⟩ := h
     cases e
     exact .q dN (takeQ_ok hq) (.br dA hs hgD (mkT_ok hy) (mkT_ok jc))
   ·simp only [Option.bind_eq_some_iff] at h
    obtain ⟨t', eW, e⟩ := h
    cases e
    exact .q dN (takeQ_ok hq) (.alts hne (mkT_ok eW))
 | fuel + 1, Γ, some i, D, t, h => by
  simp only [mkT] at h
  split at h
  ·rename_i hi; cases h; exact .no hi
  ·split at h
   ·rename_i hD; exact .pass (.inl hD) (mkT_ok h)
   ·rename_i hD
    simp only [Option.bind_eq_some_iff] at h
    obtain ⟨o, ho, h⟩ := h
    split at h
    ·split at h
     ·rename_i hg
      simp only [Option.bind_eq_some_iff] at h
      obtain ⟨r, hr, t', eW, more, hm, e⟩ := h
      cases e
      refine .s ho (guardIn_ok hg) (by simpa using hD) (comp_ok hr) ?_ (mkT_ok eW) (mkT_ok hm)
      intro hre j hj
      have e : Nat.land D ((ups ops n).getD i 0) = D := by simpa using hre
      refine ups_ok n _ _ ?_
      have : bit (Nat.land D ((ups ops n).getD i 0)) j = true := by rw [e]; exact hj
      have h2 : bit (D &&& ((ups ops n).getD i 0)) j = true := this
      rw [bit, Nat.testBit_and, Bool.and_eq_true] at h2
      exact h2.2
     ·cases h
    ·rename_i hd
     exact .pass (.inr (Ys ho (by simpa using hd))) (mkT_ok h)
def Hh (P : Program) (nt : Nat) (V Q : List Nat) : Code → Option RCode
 | .skip => some .skip
 | .region _ ops false => if (Uj ops && Yr ops V) = true then (Ui P ops nt (ops.size + 1) none 0 0 ops.size).bind fun s => some (.reg s) else none
 | .region _ ops true => if (Aj9 ops nt (ups ops ops.size) && Yr ops V) = true then (mkT P ops Q (ups ops ops.size) ((ops.size + 2) * (ops.size + 2)) [] none 0).bind fun t => some (.any t) else none
 | .seq a b => (Hh P nt V Q a).bind fun a' => (Hh P nt V Q b).bind fun b' => some (.seq a' b')
 | .cond c a b => (cA c).bind fun c' => (Hh P nt V Q a).bind fun a' => (Hh P nt V Q b).bind fun b' => some (.cond c' a' b')
 | .block id c => (Hh P nt V Q c).bind fun c' => some (.block id c')
 | .loop c => (Hh P nt V Q c).bind fun c' => some (.loop c')
 | .exit id => some (.exit id)
 | .ret => some .ret
 | .rangeFunc f ps a b => (cA f).bind fun f' => (Hh P nt V Q a).bind fun a' => (Hh P nt V Q b).bind fun b' => if (ps.toList.all fun t => decide (t < nt)) = true then some (.rangeF f' ps.toList a' b') else none
 | _ => none
theorem compC_ok {nt : Nat} {V Q : List Nat} : ∀ {c : Code} {r : RCode}, Hh P nt V Q c = some r → CmpC P nt V c r := by
 intro c
 induction c with
 | skip => intro r h; cases h; exact .skip
 | region id ops draw =>
  intro r h
  cases draw with
  | true =>
   simp only [Hh] at h
   split at h
   ·rename_i hc
    simp only [Bool.and_eq_true] at hc
    simp only [Option.bind_eq_some_iff] at h
    obtain ⟨t, ht, e⟩ := h
    cases e
    exact .any (planB_ok hc.1) (mkT_ok ht) (guardV_ok hc.2)
   ·cases h
  | false =>
   simp only [Hh] at h
   split at h
   ·rename_i hc
    simp only [Bool.and_eq_true] at hc
    simp only [Option.bind_eq_some_iff] at h
    obtain ⟨s, hs, e⟩ := h
    cases e
    exact .reg (compS_ok hs) (oneDst_ok hc.1) (guardV_ok hc.2)
   ·cases h
 | seq a b iha ihb =>
  intro r h
  simp only [Hh, Option.bind_eq_some_iff] at h
  obtain ⟨a', ha, b', hb, e⟩ := h
  cases e; exact .seq (iha ha) (ihb hb)
 | cond c a b iha ihb =>
  intro r h
  simp only [Hh, Option.bind_eq_some_iff] at h
  obtain ⟨c', hc, a', ha, b', hb, e⟩ := h
  cases e; exact .cond hc (iha ha) (ihb hb)
 | block id c ih =>
  intro r h
  simp only [Hh, Option.bind_eq_some_iff] at h
  obtain ⟨c', hc, e⟩ := h
  cases e; exact .block (ih hc)
 | loop c ih =>
  intro r h
  simp only [Hh, Option.bind_eq_some_iff] at h
  obtain ⟨c', hc, e⟩ := h
  cases e; exact .loop (ih hc)
 | exit id => intro r h; cases h; exact .exit
 | ret => intro r h; cases h; exact .ret
 | rangeFunc f ps a b iha ihb =>
  intro r h
  simp only [Hh, Option.bind_eq_some_iff] at h
  obtain ⟨f', hf, a', ha, b', hb, e⟩ := h
  split at e
  ·rename_i hps
   cases e; exact .rangeF hf (fun t ht => by simpa using List.all_eq_true.1 hps t ht) (iha ha) (ihb hb)
  ·cases e
 | _ => intro r h; cases h
def Ak0 (P : Program) : ResultVar → Option RRes
 | .tmp t => some (.tmp t)
 | .cell t T => match L7 P T with
  | some true => (szP P T).bind fun sz => some (.cellA t sz)
  | some false => some (.cell1 t)
  | none => none
theorem compR_ok {x : ResultVar} {y : RRes} (h : Ak0 P x = some y) : CmpR P x y := by
 cases x with
 | tmp t => cases h; exact .tmp
 | cell t T =>
  simp only [Ak0] at h
  split at h
  ·rename_i ha
   simp only [Option.bind_eq_some_iff] at h
   obtain ⟨sz, hs, e⟩ := h
   cases e; exact .cellA ha hs
  ·rename_i ha; cases h; exact .cell1 ha
  ·cases h
def Vr (P : Program) : List ResultVar → Option (List RRes)
 | [] => some []
 | x :: l => (Ak0 P x).bind fun y => (Vr P l).bind fun m => some (y :: m)
theorem compRs_ok : ∀ {l : List ResultVar} {m : List RRes}, Vr P l = some m → CmpRs P l m
 | [], m, h => by cases h; exact .nil
 | x :: l, m, h => by
  simp only [Vr, Option.bind_eq_some_iff] at h
  obtain ⟨y, hy, m', hm, e⟩ := h
  cases e; exact .cons (compR_ok hy) (compRs_ok hm)
structure RFun where
 nt : Nat
 V : List Nat
 body : RCode
 res : List RRes
def Ai (P : Program) (V Q : List Nat) (f : FuncId) : Option RFun :=
 if X6 P f = true then
  (P.funcs[f]?).bind fun fn => fn.body.bind fun c => (Hh P fn.ntmps V Q c).bind fun r => (Vr P fn.results.toList).bind fun res => some ⟨fn.ntmps, V, r, res⟩
 else none
def Cx.fn (P : Program) (f : FuncId) (nt : Nat) (w0 : World) (F : List Nat) (M0 : Aa) (Φ : Value → Aa → Own → Prop) : Cx P where
 b := { (default : Frame) with fn := f, kind := .normal, roundOf := none }
 T := fun cs m => ∃ e w' fr, (∃ v, e = Ending.returned v ∧ ∃ M' G', EV.St w0 F M0 M' G' w' ∧ Φ v M' G') ∧ Comes P m (lone fr cs w') e ∧ fr.fn = f ∧ fr.leaving P w' e
 back := by
  rintro cs m m' hs ⟨e, w', fr, h1, h2, h3, h4⟩
  exact ⟨e, w', fr, h1, Comes.of_steps (.one hs) h2, h3, h4⟩
 nt := nt
 ds := []
 w0 := w0
 F := F
 M0 := M0
def A5 : Nat → List Value → Env
 | _, [] => []
 | i, v :: l => (i, v) :: A5 (i + 1) l
theorem Ac5 {l : List Value} : ∀ {i t : Nat} {v : Value}, get (A5 i l) t = some v → i ≤ t ∧ l[t - i]? = some v := by
 induction l with
 | nil => intro i t v h; simp [A5, get] at h
 | cons u l ih =>
  intro i t v h
  simp only [A5, get] at h
  split at h
  ·rename_i e; subst e; cases h; simp
  ·rename_i e
   obtain ⟨h1, h2⟩ := ih h
   refine ⟨by omega, ?_⟩
   have : t - i = (t - (i + 1)) + 1 := by omega
   rw [this]; simpa using h2
theorem Con.enter {f : FuncId} {V Q : List Nat} {R : RFun} (hR : Ai P V Q f = some R) {args : List Value} (aG : args.length ≤ R.nt) {M : Aa} {G : Own} {Φ : Value → Aa → Own → Prop}
  (h : ∀ w0, EV (Cx.fn P f R.nt w0 (G.map (·.1)) M Φ) R.V [.code R.body] (A5 0 args) M G) : Con P f args.toArray M G Φ := by
 unfold Ai at hR
 split at hR
 ·rename_i hgo
  simp only [Option.bind_eq_some_iff] at hR
  obtain ⟨fn, cC, c, hc, r, hr, res, aD, e⟩ := hR
  cases e
  refine ⟨hgo, ?_⟩
  intro w hs cs
  have hE := h w [.code c] (.cons (.code (compC_ok hr)) .nil) { tmps := args.toArray ++ Array.replicate (fn.ntmps - args.toArray.size) undef, defers := [] } w
  have cW : Ei fn.ntmps (A5 0 args) { tmps := args.toArray ++ Array.replicate (fn.ntmps - args.toArray.size) undef, defers := [] } := by
   refine ⟨?_, ?_⟩
   ·simp only [Array.size_append, Array.size_replicate, List.size_toArray]
    dsimp only at aG
    omega
   ·intro t v ht
    obtain ⟨_, h2⟩ := Ac5 ht
    simp only [Nat.sub_zero] at h2
    obtain ⟨aZ, _⟩ := List.getElem?_eq_some_iff.1 h2
    rw [Array.getElem?_append_left (by simpa using aZ)]
    simpa using h2
  have := hE cW rfl hs cs
  have jd : Frame.enter P f args.toArray .normal = (Cx.fn P f fn.ntmps w (G.map (·.1)) M Φ).b.atR { tmps := args.toArray ++ Array.replicate (fn.ntmps - args.toArray.size) undef, defers := [] } [.code c] := by
   simp only [Frame.enter, Frame.atR, Cx.fn, cC, Option.map_some, Option.getD_some, Option.bind_some, hc]
  rw [jd]
  exact this
 ·cases hR
section
variable {f : FuncId} {w0 : World} {F : List Nat} {M0 M : Aa} {G : Own} {Φ : Value → Aa → Own → Prop} {V Q : List Nat} {k : List RItem} {ρ : Env}
def Aw0 (R : RFun) (ρ : Env) (M : Aa) (G : Own) (Φ : Value → Aa → Own → Prop) : Prop := Aa9 ρ (M.add G) R.res fun vs => Φ (Aw5 vs) M G
theorem EV.ret {R : RFun} (hR : Ai P V Q f = some R) (h : Aw0 R ρ M G Φ) : EV (Cx.fn P f R.nt w0 F M0 Φ) R.V (.code .ret :: k) ρ M G := by
 unfold Ai at hR
 split at hR
 ·rename_i hgo
  simp only [Option.bind_eq_some_iff] at hR
  obtain ⟨fn, cC, c, hc, r, hr, res, aD, e⟩ := hR
  cases e
  intro k' hk a w hf hd hs cs
  cases hk with
  | cons hx hk => cases hx with
   | code hc => cases hc with
    | ret =>
     obtain ⟨v, hv, hΦ⟩ := Gh (P := P) (fn := fn) (Q := fun v => Φ v M G) hf (fun b o hb => hs.agreeAdd hb) (compRs_ok aD) h
     refine ⟨.returned v, w, { (Cx.fn P f fn.ntmps w0 F M0 Φ).b.atR a (.code .ret :: _) with mode := .returning }, ⟨v, rfl, M, G, hs, hΦ⟩, .one (stepR_ret rfl), rfl, ?_⟩
     exact ⟨rfl, hd, rfl, fn, cC, hv⟩
 ·cases hR
theorem EV.done {R : RFun} (hR : Ai P V Q f = some R) (h : Aw0 R ρ M G Φ) : EV (Cx.fn P f R.nt w0 F M0 Φ) R.V [] ρ M G := by
 unfold Ai at hR
 split at hR
 ·rename_i hgo
  simp only [Option.bind_eq_some_iff] at hR
  obtain ⟨fn, cC, c, hc, r, hr, res, aD, e⟩ := hR
  cases e
  intro k' hk a w hf hd hs cs
  cases hk with
  | nil =>
   obtain ⟨v, hv, hΦ⟩ := Gh (P := P) (fn := fn) (Q := fun v => Φ v M G) hf (fun b o hb => hs.agreeAdd hb) (compRs_ok aD) h
   refine ⟨.returned v, w, { (Cx.fn P f fn.ntmps w0 F M0 Φ).b.atR a [] with mode := .returning }, ⟨v, rfl, M, G, hs, hΦ⟩, .one (stepR_end rfl), rfl, ?_⟩
   exact ⟨rfl, hd, rfl, fn, cC, hv⟩
 ·cases hR
end
end Go.EV

namespace Go.EV
theorem Au (i : Nat) : get [] i = none := rfl
theorem Am (j : Nat) (v : Value) (ρ : Env) (i : Nat) : get ((j, v) :: ρ) i = if i = j then some v else get ρ i := rfl
theorem As (ρ : Env) : T3 [] ρ = [] := rfl
theorem Ao (i : Nat) (V : List Nat) (ρ : Env) : T3 (i :: V) ρ = match get ρ i with | some v => (i, v) :: T3 V ρ | none => T3 V ρ := rfl
attribute [push_cast] Vp qW opW Cb Ab4 ev evs evp evo Au Am As Ao putE A5 Aw2 Ct7 shV Ct8 T7 Cs6 sl? Oj Iy Ab5 Cs7 fn? Ol Hg eqL O8 Value.cells Ab6 H4 X7 Fr Aa9 Aw5 Aw0
 List.length_cons List.length_nil List.getElem?_cons_zero List.getElem?_cons_succ List.take_succ_cons List.take_zero List.drop_succ_cons List.drop_zero List.nil_append List.cons_append List.take_nil List.drop_nil List.replicate_succ List.replicate_zero List.flatten_cons List.flatten_nil
attribute [push_cast] List.set_cons_zero List.set_cons_succ or_self or_false false_or and_self true_and and_true Nat.zero_add Nat.mul_one Nat.add_zero Bool.false_xor Bool.true_xor if_true if_false Int.toNat_natCast Int.cast_ofNat_Int Int.toNat_zero ne_eq not_true_eq_false not_false_eq_true Value.oneCell' List.size_toArray List.append_assoc List.append_nil Array.append_empty Array.empty_append Nat.le_refl exists_eq_left exists_and_left Nat.zero_le Nat.sub_zero
end Go.EV

namespace Go.EV
variable {P : Program}
theorem w64 {x : Int} (h1 : -9223372036854775808 ≤ x) (h2 : x < 9223372036854775808) : IntKind.i64.wrap x = x := by
 have e : (2 : Int) ^ IntKind.i64.bits = 18446744073709551616 := rfl
 have e2 : (2 : Int) ^ (IntKind.i64.bits - 1) = 9223372036854775808 := rfl
 have e3 : IntKind.i64.signed = true := rfl
 simp only [IntKind.wrap, e, e2, e3, Bool.true_and, decide_eq_true_eq]
 split <;> omega
theorem Ct : ok1 [] ↔ True := by simp [ok1]
theorem B2 (v : Value) (l : List Value) : ok1 (v :: l) ↔ v.oneCell' = true ∧ ok1 l := by simp [ok1]
theorem W4 {ρ : Env} {t : Nat} {v : Value} (h : get ρ t = some v) : (t, v) ∈ ρ := by
 induction ρ with
 | nil => simp [get] at h
 | cons p ρ ih =>
  obtain ⟨j, u⟩ := p
  simp only [get] at h
  split at h
  ·rename_i e; subst e; cases h; simp
  ·exact List.mem_cons_of_mem _ (ih h)
section
variable {C : Cx P} {V : List Nat} {k : List RItem} {ρ ρ' : Env} {M : Aa} {G G' : Own}
theorem EV.to (h : EV C V k ρ' M G') (hρ : ∀ p ∈ ρ', get ρ p.1 = some p.2) (hG : G'.Sublist G) : EV C V k ρ M G :=
 h.weaken (fun t v ht => hρ (t, v) (W4 ht)) hG
theorem Af7 {b off n : Nat} {T : TypeId} {cs : List Value} (i : Nat) (h : G[i]? = some (b, Cl T cs)) (hl : off + n ≤ cs.length) : rd (M.add G) b off n ((cs.drop off).take n) :=
 ⟨cs.toArray, T, (0, 0), .inr (List.mem_of_getElem? h), by simpa using hl, by simp⟩
theorem Ap {b off n : Nat} {T : TypeId} {cs out : List Value} (i : Nat) (h : G[i]? = some (b, Cl T cs)) (e : (cs.drop off).take n = out) (hl : off + n ≤ cs.length) : rd (M.add G) b off n out :=
 e ▸ Af7 i h hl
theorem Ak1 {b off n : Nat} {cs : List Value} (h : rd M b off n cs) : rd (M.add G) b off n cs := h.mono (Aa.le_add _ _)
theorem Yt {sz n : Nat} {a : Option Addr} {cs : List Value} (h : rdS M sz a n cs) : rdS (M.add G) sz a n cs :=
 h.imp id fun ⟨b, off, e, h⟩ => ⟨b, off, e, Ak1 h⟩
theorem rdS.mono {H H' : Aa} (h : H.le H') {sz n : Nat} {a : Option Addr} {cs : List Value} (k : rdS H sz a n cs) : rdS H' sz a n cs :=
 k.imp id fun ⟨b, off, e, k⟩ => ⟨b, off, e, k.mono h⟩
theorem rd.part {H : Aa} {b off n i m : Nat} {cs : List Value} (h : rd H b off n cs) (hm : i + m ≤ n) : rd H b (off + i) m ((cs.drop i).take m) := by
 obtain ⟨c, T, fz, h1, h2, h3⟩ := h
 refine ⟨c, T, fz, h1, by omega, ?_⟩
 rw [h3, List.drop_take, List.drop_drop, List.take_take, Nat.min_eq_left (by omega)]
end
def Sl {α : Type} (H : Aa) (sz : Nat) (enc : α → List Value) (v : Value) (xs : List α) : Prop :=
 ∃ a c, v = .slice a xs.length c ∧ rdS H sz a xs.length (xs.flatMap enc)
theorem Kv {α : Type} {sz : Nat} {enc : α → List Value} (cL : ∀ x, (enc x).length = sz) : ∀ {xs : List α} {i : Nat} (h : i < xs.length), ((xs.flatMap enc).drop (i * sz)).take sz = enc xs[i]
 | x :: xs, 0, _ => by simp [List.flatMap_cons, ← cL x]
 | x :: xs, i + 1, h => by
  have h' : i < xs.length := by simpa using h
  have := Kv cL h'
  simp only [List.flatMap_cons, List.getElem_cons_succ]
  rw [← this, List.drop_append, List.drop_eq_nil_of_le (by rw [cL, Nat.succ_mul]; omega), List.nil_append, cL, Nat.succ_mul, Nat.add_sub_cancel]
theorem Fj {α : Type} {sz : Nat} {enc : α → List Value} (cL : ∀ x, (enc x).length = sz) : ∀ (xs : List α), (xs.flatMap enc).length = xs.length * sz
 | [] => by simp
 | x :: xs => by simp [List.flatMap_cons, Fj cL xs, cL, Nat.succ_mul, Nat.add_comm]
theorem Sl.at {α : Type} {H : Aa} {sz : Nat} {enc : α → List Value} (cL : ∀ x, (enc x).length = sz) (hpos : 0 < sz) {a : Option Addr} {xs : List α} (h : rdS H sz a xs.length (xs.flatMap enc)) (hn : 0 < xs.length) :
  ∃ b off, a = some ⟨b, off, none⟩ ∧ ∀ i (hi : i < xs.length), rd H b (off + i * sz) sz (enc xs[i]) := by
 rcases h with ⟨h0, _⟩ | ⟨b, off, e, h⟩
 ·exfalso
  rcases Nat.mul_eq_zero.1 h0 with h0 | h0
  ·rw [h0] at hn; exact absurd hn (by simp)
  ·omega
 ·refine ⟨b, off, e, fun i hi => ?_⟩
  have := h.part (i := i * sz) (m := sz) (by
   have : (i + 1) * sz ≤ xs.length * sz := Nat.mul_le_mul_right _ hi
   rw [Nat.succ_mul] at this; exact this)
  rwa [Kv cL hi] at this
theorem Sl.mono {α : Type} {H H' : Aa} (hh : H.le H') {sz : Nat} {enc : α → List Value} {v : Value} {xs : List α} (h : Sl H sz enc v xs) : Sl H' sz enc v xs :=
 let ⟨a, c, e, h⟩ := h; ⟨a, c, e, h.mono hh⟩
def Em {α : Type} (H : Aa) (sz : Nat) (enc : α → List Value) (v : Value) (xss : List (List α)) : Prop :=
 ∃ a c vs, v = .slice a xss.length c ∧ vs.length = xss.length ∧ rdS H 1 a xss.length vs ∧ ∀ i (h : i < vs.length) (h' : i < xss.length), Sl H sz enc vs[i] xss[i]
theorem Em.mono {α : Type} {H H' : Aa} (hh : H.le H') {sz : Nat} {enc : α → List Value} {v : Value} {xss : List (List α)} (h : Em H sz enc v xss) : Em H' sz enc v xss :=
 let ⟨a, c, vs, e, hl, h, k⟩ := h; ⟨a, c, vs, e, hl, h.mono hh, fun i h h' => (k i h h').mono hh⟩
theorem Ip (vs : List Value) : vs.flatMap (fun v => [v]) = vs := by simp [List.flatMap_singleton']
theorem Em.at {α : Type} {H : Aa} {sz : Nat} {enc : α → List Value} {a : Option Addr} {vs : List Value} {xss : List (List α)} (h : rdS H 1 a xss.length vs) (hl : vs.length = xss.length) (hk : ∀ i (h : i < vs.length) (h' : i < xss.length), Sl H sz enc vs[i] xss[i]) (hn : 0 < xss.length) :
  ∃ b off, a = some ⟨b, off, none⟩ ∧ ∀ i (hi : i < xss.length), ∃ a' c', rd H b (off + i * 1) 1 [.slice a' xss[i].length c'] ∧ rdS H sz a' xss[i].length (xss[i].flatMap enc) := by
 have h1 : rdS H 1 a vs.length (vs.flatMap fun v => [v]) := by rw [Ip, hl]; exact h
 obtain ⟨b, off, e, hr⟩ := Sl.at (sz := 1) (enc := fun v => [v]) (fun _ => rfl) (by omega) h1 (by omega)
 refine ⟨b, off, e, fun i hi => ?_⟩
 have bj := hr i (by omega)
 obtain ⟨a', c', e', h'⟩ := hk i (by omega) hi
 rw [e'] at bj
 exact ⟨a', c', bj, h'⟩
attribute [push_cast] Ct B2
theorem Aw9 {M : Aa} {G : Own} {b off n : Nat} {T : TypeId} {cs : List Value} (h : (b, Cl T cs) ∈ G) (hl : off + n ≤ cs.length) : rd (M.add G) b off n ((cs.drop off).take n) := by
 obtain ⟨i, hi⟩ := List.mem_iff_getElem?.1 h
 exact Af7 i hi hl
theorem Bv {M : Aa} {G : Own} {b off n : Nat} {T : TypeId} {cs out : List Value} (h : (b, Cl T cs) ∈ G) (e : (cs.drop off).take n = out) (hl : off + n ≤ cs.length) : rd (M.add G) b off n out := e ▸ Aw9 h hl
theorem D9 {M : Aa} {G : Own} {sz n : Nat} {T : TypeId} {ov : Vec} {xs : List Value} (ae : E6 sz ov n xs) (hM : ∀ p ∈ osg T ov xs, p ∈ G) : rdS (M.add G) sz (oad ov) n xs := by
 cases ov with
 | none =>
  obtain ⟨rfl, rfl⟩ := ae
  exact .inl ⟨by simp, rfl⟩
 | some p =>
  obtain ⟨b, cap, sp⟩ := p
  obtain ⟨h1, h2, h3, h4⟩ := ae
  refine .inr ⟨b, 0, rfl, (xs ++ sp).toArray, T, (0, 0), .inr (hM _ (by simp [osg])), ?_, ?_⟩
  ·simp at h2 ⊢; omega
  ·simp [← h1]
def cat {α : Type} : List (List α) → List α
 | [] => []
 | [x] => x
 | x :: y :: l => x ++ cat (y :: l)
theorem Vs {α : Type} (x : List α) : ∀ l : List (List α), cat (x :: l) = x ++ cat l
 | [] => by simp [cat]
 | _ :: _ => rfl
theorem Cc {α : Type} : ∀ (l : List (List α)) (i : Nat) (h : i < l.length), (cat l).Perm (l[i] ++ cat (l.eraseIdx i))
 | x :: l, 0, _ => by simp [Vs]
 | x :: l, i + 1, h => by
  have := Cc l i (by simpa using h)
  simp only [Vs, List.getElem_cons_succ, List.eraseIdx_cons_succ]
  refine (List.Perm.append_left x this).trans ?_
  rw [← List.append_assoc, ← List.append_assoc]
  exact List.Perm.append_right _ List.perm_append_comm
theorem Dw {α : Type} : cat ([] : List (List α)) = [] := rfl
theorem Dx {α : Type} (x : List α) : cat [x] = x := rfl
theorem Dy {α : Type} (x y : List α) (l : List (List α)) : cat (x :: y :: l) = x ++ cat (y :: l) := rfl
theorem Qh.mk {c want : Bool} {A : (Bool → Prop) → Prop} {K : Bool → Prop} (e : Bool) (h : c = want → A fun u => u = e) (hk : K (if want then c && e else c || e)) : Qh c want A K := ⟨e, h, hk⟩
theorem A0.intro {c want : Bool} {M : Aa} {G : Own} {A : (Bool → Aa → Own → Prop) → Prop} {K : Bool → Aa → Own → Prop} (h : c = want → A K) (h2 : c ≠ want → K c M G) : A0 c want M G A K := ⟨h, h2⟩
theorem A8 {G G' : Own} (h : G.Sublist G') : ∀ p, p ∈ G → p ∈ G' := fun _ hp => h.subset hp
theorem Yu {ρ : Env} {t : Nat} {x y : Int} (h : get ρ t = some (.int .i64 (IntKind.i64.wrap x))) (e : x = y) (h1 : -9223372036854775808 ≤ y) (h2 : y < 9223372036854775808) : get ρ t = some (.int .i64 y) := by
 subst e; rw [h, w64 h1 h2]
class At (G : Own) (b : Nat) (T : outParam TypeId) (cs : outParam (List Value)) : Prop where
 mem : (b, Cl T cs) ∈ G
instance At.here {G : Own} {b : Nat} {T : TypeId} {cs : List Value} : At ((b, Cl T cs) :: G) b T cs := ⟨List.mem_cons_self ..⟩
instance (priority := low) At.there {G : Own} {p : Nat × Obj} {b : Nat} {T : TypeId} {cs : List Value} [h : At G b T cs] : At (p :: G) b T cs := ⟨List.mem_cons_of_mem _ h.mem⟩
class Split (G : Own) (b : Nat) (T : outParam TypeId) (cs : outParam (List Value)) (Ga Gb : outParam Own) : Prop where
 eq : G = Ga ++ (b, Cl T cs) :: Gb
instance Split.here {G : Own} {b : Nat} {T : TypeId} {cs : List Value} : Split ((b, Cl T cs) :: G) b T cs [] G := ⟨rfl⟩
instance (priority := low) Split.there {G : Own} {p : Nat × Obj} {b : Nat} {T : TypeId} {cs : List Value} {Ga Gb : Own} [h : Split G b T cs Ga Gb] : Split (p :: G) b T cs (p :: Ga) Gb := ⟨by rw [h.eq]; rfl⟩
theorem xr {M : Aa} {G : Own} {b off n : Nat} {T : TypeId} {cs out : List Value} {K : List Value → Prop} [h : At G b T cs] (e : (cs.drop off).take n = out) (hl : off + n ≤ cs.length) (k : K out) : ∃ cs, rd (M.add G) b off n cs ∧ K cs := ⟨out, Bv h.mem e hl, k⟩
theorem xi {M : Aa} {G : Own} {b off : Nat} {T : TypeId} {cs : List Value} {α : Type} {f : α → Value} {x : α} {K : α → Prop} [h : At G b T cs] (e : (cs.drop off).take 1 = [f x]) (hl : off + 1 ≤ cs.length) (k : K x) : ∃ n, rd (M.add G) b off 1 [f n] ∧ K n := ⟨x, Bv h.mem e hl, k⟩
theorem xs {M : Aa} {G : Own} {b off : Nat} {T : TypeId} {cs : List Value} {a : Option Addr} {n c : Nat} {K : Option Addr → Nat → Nat → Prop} [h : At G b T cs] (e : (cs.drop off).take 1 = [.slice a n c]) (hl : off + 1 ≤ cs.length) (k : K a n c) : ∃ a n c, rd (M.add G) b off 1 [.slice a n c] ∧ K a n c := ⟨a, n, c, Bv h.mem e hl, k⟩
theorem xw {G Ga Gb : Own} {b : Nat} {T : TypeId} {cs : List Value} {K : TypeId → List Value → Own → Own → Prop} [h : Split G b T cs Ga Gb] (k : K T cs Ga Gb) : ∃ T cs Ga Gb, G = Ga ++ (b, Cl T cs) :: Gb ∧ K T cs Ga Gb := ⟨T, cs, Ga, Gb, h.eq, k⟩
theorem nx {A B : Prop} (h : B) (e : A = B := by simp only [wpS, wpA, Ka, push_cast, Int.cast_ofNat_Int, reduceIte, Nat.reduceEqDiff, reduceCtorEq, Nat.reduceAdd, Nat.reduceSub, Nat.reduceMul, Int.reduceToNat, Nat.reduceLeDiff]; exact rfl) : A := Eq.mpr e h
theorem nz {A B : Prop} (h : B) (e : A = B := by simp only [push_cast, Int.cast_ofNat_Int, reduceIte, Nat.reduceEqDiff, reduceCtorEq, Nat.reduceAdd, Nat.reduceSub, Nat.reduceMul, Int.reduceToNat, Nat.reduceLeDiff]; exact rfl) : A := Eq.mpr e h
theorem Ah {A B : Prop} (h : A) (e : A → False := by intro h; first | exact h | exact h True.intro | omega | (simp only [not_true_eq_false, false_or, or_false] at h; omega)) : B := (e h).elim
theorem EV.condX {C : Cx P} {V : List Nat} {k : List RItem} {ρ : Env} {M : Aa} {G : Own} {c : A} {b : Bool} {x y : RCode} {p q : Prop} (hc : ev ρ c = some (.bool b)) (h1 : p → EV C V (.code x :: k) ρ M G) (h2 : q → EV C V (.code y :: k) ρ M G)
  (e1 : (b = true) = p := by first | (simp only [reduceCtorEq, reduceIte, if_true, if_false, Bool.not_eq_true', Bool.not_eq_false', decide_eq_true_eq, decide_eq_false_iff_not, Bool.and_eq_true, Bool.or_eq_true, Bool.and_eq_false_iff, Bool.or_eq_false_iff, false_and, and_false, true_and, and_true, false_or, or_false, true_or, or_true]; exact rfl) | exact rfl)
  (e2 : (b = false) = q := by first | (simp only [reduceCtorEq, reduceIte, if_true, if_false, Bool.not_eq_true', Bool.not_eq_false', decide_eq_true_eq, decide_eq_false_iff_not, Bool.and_eq_true, Bool.or_eq_true, Bool.and_eq_false_iff, Bool.or_eq_false_iff, false_and, and_false, true_and, and_true, false_or, or_false, true_or, or_true]; exact rfl) | exact rfl) : EV C V (.code (.cond c x y) :: k) ρ M G :=
 EV.cond hc (fun h => h1 (e1 ▸ h)) (fun h => h2 (e2 ▸ h))
theorem xrA {M : Aa} {G : Own} {b off n : Nat} {T : TypeId} {cs out : List Value} {K : List Value → Prop} [h : At G b T cs] (e : (cs.drop off).take n = out) (k : K out) (hl : off + n ≤ cs.length := by simp only [List.length_cons, List.length_nil]; omega) : ∃ cs, rd (M.add G) b off n cs ∧ K cs := xr e hl k
theorem xiA {M : Aa} {G : Own} {b off : Nat} {T : TypeId} {cs : List Value} {α : Type} {f : α → Value} {x : α} {K : α → Prop} [h : At G b T cs] (e : (cs.drop off).take 1 = [f x]) (k : K x) (hl : off + 1 ≤ cs.length := by simp only [List.length_cons, List.length_nil]; omega) : ∃ n, rd (M.add G) b off 1 [f n] ∧ K n := xi e hl k
theorem xsA {M : Aa} {G : Own} {b off : Nat} {T : TypeId} {cs : List Value} {a : Option Addr} {n c : Nat} {K : Option Addr → Nat → Nat → Prop} [h : At G b T cs] (e : (cs.drop off).take 1 = [.slice a n c]) (k : K a n c) (hl : off + 1 ≤ cs.length := by simp only [List.length_cons, List.length_nil]; omega) : ∃ a n c, rd (M.add G) b off 1 [.slice a n c] ∧ K a n c := xs e hl k
end Go.EV

namespace Go.EV
def Qq (A B : Prop) : Prop := A = B
theorem qqr {A : Prop} : Qq A A := rfl
theorem rg {P : Program} {C : Cx P} {V : List Nat} {k : List RItem} {ρ : Env} {M : Aa} {G : Own} {sts : Sts} {B : Prop} (h : B) (e : Qq (wpS C sts (T3 V ρ) M G (fun ρ' M' G' => EV C V k ρ' M' G')) B := by (conv => (arg 1; arg 2; whnf)); simp only [wpS, wpA, Ka, push_cast, Int.cast_ofNat_Int, reduceIte, Nat.reduceEqDiff, reduceCtorEq, Nat.reduceAdd, Nat.reduceSub, Nat.reduceMul, Int.reduceToNat, Nat.reduceLeDiff]; exact qqr) : EV C V (.code (.reg sts) :: k) ρ M G := EV.reg (Eq.mpr e h)
theorem rt {P : Program} {f : Nat} {Q : List Nat} {w0 : World} {F : List Nat} {M0 : Aa} {k : List RItem} {ρ : Env} {M : Aa} {G : Own} {Φ : Value → Aa → Own → Prop} {R : RFun} {B : Prop} {V : List Nat} (hR : Ai P V Q f = some R) (h : B) (e : Qq (Aw0 R ρ M G Φ) B := by (conv => (arg 1; arg 1; whnf)); simp only [wpS, wpA, Ka, push_cast, Int.cast_ofNat_Int, reduceIte, Nat.reduceEqDiff, reduceCtorEq, Nat.reduceAdd, Nat.reduceSub, Nat.reduceMul, Int.reduceToNat, Nat.reduceLeDiff]; exact qqr) : EV (Cx.fn P f R.nt w0 F M0 Φ) R.V (.code .ret :: k) ρ M G := EV.ret hR (Eq.mpr e h)
theorem cX {P : Program} {C : Cx P} {V : List Nat} {k : List RItem} {ρ : Env} {M : Aa} {G : Own} {c : A} {b : Bool} {x y : RCode} {p q : Prop} (h1 : p → EV C V (.code x :: k) ρ M G) (h2 : q → EV C V (.code y :: k) ρ M G) (hc : ev ρ c = some (.bool b) := by rfl)
 (e1 : (b = true) = p := by first | (simp only [reduceCtorEq, reduceIte, if_true, if_false, Bool.not_eq_true', Bool.not_eq_false', decide_eq_true_eq, decide_eq_false_iff_not, Bool.and_eq_true, Bool.or_eq_true, Bool.and_eq_false_iff, Bool.or_eq_false_iff, false_and, and_false, true_and, and_true, false_or, or_false, true_or, or_true]; exact rfl) | exact rfl)
 (e2 : (b = false) = q := by first | (simp only [reduceCtorEq, reduceIte, if_true, if_false, Bool.not_eq_true', Bool.not_eq_false', decide_eq_true_eq, decide_eq_false_iff_not, Bool.and_eq_true, Bool.or_eq_true, Bool.and_eq_false_iff, Bool.or_eq_false_iff, false_and, and_false, true_and, and_true, false_or, or_false, true_or, or_true]; exact rfl) | exact rfl) : EV C V (.code (.cond c x y) :: k) ρ M G :=
 EV.cond hc (fun h => h1 (e1 ▸ h)) (fun h => h2 (e2 ▸ h))
theorem xm {α : Type} {M : Aa} {G : Own} {b o m : Nat} {f : α → List Value} {x : α} {K : α → Prop} (k : K x) (h : rd M b o m (f x) := by assumption) : ∃ n, rd (M.add G) b o m (f n) ∧ K n := ⟨x, Ak1 h, k⟩
theorem xn {M : Aa} {G : Own} {b o m n c : Nat} {a : Option Addr} {K : Option Addr → Nat → Nat → Prop} (k : K a n c) (h : rd M b o m [.slice a n c] := by assumption) : ∃ a n c, rd (M.add G) b o m [.slice a n c] ∧ K a n c := ⟨a, n, c, Ak1 h, k⟩
attribute [push_cast] Int.cast_ofNat_Int
theorem eE {P : Prop} (h : P := by (repeat' first | (refine List.forall_mem_cons.2 (And.intro ?_ ?_)) | (intro _ b8; cases b8; done) | rfl | (refine Yu rfl (by first | rfl | (push_cast; first | rfl | omega)) (by omega) (by omega); done))) : P := h
theorem eS {P : Prop} (h : P := by (repeat' first | exact List.Sublist.refl _ | exact List.nil_sublist _ | exact List.sublist_append_left _ _ | refine List.Sublist.cons_cons _ ?_ | refine List.Sublist.append_left ?_ _ | refine List.sublist_append_of_sublist_right ?_ | refine List.Sublist.cons _ ?_)) : P := h
end Go.EV

namespace Go.EV
open Go.Proofs

abbrev zA (d : Nat) (r : ROp) (k : Sts) : Sts := .op (some d) r k
abbrev zB (d n : Nat) (k : Sts) : Sts := .op (some d) (.mv (.t n)) k
abbrev zC (i d : Nat) (r : ROp) (k : QL) : QL := .op i (some d) r k
abbrev zD (i d n : Nat) (k : QL) : QL := .op i (some d) (.mv (.t n)) k
abbrev zE (i d : Nat) (r : ROp) (re : Bool) (k m : AT) : AT := .s i (some d) r re k m
abbrev zF (k : AT) : AT := .q .nil k
abbrev zG (d : Nat) (n : Int) (k : Sts) : Sts := .op (some d) (.mv (.c (.int .i64 n))) k
abbrev zH (k n d : Nat) : ROp := .iaddrS k (.t n) (.t d)
abbrev zI (k n : Nat) : ROp := .faddr k (.t n)
abbrev zJ (n : Nat) : ROp := .loadI .i64 (.t n)
abbrev zK (n : Nat) : ROp := .loadS (.t n)
abbrev zL (i d : Nat) (k : AT) : AT := .sk i (some d) k
abbrev zM (n : Nat) : ROp := .len (.t n)
abbrev zN (n : Nat) : A := .c (.int .i64 n)

def Cu3 : Sts := zA 1 (.box 58 (.t 0))<|zA 2 (.mv (.c (.bool false)))<|.nil
def Ax0 : AT := .q (zC 0 13 (zI 0 1)<|zC 1 14 (.loadA 1 (.t 13))<|zC 2 15 (zI 1 1)<|zC 3 16 (.loadA 4 (.t 15))<|zC 4 17 (zI 5 1)<|zC 5 18 (zJ 17)<|zC 6 19 (zI 6 1)<|zC 7 20 (zJ 19)<|.nil)<|zE 8 3 (.alloc 24 [(.slice none 0 0)]) false (zF<|zE 9 4 (.alloc 45 [(.slice none 0 0), (.slice none 0 0), (.slice none 0 0), (.slice none 0 0)]) false (zF<|.s 10 none (.store 1 (.t 3) (.t 14)) false (zF<|.s 11 none (.store 4 (.t 4) (.t 16)) false (.q (zD 12 5 18<|zD 13 6 20<|.nil)<|.fin)<|.no)<|.no)<|.no)<|zE 9 4 (.alloc 45 [(.slice none 0 0), (.slice none 0 0), (.slice none 0 0), (.slice none 0 0)]) false (zF<|zE 8 3 (.alloc 24 [(.slice none 0 0)]) false (zF<|.s 10 none (.store 1 (.t 3) (.t 14)) false (zF<|.s 11 none (.store 4 (.t 4) (.t 16)) false (.q (zD 12 5 18<|zD 13 6 20<|.nil)<|.fin)<|.no)<|.no)<|.no)<|.no
def Cu4 : Sts := zA 21 (.call 10 [])<|zA 22 (.notb (.t 21))<|.nil
def Cu5 : Sts := zA 2 (.mv (.c (.bool false)))<|.nil
def Cu6 : Sts := zA 24 (.loadA 1 (.t 3))<|zA 25 (.loadA 4 (.t 4))<|zA 26 (.call 26 [(.t 24), (.t 25)])<|zB 23 26<|zA 27 (.extract 0 (.t 23))<|zA 28 (.extract 1 (.t 23))<|zB 7 27<|zB 8 28<|.nil
def Cu7 : Sts := zA 30 (.loadA 1 (.t 3))<|zA 31 (.loadA 4 (.t 4))<|zB 32 5<|zB 33 6<|zA 34 (.call 27 [(.t 30), (.t 31), (.t 32), (.t 33)])<|zB 29 34<|zA 35 (.extract 0 (.t 29))<|zA 36 (.extract 1 (.t 29))<|zB 9 35<|zB 10 36<|.nil
def Cu8 : Sts := zA 37 (.loadA 1 (.t 3))<|zA 38 (.call 13 [(.t 37)])<|zB 11 38<|.nil
def Cu9 : Sts := zB 39 11<|zA 40 (.bin .neq (.t 39) (zN 0))<|.nil
def Cv0 : Sts := zB 41 7<|zA 42 (zM 41)<|zA 43 (.bin .eql (.t 42) (zN 0))<|zB 44 43<|.cnd 44 true (zB 45 8<|zB 46 11<|zA 47 (.bin .eql (.t 45) (.t 46))<|.nil) 48 (.t 47)<|zB 49 48<|.cnd 49 true (zB 50 9<|zA 51 (.notb (.t 50))<|.nil) 52 (.t 51)<|zB 53 52<|.cnd 53 true (zB 54 10<|zB 55 11<|zA 56 (.bin .eql (.t 54) (.t 55))<|.nil) 57 (.t 56)<|zB 2 57<|.nil
def Cv1 : Sts := zA 58 (.loadA 1 (.t 3))<|zA 59 (.loadA 4 (.t 4))<|zA 60 (.call 19 [(.t 58), (.t 59)])<|zA 61 (.bin .neq (.t 60) (zN 0))<|.nil
def Ax1 : Sts := zB 62 7<|zA 63 (zM 62)<|zA 64 (.bin .eql (.t 63) (zN 0))<|zB 65 64<|.cnd 65 true (zB 66 8<|zA 67 (.bin .eql (.t 66) (zN 1))<|.nil) 68 (.t 67)<|zB 69 68<|.cnd 69 true (zB 70 9<|zA 71 (.notb (.t 70))<|.nil) 72 (.t 71)<|zB 73 72<|.cnd 73 true (zB 74 10<|zA 75 (.bin .eql (.t 74) (zN 1))<|.nil) 76 (.t 75)<|zB 2 76<|.nil
def Ax2 : Sts := zB 77 7<|zA 78 (.loadA 1 (.t 3))<|zA 79 (.loadA 4 (.t 4))<|zA 80 (.call 21 [(.t 78), (.t 79)])<|zA 81 (.call 20 [(.t 77), (.t 80)])<|zA 82 (.notb (.t 81))<|zB 83 82<|.cnd 83 false (zB 84 8<|zA 85 (.bin .neq (.t 84) (zN 0))<|.nil) 86 (.t 85)<|.nil
def Ax3 : Sts := zA 2 (.mv (.c (.bool false)))<|.nil
def Ax4 : Sts := zA 87 (.loadA 1 (.t 3))<|zA 88 (.call 28 [(.t 87)])<|zB 12 88<|.nil
def Ax5 : Sts := zB 89 5<|zA 90 (.bin .lss (.t 89) (zN 0))<|zB 91 90<|.cnd 91 false (zB 92 5<|zB 93 12<|zA 94 (.bin .geq (.t 92) (.t 93))<|.nil) 95 (.t 94)<|zB 96 95<|.cnd 96 false (zB 97 6<|zA 98 (.bin .lss (.t 97) (zN 0))<|.nil) 99 (.t 98)<|zB 100 99<|.cnd 100 false (zB 101 6<|zB 102 12<|zA 103 (.bin .geq (.t 101) (.t 102))<|.nil) 104 (.t 103)<|.nil
def Ax6 : Sts := zB 105 9<|zA 106 (.notb (.t 105))<|zB 107 106<|.cnd 107 true (zB 108 10<|zA 109 (.bin .eql (.t 108) (zN 1))<|.nil) 110 (.t 109)<|zB 2 110<|.nil
def Ax7 : Sts := zB 111 9<|zA 112 (.loadA 1 (.t 3))<|zA 113 (.loadA 4 (.t 4))<|zB 114 5<|zB 115 6<|zA 116 (.call 29 [(.t 112), (.t 113), (.t 114), (.t 115)])<|zA 117 (.eqb false (.t 111) (.t 116))<|zB 118 117<|.cnd 118 true (zB 119 10<|zA 120 (.bin .eql (.t 119) (zN 0))<|.nil) 121 (.t 120)<|zB 2 121<|.nil
def Q59 : RFun := ⟨122, [0, 1, 2, 3, 4, 5, 6, 7, 8, 9, 10, 11, 12], (.seq (.reg Cu3) (.seq (.any Ax0) (.seq (.seq (.reg Cu4) (.cond (.t 22) (.seq (.reg Cu5) .ret) .skip)) (.seq (.reg Cu6) (.seq (.reg Cu7) (.seq (.seq (.reg Cu8) (.seq (.reg Cu9) (.cond (.t 40) (.seq (.reg Cv0) .ret) .skip))) (.seq (.seq (.reg Cv1) (.cond (.t 61) (.seq (.reg Ax1) .ret) .skip)) (.seq (.seq (.reg Ax2) (.cond (.t 86) (.seq (.reg Ax3) .ret) .skip)) (.seq (.reg Ax4) (.seq (.seq (.reg Ax5) (.cond (.t 104) (.seq (.reg Ax6) .ret) .skip)) (.seq (.reg Ax7) .ret))))))))))), [.tmp 2]⟩
theorem Q59_ok : Ai Tryz.prog [0, 1, 2, 3, 4, 5, 6, 7, 8, 9, 10, 11, 12] [15, 20, 31, 71, 88, 41, 76, 86, 65, 83, 81, 114, 117, 119, 122, 68, 100, 103, 104, 105, 137, 138, 64, 72, 96, 99, 158, 159, 132, 56, 93, 94, 130, 131, 155, 62, 23, 170] 7 = some Q59 := by kernel_rfl

def Cv2 : Sts := zA 0 (.mv (.c (.bool false)))<|.nil
def Cv3 : Sts := zA 4 (.call 32 [])<|zA 5 (.call 11 [(.t 4)])<|zB 3 5<|zA 6 (.extract 0 (.t 3))<|zA 7 (.extract 1 (.t 3))<|zB 1 6<|zB 2 7<|.nil
def Cv4 : Sts := zB 8 1<|zA 9 (zM 8)<|zA 10 (.bin .eql (.t 9) (zN 4))<|zB 11 10<|.cnd 11 true (zB 12 1<|zA 13 (.iaddrS 1 (.t 12) (zN 0))<|zA 14 (zK 13)<|zA 15 (.buildSl 3 5 [(.int .i64 0), (.int .i64 0), (.int .i64 0), (.int .i64 0), (.int .i64 0)] [(0, 1, (zN 0)), (1, 1, (zN 0)), (2, 1, (zN 1)), (3, 1, (zN 1)), (4, 1, (zN 0))])<|zA 16 (.call 20 [(.t 14), (.t 15)])<|.nil) 17 (.t 16)<|zB 18 17<|.cnd 18 true (zB 19 2<|zA 20 (.bin .eql (.t 19) (zN 0))<|.nil) 21 (.t 20)<|zB 0 21<|.nil
def Q60 : RFun := ⟨22, [0, 1, 2], (.seq (.reg Cv2) (.seq (.reg Cv3) (.seq (.reg Cv4) .ret))), [.tmp 0]⟩
theorem Q60_ok : Ai Tryz.prog [0, 1, 2] [15, 20, 31, 71, 88, 41, 76, 86, 65, 83, 81, 114, 117, 119, 122, 68, 100, 103, 104, 105, 137, 138, 64, 72, 96, 99, 158, 159, 132, 56, 93, 94, 130, 131, 155, 62, 23, 170] 10 = some Q60 := by kernel_rfl

def Ez2 : Sts := zA 1 (.box 24 (.t 0))<|zA 2 (.mv (.c (.slice none 0 0)))<|zG 3 0<|.nil
def Ez3 : Sts := zA 9 (.loadA 1 (.t 1))<|zA 10 (.call 33 [(.t 9)])<|zB 8 10<|zA 11 (.extract 0 (.t 8))<|zA 12 (.extract 1 (.t 8))<|zA 4 (.alloc 74 [(.slice none 0 0)])<|.op none (.store 1 (.t 4) (.t 11))<|zB 5 12<|.nil
def Ez4 : Sts := zB 13 5<|zA 14 (.bin .neq (.t 13) (zN 0))<|.nil
def Ez5 : Sts := zB 15 5<|zA 2 (.mv (.c (.slice none 0 0)))<|zB 3 15<|.nil
def Ez6 : Sts := zA 6 (.alloc 26 [(.slice none 0 0)])<|.nil
def Ez7 : Sts := zA 16 (zK 4)<|zA 17 (.call 34 [(.t 16)])<|.nil
def Ez8 : Sts := zA 7 (.alloc 45 [(.slice none 0 0), (.slice none 0 0), (.slice none 0 0), (.slice none 0 0)])<|.op none (.store 4 (.t 7) (.t 18))<|.nil
def Ey8 : AT := .q (zC 0 19 (zK 6)<|zC 1 20 (zK 4)<|zC 2 21 (.loadA 4 (.t 7))<|.nil)<|zE 3 22 (.call 35 [(.t 20), (.t 21)]) false (zF<|zE 4 23 (.buildSl 34 1 [(.slice none 0 0)] [(0, 1, (.t 22))]) false (zF<|zE 5 24 (.append 34 1 24 [(.slice none 0 0)] (.t 19) (.t 23)) true (zF<|.s 6 none (.store 1 (.t 6) (.t 24)) true (zF<|.fin)<|.no)<|.no)<|.no)<|.no
def Ez9 : Sts := zA 25 (zK 6)<|zA 26 (zM 25)<|zA 27 (.bin .gtr (.t 26) (zN 4096))<|.nil
def Fa0 : Sts := zA 28 (zK 6)<|zA 29 (.call 36 [(.t 28)])<|.op none (.store 1 (.t 6) (.t 29))<|.nil
def Ii : RCode := (.reg Ez8)
def Ij : RCode := (.block 1 (.seq (.any Ey8) (.seq (.reg Ez9) (.cond (.t 27) (.reg Fa0) .skip))))
def Cv5 : Sts := zA 30 (zK 6)<|zA 31 (.call 36 [(.t 30)])<|zB 2 31<|zG 3 0<|.nil
def Q3 : RFun := ⟨32, [0, 1, 2, 3, 4, 5, 6, 7, 17, 18], (.seq (.reg Ez2) (.seq (.reg Ez3) (.seq (.seq (.reg Ez4) (.cond (.t 14) (.seq (.reg Ez5) .ret) .skip)) (.seq (.reg Ez6) (.seq (.seq (.reg Ez7) (.block 0 (.rangeF (.t 17) [18] Ii Ij))) (.seq (.reg Cv5) .ret)))))), [.tmp 2, .tmp 3]⟩
theorem Q3_ok : Ai Tryz.prog [0, 1, 2, 3, 4, 5, 6, 7, 17, 18] [15, 20, 31, 71, 88, 41, 76, 86, 65, 83, 81, 114, 117, 119, 122, 68, 100, 103, 104, 105, 137, 138, 64, 72, 96, 99, 158, 159, 132, 56, 93, 94, 130, 131, 155, 62, 23, 170] 11 = some Q3 := by kernel_rfl

def Cv6 : Sts := zA 1 (.box 24 (.t 0))<|zG 2 0<|.nil
def Cv7 : Sts := zG 3 0<|.nil
def Cv8 : Sts := zG 4 0<|.nil
def Cv9 : Sts := zA 11 (.makeSl 3 1 8 [(.int .i64 0)] (zN 3) (zN 3))<|zB 5 11<|.nil
def Cw0 : Sts := zA 12 (zI 0 1)<|zA 13 (zK 12)<|zA 14 (zM 13)<|zA 15 (.bin .gtr (.t 14) (zN 0))<|zB 6 15<|.nil
def Cw1 : Sts := zG 7 0<|.nil
def Cw2 : Sts := zB 16 7<|zA 17 (zI 0 1)<|zA 18 (zK 17)<|zA 19 (zM 18)<|zA 20 (.bin .lss (.t 16) (.t 19))<|.nil
def Cw3 : Sts := zG 8 0<|.nil
def Cw4 : Sts := zB 23 8<|zA 24 (zI 0 1)<|zA 25 (zK 24)<|zB 26 7<|zA 27 (zH 1 25 26)<|zA 28 (zK 27)<|zA 29 (zM 28)<|zA 30 (.bin .lss (.t 23) (.t 29))<|.nil
def Cw5 : Sts := zA 33 (zI 0 1)<|zA 34 (zK 33)<|zB 35 7<|zA 36 (zH 1 34 35)<|zA 37 (zK 36)<|zB 38 8<|zA 39 (zH 5 37 38)<|zA 40 (.loadA 5 (.t 39))<|zA 9 (.alloc 83 [(.int .i64 0), (.int .i64 0), (.int .i64 0), (.int .i64 0), (.int .i64 0)])<|.op none (.store 5 (.t 9) (.t 40))<|.nil
def Ax8 : Sts := zB 41 6<|zB 42 41<|.cnd 42 true (zA 43 (.loadA 5 (.t 9))<|zA 44 (.call 37 [(.t 43)])<|.nil) 45 (.t 44)<|zB 6 45<|.nil
def Ax9 : Sts := zA 46 (zI 0 9)<|zA 47 (zJ 46)<|zA 48 (.bin .eql (.t 47) (zN 5))<|.nil
def Ay0 : Sts := zB 49 4<|zA 50 (.bin .add (.t 49) (zN 1))<|zB 4 50<|.nil
def Ay1 : Sts := zA 51 (.loadA 5 (.t 9))<|zA 52 (.call 38 [(.t 51)])<|zA 53 (.notb (.t 52))<|.nil
def Ay2 : Sts := zB 54 3<|zA 55 (.bin .add (.t 54) (zN 1))<|zB 3 55<|.nil
def Ay3 : Sts := zA 56 (zI 4 9)<|zA 57 (zJ 56)<|zA 58 (.bin .eql (.t 57) (zN 4))<|.nil
def Ay4 : Sts := zB 59 4<|zA 60 (.bin .add (.t 59) (zN 2))<|zB 4 60<|.nil
def Ay5 : Sts := zA 61 (zI 0 9)<|zA 62 (zJ 61)<|zA 63 (.bin .gtr (.t 62) (zN 0))<|zB 64 63<|.cnd 64 true (zA 65 (zI 1 9)<|zA 66 (zJ 65)<|zA 67 (.bin .geq (.t 66) (zN 0))<|.nil) 68 (.t 67)<|zB 69 68<|.cnd 69 true (zA 70 (zI 1 9)<|zA 71 (zJ 70)<|zA 72 (.bin .lss (.t 71) (zN 3))<|.nil) 73 (.t 72)<|.nil
def Ay6 : AT := .q (zD 0 74 5<|zC 1 75 (zI 1 9)<|zC 2 76 (zJ 75)<|zD 3 77 5<|zC 4 78 (zI 1 9)<|zC 5 79 (zJ 78)<|zC 6 80 (zH 1 77 79)<|zC 7 81 (zJ 80)<|zC 8 82 (.bin .add (.t 81) (zN 1))<|zC 9 83 (zH 1 74 76)<|.nil)<|.s 10 none (.store 1 (.t 83) (.t 82)) true (zF<|.fin)<|.no
def Ay7 : Sts := zB 31 8<|zA 32 (.bin .add (.t 31) (zN 1))<|zB 8 32<|.nil
def Ak2 : RCode := (.seq (.seq (.reg Cw4) (.cond (.t 30) .skip (.exit 2))) (.seq (.block 3 (.seq (.reg Cw5) (.seq (.reg Ax8) (.seq (.seq (.reg Ax9) (.cond (.t 48) (.reg Ay0) .skip)) (.seq (.seq (.reg Ay1) (.cond (.t 53) (.exit 3) .skip)) (.seq (.reg Ay2) (.seq (.seq (.reg Ay3) (.cond (.t 58) (.reg Ay4) .skip)) (.seq (.reg Ay5) (.cond (.t 73) (.any Ay6) .skip))))))))) (.reg Ay7)))
def Ay8 : Sts := zB 21 7<|zA 22 (.bin .add (.t 21) (zN 1))<|zB 7 22<|.nil
def Ak3 : RCode := (.seq (.seq (.reg Cw2) (.cond (.t 20) .skip (.exit 0))) (.seq (.block 1 (.seq (.reg Cw3) (.block 2 (.loop Ak2)))) (.reg Ay8)))
def Ay9 : Sts := zA 84 (zI 0 1)<|zA 85 (zK 84)<|zA 86 (zM 85)<|zA 87 (.bin .gtr (.t 86) (zN 3))<|zB 88 87<|.cnd 88 false (zB 89 3<|zA 90 (.bin .gtr (.t 89) (zN 6))<|.nil) 91 (.t 90)<|zB 92 91<|.cnd 92 false (zB 93 4<|zA 94 (.bin .gtr (.t 93) (zN 8))<|.nil) 95 (.t 94)<|.nil
def Az0 : Sts := zG 2 2<|.nil
def Az1 : Sts := zG 10 0<|.nil
def Az2 : Sts := zB 96 10<|zB 97 5<|zA 98 (zM 97)<|zA 99 (.bin .lss (.t 96) (.t 98))<|.nil
def Az3 : Sts := zB 102 5<|zB 103 10<|zA 104 (zH 1 102 103)<|zA 105 (zJ 104)<|zA 106 (.bin .gtr (.t 105) (zN 4))<|.nil
def Az4 : Sts := zG 2 2<|.nil
def Az5 : Sts := zB 100 10<|zA 101 (.bin .add (.t 100) (zN 1))<|zB 10 101<|.nil
def Ak4 : RCode := (.seq (.seq (.reg Az2) (.cond (.t 99) .skip (.exit 4))) (.seq (.block 5 (.seq (.reg Az3) (.cond (.t 106) (.seq (.reg Az4) .ret) .skip))) (.reg Az5)))
def Az6 : Sts := zB 107 6<|zA 108 (.notb (.t 107))<|.nil
def Az7 : Sts := zG 2 1<|.nil
def Az8 : Sts := zG 2 0<|.nil
def Q66 : RFun := ⟨109, [0, 1, 2, 3, 4, 5, 6, 7, 8, 9, 10], (.seq (.reg Cv6) (.seq (.reg Cv7) (.seq (.reg Cv8) (.seq (.reg Cv9) (.seq (.reg Cw0) (.seq (.seq (.reg Cw1) (.block 0 (.loop Ak3))) (.seq (.seq (.reg Ay9) (.cond (.t 95) (.seq (.reg Az0) .ret) .skip)) (.seq (.seq (.reg Az1) (.block 4 (.loop Ak4))) (.seq (.seq (.reg Az6) (.cond (.t 108) (.seq (.reg Az7) .ret) .skip)) (.seq (.reg Az8) .ret)))))))))), [.tmp 2]⟩
theorem Q66_ok : Ai Tryz.prog [0, 1, 2, 3, 4, 5, 6, 7, 8, 9, 10] [15, 20, 31, 71, 88, 41, 76, 86, 65, 83, 81, 114, 117, 119, 122, 68, 100, 103, 104, 105, 137, 138, 64, 72, 96, 99, 158, 159, 132, 56, 93, 94, 130, 131, 155, 62, 23, 170] 13 = some Q66 := by kernel_rfl

def Cw6 : Sts := zA 2 (.box 24 (.t 0))<|zA 3 (.box 37 (.t 1))<|zG 4 0<|.nil
def Cw7 : Sts := zA 12 (.loadA 1 (.t 2))<|zA 13 (.call 39 [(.t 12)])<|zB 5 13<|.nil
def Cw8 : Sts := zB 14 5<|zA 15 (.loadA 4 (.t 3))<|zA 16 (.call 42 [(.t 14), (.t 15)])<|zA 17 (.notb (.t 16))<|.nil
def Cw9 : Sts := zG 4 1<|.nil
def Cx0 : Sts := zB 19 5<|zA 20 (.loadA 4 (.t 3))<|zA 21 (.call 43 [(.t 19), (.t 20)])<|zB 18 21<|zA 22 (.extract 0 (.t 18))<|zA 23 (.extract 1 (.t 18))<|zA 24 (.extract 2 (.t 18))<|zB 6 22<|zB 7 23<|zB 8 24<|.nil
def Cx1 : Sts := zB 25 5<|zA 26 (.loadA 4 (.t 3))<|zB 27 6<|zB 28 8<|zA 29 (.call 44 [(.t 25), (.t 26), (.t 27), (.t 28)])<|zA 30 (.notb (.t 29))<|.nil
def Cx2 : Sts := zG 4 1<|.nil
def Cx3 : Sts := zB 32 5<|zA 33 (.loadA 4 (.t 3))<|zA 34 (.call 45 [(.t 32), (.t 33)])<|zB 31 34<|zA 35 (.extract 0 (.t 31))<|zA 36 (.extract 1 (.t 31))<|zA 37 (.extract 2 (.t 31))<|zB 9 35<|zB 10 36<|zB 11 37<|.nil
def Cx4 : Sts := zB 38 11<|zA 39 (.notb (.t 38))<|.nil
def Cx5 : Sts := zG 4 2<|.nil
def Af8 : AT := .q (zD 0 40 5<|zD 2 42 5<|zC 3 43 (.loadA 4 (.t 3))<|zC 5 45 (.loadA 4 (.t 3))<|.nil)<|zE 1 41 (.call 49 [(.t 40)]) false (zF<|zE 4 44 (.call 50 [(.t 42), (.t 43)]) false (zF<|zE 6 46 (.call 51 [(.t 45)]) true (zF<|zE 7 47 (.call 48 [(.t 44), (.t 46)]) true (zF<|zE 8 48 (.call 48 [(.t 41), (.t 47)]) true (zF<|zE 9 49 (.call 47 [(.t 48)]) true (zF<|zE 10 50 (.call 46 [(.t 49)]) true (zF<|.fin)<|.no)<|.no)<|.no)<|.no)<|.no)<|.no)<|.no
def Az9 : Sts := zG 4 2<|.nil
def Af9 : AT := .q (zD 0 51 5<|zC 1 52 (.loadA 4 (.t 3))<|zD 3 54 5<|zC 4 55 (.loadA 4 (.t 3))<|.nil)<|zE 2 53 (.call 53 [(.t 51), (.t 52)]) false (zF<|zE 5 56 (.call 54 [(.t 54), (.t 55)]) true (zF<|zE 6 57 (.call 52 [(.t 53), (.t 56)]) true (zF<|.fin)<|.no)<|.no)<|.no
def Ba0 : Sts := zG 4 3<|.nil
def Ba1 : Sts := zB 58 5<|zA 59 (.loadA 4 (.t 3))<|zA 60 (.call 55 [(.t 58), (.t 59)])<|zA 61 (.notb (.t 60))<|.nil
def Ba2 : Sts := zG 4 4<|.nil
def Ba3 : Sts := zG 4 0<|.nil
def Q75 : RFun := ⟨62, [0, 1, 2, 3, 4, 5, 6, 8, 11], (.seq (.reg Cw6) (.seq (.reg Cw7) (.seq (.seq (.reg Cw8) (.cond (.t 17) (.seq (.reg Cw9) .ret) .skip)) (.seq (.reg Cx0) (.seq (.seq (.reg Cx1) (.cond (.t 30) (.seq (.reg Cx2) .ret) .skip)) (.seq (.reg Cx3) (.seq (.seq (.reg Cx4) (.cond (.t 39) (.seq (.reg Cx5) .ret) .skip)) (.seq (.seq (.any Af8) (.cond (.t 50) (.seq (.reg Az9) .ret) .skip)) (.seq (.seq (.any Af9) (.cond (.t 57) (.seq (.reg Ba0) .ret) .skip)) (.seq (.seq (.reg Ba1) (.cond (.t 61) (.seq (.reg Ba2) .ret) .skip)) (.seq (.reg Ba3) .ret))))))))))), [.tmp 4]⟩
theorem Q75_ok : Ai Tryz.prog [0, 1, 2, 3, 4, 5, 6, 8, 11] [15, 20, 31, 71, 88, 41, 76, 86, 65, 83, 81, 114, 117, 119, 122, 68, 100, 103, 104, 105, 137, 138, 64, 72, 96, 99, 158, 159, 132, 56, 93, 94, 130, 131, 155, 62, 23, 170] 19 = some Q75 := by kernel_rfl

def Cx6 : Sts := zA 4 (.mv (.c (.bool false)))<|.nil
def Cx7 : Sts := zB 6 0<|zA 7 (zM 6)<|zB 8 1<|zA 9 (zM 8)<|zA 10 (.bin .neq (.t 7) (.t 9))<|.nil
def Cx8 : Sts := zA 4 (.mv (.c (.bool false)))<|.nil
def Cx9 : Sts := zG 5 0<|.nil
def Cy0 : Sts := zB 11 5<|zB 12 0<|zA 13 (zM 12)<|zA 14 (.bin .lss (.t 11) (.t 13))<|.nil
def Cy1 : AT := .q (zD 0 17 0<|zD 1 18 5<|zC 2 19 (zH 1 17 18)<|zC 3 20 (zJ 19)<|zD 4 21 1<|zD 5 22 5<|zC 6 23 (zH 1 21 22)<|zC 7 24 (zJ 23)<|zC 8 25 (.bin .neq (.t 20) (.t 24))<|.nil)<|.fin
def Cy2 : Sts := zA 4 (.mv (.c (.bool false)))<|.nil
def Cy3 : Sts := zB 15 5<|zA 16 (.bin .add (.t 15) (zN 1))<|zB 5 16<|.nil
def Ba4 : RCode := (.seq (.seq (.reg Cy0) (.cond (.t 14) .skip (.exit 0))) (.seq (.block 1 (.seq (.any Cy1) (.cond (.t 25) (.seq (.reg Cy2) .ret) .skip))) (.reg Cy3)))
def Cy4 : Sts := zA 4 (.mv (.c (.bool true)))<|.nil
def Q62 : RFun := ⟨26, [0, 1, 4, 5], (.seq (.reg Cx6) (.seq (.seq (.reg Cx7) (.cond (.t 10) (.seq (.reg Cx8) .ret) .skip)) (.seq (.seq (.reg Cx9) (.block 0 (.loop Ba4))) (.seq (.reg Cy4) .ret)))), [.tmp 4]⟩
theorem Q62_ok : Ai Tryz.prog [0, 1, 4, 5] [15, 20, 31, 71, 88, 41, 76, 86, 65, 83, 81, 114, 117, 119, 122, 68, 100, 103, 104, 105, 137, 138, 64, 72, 96, 99, 158, 159, 132, 56, 93, 94, 130, 131, 155, 62, 23, 170] 20 = some Q62 := by kernel_rfl

def Cy5 : Sts := zA 2 (.box 24 (.t 0))<|zA 3 (.box 37 (.t 1))<|zA 4 (.mv (.c (.slice none 0 0)))<|.nil
def Cy6 : Sts := zA 14 (.loadA 1 (.t 2))<|zA 15 (.call 39 [(.t 14)])<|zB 5 15<|.nil
def Cy7 : Sts := zB 17 5<|zA 18 (.loadA 4 (.t 3))<|zA 19 (.call 45 [(.t 17), (.t 18)])<|zB 16 19<|zA 20 (.extract 0 (.t 16))<|zA 21 (.extract 1 (.t 16))<|zA 22 (.extract 2 (.t 16))<|zB 6 20<|zB 7 21<|zB 8 22<|.nil
def Cy8 : Sts := zA 9 (.mv (.c (.slice none 0 0)))<|.nil
def Cy9 : Sts := zG 10 0<|.nil
def Cz0 : Sts := zB 23 10<|zB 24 5<|zA 25 (zM 24)<|zA 26 (.bin .lss (.t 23) (.t 25))<|.nil
def Cz1 : Sts := zB 29 5<|zB 30 10<|zA 31 (zH 6 29 30)<|zA 32 (zI 1 31)<|zA 33 (.loadA 5 (.t 32))<|zA 34 (.call 56 [(.t 33)])<|.nil
def Cz2 : Sts := zB 35 9<|zB 36 6<|zB 37 10<|zA 38 (zH 1 36 37)<|zA 39 (zJ 38)<|zA 40 (.buildSl 3 1 [(.int .i64 0)] [(0, 1, (.t 39))])<|zA 41 (.append 3 1 8 [(.int .i64 0)] (.t 35) (.t 40))<|zB 9 41<|.nil
def Cz3 : Sts := zB 27 10<|zA 28 (.bin .add (.t 27) (zN 1))<|zB 10 28<|.nil
def Ba5 : RCode := (.seq (.seq (.reg Cz0) (.cond (.t 26) .skip (.exit 0))) (.seq (.block 1 (.seq (.reg Cz1) (.cond (.t 34) (.reg Cz2) .skip))) (.reg Cz3)))
def Cz4 : Sts := zG 11 0<|.nil
def Ba6 : Sts := zB 42 11<|zA 43 (.bin .lss (.t 42) (zN 3))<|.nil
def Ba7 : Sts := zG 12 0<|.nil
def Ba8 : Sts := zA 46 (zI 2 3)<|zA 47 (zK 46)<|zB 48 11<|zA 49 (zH 1 47 48)<|zA 50 (zK 49)<|zA 51 (zM 50)<|zB 13 51<|.nil
def Ba9 : Sts := zB 52 13<|zA 53 (.bin .gtr (.t 52) (zN 0))<|.nil
def Bb0 : Sts := zB 54 7<|zA 55 (zI 2 3)<|zA 56 (zK 55)<|zB 57 11<|zA 58 (zH 1 56 57)<|zA 59 (zK 58)<|zB 60 13<|zA 61 (.bin .sub (.t 60) (zN 1))<|zA 62 (zH 1 59 61)<|zA 63 (zJ 62)<|zA 64 (zH 1 54 63)<|zA 65 (zJ 64)<|zB 12 65<|.nil
def Bb1 : Sts := zB 66 9<|zB 67 12<|zA 68 (.buildSl 3 1 [(.int .i64 0)] [(0, 1, (.t 67))])<|zA 69 (.append 3 1 8 [(.int .i64 0)] (.t 66) (.t 68))<|zB 9 69<|.nil
def Bb2 : Sts := zB 44 11<|zA 45 (.bin .add (.t 44) (zN 1))<|zB 11 45<|.nil
def Ak5 : RCode := (.seq (.seq (.reg Ba6) (.cond (.t 43) .skip (.exit 2))) (.seq (.block 3 (.seq (.reg Ba7) (.seq (.seq (.reg Ba8) (.seq (.reg Ba9) (.cond (.t 53) (.reg Bb0) .skip))) (.reg Bb1)))) (.reg Bb2)))
def Bb3 : Sts := zB 70 9<|zB 4 70<|.nil
def Q76 : RFun := ⟨71, [0, 1, 2, 3, 4, 5, 6, 7, 9, 10, 11, 12, 13], (.seq (.reg Cy5) (.seq (.reg Cy6) (.seq (.reg Cy7) (.seq (.reg Cy8) (.seq (.seq (.reg Cy9) (.block 0 (.loop Ba5))) (.seq (.seq (.reg Cz4) (.block 2 (.loop Ak5))) (.seq (.reg Bb3) .ret))))))), [.tmp 4]⟩
theorem Q76_ok : Ai Tryz.prog [0, 1, 2, 3, 4, 5, 6, 7, 9, 10, 11, 12, 13] [15, 20, 31, 71, 88, 41, 76, 86, 65, 83, 81, 114, 117, 119, 122, 68, 100, 103, 104, 105, 137, 138, 64, 72, 96, 99, 158, 159, 132, 56, 93, 94, 130, 131, 155, 62, 23, 170] 21 = some Q76 := by kernel_rfl

def Cz5 : Sts := zA 1 (.box 24 (.t 0))<|zG 2 0<|.nil
def Cz6 : Sts := zA 9 (.loadA 1 (.t 1))<|zA 10 (.call 63 [(.t 9)])<|zA 11 (.notb (.t 10))<|.nil
def Cz7 : Sts := zG 2 2<|.nil
def Cz8 : Sts := zA 12 (zI 0 1)<|zA 13 (zK 12)<|zA 14 (zM 13)<|zA 15 (.bin .eql (.t 14) (zN 0))<|.nil
def Cz9 : Sts := zG 2 1<|.nil
def Da0 : Sts := zA 16 (zI 0 1)<|zA 17 (zK 16)<|zA 18 (zM 17)<|zG 19 0<|.nil
def Da1 : Sts := zA 20 (.bin .lss (.t 19) (.t 18))<|.nil
def Da2 : Sts := zA 21 (zH 1 17 19)<|zA 22 (zK 21)<|zB 4 22<|.nil
def Da3 : Sts := zB 23 4<|zA 24 (zM 23)<|zG 25 0<|.nil
def Da4 : Sts := zA 26 (.bin .lss (.t 25) (.t 24))<|.nil
def Bb4 : Sts := zA 27 (zH 5 23 25)<|zA 28 (.loadA 5 (.t 27))<|zA 6 (.alloc 83 [(.int .i64 0), (.int .i64 0), (.int .i64 0), (.int .i64 0), (.int .i64 0)])<|.op none (.store 5 (.t 6) (.t 28))<|.nil
def Bb5 : Sts := zA 30 (zI 0 6)<|zA 31 (zJ 30)<|zA 32 (zI 4 6)<|zA 33 (zJ 32)<|zA 34 (.call 64 [(.t 31), (.t 33)])<|zB 29 34<|zA 35 (.extract 0 (.t 29))<|zA 36 (.extract 1 (.t 29))<|zB 7 35<|zB 8 36<|.nil
def Bb6 : Sts := zB 37 8<|zA 38 (.bin .neq (.t 37) (zN 0))<|zB 39 38<|.cnd 39 false (zB 40 7<|zA 41 (.notb (.t 40))<|.nil) 42 (.t 41)<|zB 43 42<|.cnd 43 false (zA 44 (.loadA 5 (.t 6))<|zA 45 (.call 65 [(.t 44)])<|zA 46 (.notb (.t 45))<|.nil) 47 (.t 46)<|.nil
def Bb7 : Sts := zG 2 1<|.nil
def Bb8 : Sts := zA 48 (.bin .add (.t 25) (zN 1))<|zB 25 48<|.nil
def Ak6 : RCode := (.seq (.reg Da4) (.seq (.cond (.t 26) .skip (.exit 2)) (.seq (.block 3 (.seq (.reg Bb4) (.seq (.reg Bb5) (.seq (.reg Bb6) (.cond (.t 47) (.seq (.reg Bb7) .ret) .skip))))) (.reg Bb8))))
def Bb9 : Sts := zA 49 (.bin .add (.t 19) (zN 1))<|zB 19 49<|.nil
def Ak7 : RCode := (.seq (.reg Da1) (.seq (.cond (.t 20) .skip (.exit 0)) (.seq (.block 1 (.seq (.reg Da2) (.seq (.reg Da3) (.block 2 (.loop Ak6))))) (.reg Bb9))))
def Bc0 : Sts := zG 2 0<|.nil
def Q50 : RFun := ⟨50, [0, 1, 2, 4, 6, 7, 8, 17, 18, 19, 23, 24, 25], (.seq (.reg Cz5) (.seq (.seq (.reg Cz6) (.cond (.t 11) (.seq (.reg Cz7) .ret) .skip)) (.seq (.seq (.reg Cz8) (.cond (.t 15) (.seq (.reg Cz9) .ret) .skip)) (.seq (.seq (.reg Da0) (.block 0 (.loop Ak7))) (.seq (.reg Bc0) .ret))))), [.tmp 2]⟩
theorem Q50_ok : Ai Tryz.prog [0, 1, 2, 4, 6, 7, 8, 17, 18, 19, 23, 24, 25] [15, 20, 31, 71, 88, 41, 76, 86, 65, 83, 81, 114, 117, 119, 122, 68, 100, 103, 104, 105, 137, 138, 64, 72, 96, 99, 158, 159, 132, 56, 93, 94, 130, 131, 155, 62, 23, 170] 24 = some Q50 := by kernel_rfl

def Fa1 : Sts := zA 2 (.box 24 (.t 0))<|zA 3 (.box 45 (.t 1))<|zA 4 (.mv (.c (.slice none 0 0)))<|zG 5 0<|.nil
def Fa2 : Sts := zA 9 (.loadA 1 (.t 2))<|zA 10 (.call 33 [(.t 9)])<|zB 8 10<|zA 11 (.extract 0 (.t 8))<|zA 12 (.extract 1 (.t 8))<|zB 6 11<|zB 7 12<|.nil
def Fa3 : Sts := zB 13 7<|zA 14 (.bin .neq (.t 13) (zN 0))<|.nil
def Fa4 : Sts := zB 15 7<|zA 4 (.mv (.c (.slice none 0 0)))<|zB 5 15<|.nil
def Fa5 : Sts := zB 16 6<|zA 17 (.loadA 4 (.t 3))<|zA 18 (.call 66 [(.t 16), (.t 17)])<|zA 19 (.bin .neq (.t 18) (zN 0))<|.nil
def Fa6 : Sts := zA 4 (.mv (.c (.slice none 0 0)))<|zG 5 1<|.nil
def Fa7 : Sts := zB 20 6<|zA 21 (.loadA 4 (.t 3))<|zA 22 (.call 35 [(.t 20), (.t 21)])<|zB 4 22<|zG 5 0<|.nil
def Q2 : RFun := ⟨23, [0, 1, 2, 3, 4, 5, 6, 7], (.seq (.reg Fa1) (.seq (.reg Fa2) (.seq (.seq (.reg Fa3) (.cond (.t 14) (.seq (.reg Fa4) .ret) .skip)) (.seq (.seq (.reg Fa5) (.cond (.t 19) (.seq (.reg Fa6) .ret) .skip)) (.seq (.reg Fa7) .ret))))), [.tmp 4, .tmp 5]⟩
theorem Q2_ok : Ai Tryz.prog [0, 1, 2, 3, 4, 5, 6, 7] [15, 20, 31, 71, 88, 41, 76, 86, 65, 83, 81, 114, 117, 119, 122, 68, 100, 103, 104, 105, 137, 138, 64, 72, 96, 99, 158, 159, 132, 56, 93, 94, 130, 131, 155, 62, 23, 170] 26 = some Q2 := by kernel_rfl

def Fa8 : Sts := zA 4 (.box 24 (.t 0))<|zA 5 (.box 45 (.t 1))<|zA 8 (.mv (.c (.bool false)))<|zG 9 0<|.nil
def Fa9 : Sts := zA 13 (.loadA 1 (.t 4))<|zA 14 (.call 33 [(.t 13)])<|zB 12 14<|zA 15 (.extract 0 (.t 12))<|zA 16 (.extract 1 (.t 12))<|zB 10 15<|zB 11 16<|.nil
def Fb0 : Sts := zB 17 11<|zA 18 (.bin .neq (.t 17) (zN 0))<|.nil
def Fb1 : Sts := zB 19 11<|zA 8 (.mv (.c (.bool false)))<|zB 9 19<|.nil
def Fb2 : Sts := zB 20 10<|zA 21 (.loadA 4 (.t 5))<|zA 22 (.call 66 [(.t 20), (.t 21)])<|zA 23 (.bin .neq (.t 22) (zN 0))<|zB 24 23<|.cnd 24 false (zB 25 2<|zA 26 (.bin .lss (.t 25) (zN 0))<|.nil) 27 (.t 26)<|zB 28 27<|.cnd 28 false (zB 29 2<|zB 30 10<|zA 31 (zM 30)<|zA 32 (.bin .geq (.t 29) (.t 31))<|.nil) 33 (.t 32)<|zB 34 33<|.cnd 34 false (zB 35 3<|zA 36 (.bin .lss (.t 35) (zN 0))<|.nil) 37 (.t 36)<|zB 38 37<|.cnd 38 false (zB 39 3<|zB 40 10<|zA 41 (zM 40)<|zA 42 (.bin .geq (.t 39) (.t 41))<|.nil) 43 (.t 42)<|.nil
def Fb3 : Sts := zA 8 (.mv (.c (.bool false)))<|zG 9 1<|.nil
def Fb4 : Sts := zB 44 10<|zA 45 (.loadA 4 (.t 5))<|zA 46 (.call 67 [(.t 44), (.t 45)])<|zB 47 2<|zB 48 3<|zA 49 (.call 68 [(.t 46), (.t 47), (.t 48)])<|zB 8 49<|zG 9 0<|.nil
def Q0 : RFun := ⟨50, [0, 1, 2, 3, 4, 5, 8, 9, 10, 11], (.seq (.reg Fa8) (.seq (.reg Fa9) (.seq (.seq (.reg Fb0) (.cond (.t 18) (.seq (.reg Fb1) .ret) .skip)) (.seq (.seq (.reg Fb2) (.cond (.t 43) (.seq (.reg Fb3) .ret) .skip)) (.seq (.reg Fb4) .ret))))), [.tmp 8, .tmp 9]⟩
theorem Q0_ok : Ai Tryz.prog [0, 1, 2, 3, 4, 5, 8, 9, 10, 11] [15, 20, 31, 71, 88, 41, 76, 86, 65, 83, 81, 114, 117, 119, 122, 68, 100, 103, 104, 105, 137, 138, 64, 72, 96, 99, 158, 159, 132, 56, 93, 94, 130, 131, 155, 62, 23, 170] 27 = some Q0 := by kernel_rfl

def Da5 : Sts := zA 1 (.box 24 (.t 0))<|zG 2 0<|.nil
def Da6 : Sts := zA 3 (.loadA 1 (.t 1))<|zA 4 (.call 39 [(.t 3)])<|zA 5 (zM 4)<|zB 2 5<|.nil
def Q73 : RFun := ⟨6, [0, 1, 2], (.seq (.reg Da5) (.seq (.reg Da6) .ret)), [.tmp 2]⟩
theorem Q73_ok : Ai Tryz.prog [0, 1, 2] [15, 20, 31, 71, 88, 41, 76, 86, 65, 83, 81, 114, 117, 119, 122, 68, 100, 103, 104, 105, 137, 138, 64, 72, 96, 99, 158, 159, 132, 56, 93, 94, 130, 131, 155, 62, 23, 170] 28 = some Q73 := by kernel_rfl

def Da7 : Sts := zA 4 (.box 24 (.t 0))<|zA 5 (.box 37 (.t 1))<|zA 8 (.mv (.c (.bool false)))<|.nil
def Bc1 : AT := .q (zC 0 9 (.loadA 1 (.t 4))<|zC 2 11 (.loadA 4 (.t 5))<|zD 4 13 2<|zD 6 15 3<|zC 7 16 (.conv .u64 (.t 15))<|.nil)<|zE 1 10 (.call 39 [(.t 9)]) false (zF<|zE 3 12 (.call 53 [(.t 10), (.t 11)]) false (.q (zC 5 14 (.idx1 16 (.t 12) (.t 13))<|zC 8 17 (.bin .shr (.t 14) (.t 16))<|zC 9 18 (.bin .and (.t 17) (.c (.int .u64 1)))<|zC 10 19 (.bin .eql (.t 18) (.c (.int .u64 1)))<|zD 11 8 19<|.nil)<|.fin)<|.no)<|.no
def Q72 : RFun := ⟨20, [0, 1, 2, 3, 4, 5, 8], (.seq (.reg Da7) (.seq (.any Bc1) .ret)), [.tmp 8]⟩
theorem Q72_ok : Ai Tryz.prog [0, 1, 2, 3, 4, 5, 8] [15, 20, 31, 71, 88, 41, 76, 86, 65, 83, 81, 114, 117, 119, 122, 68, 100, 103, 104, 105, 137, 138, 64, 72, 96, 99, 158, 159, 132, 56, 93, 94, 130, 131, 155, 62, 23, 170] 29 = some Q72 := by kernel_rfl

def Da8 : Sts := zA 1 (.box 24 (.t 0))<|zA 2 (.alloc 24 [(.slice none 0 0)])<|zG 3 0<|.nil
def Da9 : Sts := zA 5 (.loadA 1 (.t 1))<|zA 6 (.call 24 [(.t 5)])<|zB 4 6<|.nil
def Db0 : Sts := zB 7 4<|zA 8 (.bin .neq (.t 7) (zN 0))<|.nil
def Db1 : Sts := zA 9 (.build [(.slice none 0 0)] [])<|zB 10 4<|.op none (.store 1 (.t 2) (.t 9))<|zB 3 10<|.nil
def Db2 : Sts := zA 11 (.loadA 1 (.t 1))<|zA 12 (.call 69 [(.t 11), (.c (.func (.func 70) #[] #[]))])<|.op none (.store 1 (.t 2) (.t 12))<|zG 3 0<|.nil
def Q51 : RFun := ⟨13, [0, 1, 2, 3, 4], (.seq (.reg Da8) (.seq (.seq (.reg Da9) (.seq (.reg Db0) (.cond (.t 8) (.seq (.reg Db1) .ret) .skip))) (.seq (.reg Db2) .ret))), [.cellA 2 1, .tmp 3]⟩
theorem Q51_ok : Ai Tryz.prog [0, 1, 2, 3, 4] [15, 20, 31, 71, 88, 41, 76, 86, 65, 83, 81, 114, 117, 119, 122, 68, 100, 103, 104, 105, 137, 138, 64, 72, 96, 99, 158, 159, 132, 56, 93, 94, 130, 131, 155, 62, 23, 170] 30 = some Q51 := by kernel_rfl

def Db3 : Sts := zA 0 (.alloc 24 [(.slice none 0 0)])<|.nil
def Db4 : Sts := zA 1 (.build [(.int .i64 0), (.int .i64 0), (.int .i64 0), (.int .i64 0), (.int .i64 0)] [(0, 1, (zN 1)), (2, 1, (zN 1))])<|zA 2 (.build [(.int .i64 0), (.int .i64 0), (.int .i64 0), (.int .i64 0), (.int .i64 0)] [(1, 1, (zN 1))])<|zA 3 (.buildSl 83 2 [(.int .i64 0), (.int .i64 0), (.int .i64 0), (.int .i64 0), (.int .i64 0), (.int .i64 0), (.int .i64 0), (.int .i64 0), (.int .i64 0), (.int .i64 0)] [(0, 5, (.t 1)), (5, 5, (.t 2))])<|zA 4 (.build [(.int .i64 0), (.int .i64 0), (.int .i64 0), (.int .i64 0), (.int .i64 0)] [(0, 1, (zN 1)), (1, 1, (zN 1)), (2, 1, (zN 1))])<|zA 5 (.build [(.int .i64 0), (.int .i64 0), (.int .i64 0), (.int .i64 0), (.int .i64 0)] [])<|zA 6 (.buildSl 83 2 [(.int .i64 0), (.int .i64 0), (.int .i64 0), (.int .i64 0), (.int .i64 0), (.int .i64 0), (.int .i64 0), (.int .i64 0), (.int .i64 0), (.int .i64 0)] [(0, 5, (.t 4)), (5, 5, (.t 5))])<|zA 7 (.buildSl 70 2 [(.slice none 0 0), (.slice none 0 0)] [(0, 1, (.t 3)), (1, 1, (.t 6))])<|zA 8 (.build [(.slice none 0 0)] [(0, 1, (.t 7))])<|.op none (.store 1 (.t 0) (.t 8))<|.nil
def Q61 : RFun := ⟨9, [0], (.seq (.reg Db3) (.seq (.reg Db4) .ret)), [.cellA 0 1]⟩
theorem Q61_ok : Ai Tryz.prog [0] [15, 20, 31, 71, 88, 41, 76, 86, 65, 83, 81, 114, 117, 119, 122, 68, 100, 103, 104, 105, 137, 138, 64, 72, 96, 99, 158, 159, 132, 56, 93, 94, 130, 131, 155, 62, 23, 170] 32 = some Q61 := by kernel_rfl

def Fb5 : Sts := zA 1 (.box 24 (.t 0))<|zA 2 (.mv (.c (.slice none 0 0)))<|zG 3 0<|.nil
def Fb6 : Sts := zA 12 (.loadA 1 (.t 1))<|zA 13 (.call 30 [(.t 12)])<|zB 11 13<|zA 14 (.extract 0 (.t 11))<|zA 15 (.extract 1 (.t 11))<|zA 4 (.alloc 24 [(.slice none 0 0)])<|.op none (.store 1 (.t 4) (.t 14))<|zB 5 15<|.nil
def Fb7 : Sts := zB 16 5<|zA 17 (.bin .neq (.t 16) (zN 0))<|.nil
def Fb8 : Sts := zB 18 5<|zA 2 (.mv (.c (.slice none 0 0)))<|zB 3 18<|.nil
def Fb9 : Sts := zA 6 (.mv (.c (.slice none 0 0)))<|.nil
def Fc0 : Sts := zA 19 (zI 0 4)<|zA 20 (zK 19)<|zA 21 (zM 20)<|zG 22 0<|.nil
def Fc1 : Sts := zA 23 (.bin .lss (.t 22) (.t 21))<|.nil
def Fc2 : Sts := zB 24 22<|zA 25 (zH 1 20 22)<|zA 26 (zK 25)<|zB 7 24<|zB 8 26<|.nil
def Fc3 : Sts := zB 27 8<|zA 28 (zM 27)<|zG 29 0<|.nil
def Fc4 : Sts := zA 30 (.bin .lss (.t 29) (.t 28))<|.nil
def Db5 : Sts := zA 31 (zH 5 27 29)<|zA 32 (.loadA 5 (.t 31))<|zA 10 (.alloc 83 [(.int .i64 0), (.int .i64 0), (.int .i64 0), (.int .i64 0), (.int .i64 0)])<|.op none (.store 5 (.t 10) (.t 32))<|.nil
def Db6 : Sts := zB 33 6<|zA 34 (.loadA 5 (.t 10))<|zB 35 7<|zA 36 (.build [(.int .i64 0), (.int .i64 0), (.int .i64 0), (.int .i64 0), (.int .i64 0), (.int .i64 0)] [(0, 5, (.t 34)), (5, 1, (.t 35))])<|zA 37 (.buildSl 121 1 [(.int .i64 0), (.int .i64 0), (.int .i64 0), (.int .i64 0), (.int .i64 0), (.int .i64 0)] [(0, 6, (.t 36))])<|zA 38 (.append 121 6 48 [(.int .i64 0), (.int .i64 0), (.int .i64 0), (.int .i64 0), (.int .i64 0), (.int .i64 0)] (.t 33) (.t 37))<|zB 6 38<|.nil
def Db7 : Sts := zA 39 (.bin .add (.t 29) (zN 1))<|zB 29 39<|.nil
def Bc2 : RCode := (.seq (.reg Fc4) (.seq (.cond (.t 30) .skip (.exit 2)) (.seq (.block 3 (.seq (.reg Db5) (.reg Db6))) (.reg Db7))))
def Db8 : Sts := zA 40 (.bin .add (.t 22) (zN 1))<|zB 22 40<|.nil
def Bc3 : RCode := (.seq (.reg Fc1) (.seq (.cond (.t 23) .skip (.exit 0)) (.seq (.block 1 (.seq (.reg Fc2) (.seq (.reg Fc3) (.block 2 (.loop Bc2))))) (.reg Db8))))
def Db9 : Sts := zB 41 6<|zB 2 41<|zG 3 0<|.nil
def Q9 : RFun := ⟨42, [0, 1, 2, 3, 4, 5, 6, 7, 8, 10, 20, 21, 22, 27, 28, 29], (.seq (.reg Fb5) (.seq (.reg Fb6) (.seq (.seq (.reg Fb7) (.cond (.t 17) (.seq (.reg Fb8) .ret) .skip)) (.seq (.reg Fb9) (.seq (.seq (.reg Fc0) (.block 0 (.loop Bc3))) (.seq (.reg Db9) .ret)))))), [.tmp 2, .tmp 3]⟩
theorem Q9_ok : Ai Tryz.prog [0, 1, 2, 3, 4, 5, 6, 7, 8, 10, 20, 21, 22, 27, 28, 29] [15, 20, 31, 71, 88, 41, 76, 86, 65, 83, 81, 114, 117, 119, 122, 68, 100, 103, 104, 105, 137, 138, 64, 72, 96, 99, 158, 159, 132, 56, 93, 94, 130, 131, 155, 62, 23, 170] 33 = some Q9 := by kernel_rfl

def Bc4 : Sts := zA 1 (.box 74 (.t 0))<|zA 2 (.mv (.c .nilFunc))<|.nil
def Dc0 : Sts := zA 4 (zK 1)<|zA 5 (.mkfn 75 [] [(.t 1)])<|zA 6 (.call 74 [(.t 4), (.t 5)])<|zA 3 (.alloc 34 [(.slice none 0 0)])<|.op none (.store 1 (.t 3) (.t 6))<|.nil
def Dc1 : Sts := zA 7 (.mkfn 77 [] [(.t 1), (.t 3)])<|zB 2 7<|.nil
def Q18 : RFun := ⟨8, [0, 1, 2, 3], (.seq (.reg Bc4) (.seq (.reg Dc0) (.seq (.reg Dc1) .ret))), [.tmp 2]⟩
theorem Q18_ok : Ai Tryz.prog [0, 1, 2, 3] [15, 20, 31, 71, 88, 41, 76, 86, 65, 83, 81, 114, 117, 119, 122, 68, 100, 103, 104, 105, 137, 138, 64, 72, 96, 99, 158, 159, 132, 56, 93, 94, 130, 131, 155, 62, 23, 170] 34 = some Q18 := by kernel_rfl

def Dc2 : Sts := zA 3 (.box 45 (.t 1))<|zA 4 (.mv (.c (.slice none 0 0)))<|.nil
def Dc3 : Sts := zB 15 0<|zA 16 (.loadA 4 (.t 3))<|zA 17 (.call 85 [(.t 15), (.t 16)])<|zB 14 17<|zA 18 (.extract 0 (.t 14))<|zA 19 (.extract 1 (.t 14))<|zA 20 (.extract 2 (.t 14))<|zB 5 18<|zB 6 19<|zB 7 20<|.nil
def Dc4 : Sts := zA 8 (.mv (.c (.slice none 0 0)))<|.nil
def Dc5 : Sts := zB 21 0<|zA 22 (zM 21)<|zG 23 0<|.nil
def Dc6 : Sts := zA 24 (.bin .lss (.t 23) (.t 22))<|.nil
def Dc7 : Sts := zB 25 23<|zA 26 (zH 6 21 23)<|zA 27 (.loadA 6 (.t 26))<|zA 10 (.alloc 121 [(.int .i64 0), (.int .i64 0), (.int .i64 0), (.int .i64 0), (.int .i64 0), (.int .i64 0)])<|zB 9 25<|.op none (.store 6 (.t 10) (.t 27))<|.nil
def Dc8 : Sts := zA 28 (.loadA 6 (.t 10))<|zA 29 (.call 86 [(.t 28)])<|.nil
def Dc9 : Sts := zB 30 8<|zB 31 5<|zB 32 9<|zA 33 (zH 1 31 32)<|zA 34 (zJ 33)<|zA 35 (.buildSl 3 1 [(.int .i64 0)] [(0, 1, (.t 34))])<|zA 36 (.append 3 1 8 [(.int .i64 0)] (.t 30) (.t 35))<|zB 8 36<|.nil
def Dd0 : Sts := zA 37 (.bin .add (.t 23) (zN 1))<|zB 23 37<|.nil
def Bc5 : RCode := (.seq (.reg Dc6) (.seq (.cond (.t 24) .skip (.exit 0)) (.seq (.block 1 (.seq (.reg Dc7) (.seq (.reg Dc8) (.cond (.t 29) (.reg Dc9) .skip)))) (.reg Dd0))))
def Dd1 : Sts := zA 38 (zI 2 3)<|zA 39 (zK 38)<|zA 40 (zM 39)<|zG 41 0<|.nil
def Bc6 : Sts := zA 42 (.bin .lss (.t 41) (.t 40))<|.nil
def Bc7 : Sts := zA 43 (zH 1 39 41)<|zA 44 (zK 43)<|zB 12 44<|.nil
def Bc8 : Sts := zG 13 0<|.nil
def Bc9 : Sts := zB 45 12<|zA 46 (zM 45)<|zA 47 (.bin .gtr (.t 46) (zN 0))<|.nil
def Bd0 : Sts := zB 48 6<|zB 49 12<|zB 50 12<|zA 51 (zM 50)<|zA 52 (.bin .sub (.t 51) (zN 1))<|zA 53 (zH 1 49 52)<|zA 54 (zJ 53)<|zA 55 (zH 1 48 54)<|zA 56 (zJ 55)<|zB 13 56<|.nil
def Bd1 : Sts := zB 57 8<|zB 58 13<|zA 59 (.buildSl 3 1 [(.int .i64 0)] [(0, 1, (.t 58))])<|zA 60 (.append 3 1 8 [(.int .i64 0)] (.t 57) (.t 59))<|zB 8 60<|.nil
def Bd2 : Sts := zA 61 (.bin .add (.t 41) (zN 1))<|zB 41 61<|.nil
def Ak8 : RCode := (.seq (.reg Bc6) (.seq (.cond (.t 42) .skip (.exit 2)) (.seq (.block 3 (.seq (.reg Bc7) (.seq (.reg Bc8) (.seq (.seq (.reg Bc9) (.cond (.t 47) (.reg Bd0) .skip)) (.reg Bd1))))) (.reg Bd2))))
def Bd3 : Sts := zB 62 8<|zB 4 62<|.nil
def Q33 : RFun := ⟨63, [0, 1, 3, 4, 5, 6, 8, 9, 10, 12, 13, 21, 22, 23, 39, 40, 41], (.seq (.reg Dc2) (.seq (.reg Dc3) (.seq (.reg Dc4) (.seq (.seq (.reg Dc5) (.block 0 (.loop Bc5))) (.seq (.seq (.reg Dd1) (.block 2 (.loop Ak8))) (.seq (.reg Bd3) .ret)))))), [.tmp 4]⟩
theorem Q33_ok : Ai Tryz.prog [0, 1, 3, 4, 5, 6, 8, 9, 10, 12, 13, 21, 22, 23, 39, 40, 41] [15, 20, 31, 71, 88, 41, 76, 86, 65, 83, 81, 114, 117, 119, 122, 68, 100, 103, 104, 105, 137, 138, 64, 72, 96, 99, 158, 159, 132, 56, 93, 94, 130, 131, 155, 62, 23, 170] 35 = some Q33 := by kernel_rfl

def Fc5 : Sts := zA 2 (.mv (.c (.slice none 0 0)))<|.nil
def Fc6 : Sts := zB 3 0<|zA 4 (.call 87 [(.t 3), (.c (.func (.func 88) #[] #[]))])<|.nil
def Fc7 : Sts := zB 5 0<|zA 6 (.call 89 [(.t 5), (.c (.func (.func 41) #[] #[]))])<|zB 2 6<|.nil
def Q4 : RFun := ⟨7, [0, 2], (.seq (.reg Fc5) (.seq (.reg Fc6) (.seq (.reg Fc7) .ret))), [.tmp 2]⟩
theorem Q4_ok : Ai Tryz.prog [0, 2] [15, 20, 31, 71, 88, 41, 76, 86, 65, 83, 81, 114, 117, 119, 122, 68, 100, 103, 104, 105, 137, 138, 64, 72, 96, 99, 158, 159, 132, 56, 93, 94, 130, 131, 155, 62, 23, 170] 36 = some Q4 := by kernel_rfl

def Dd2 : Sts := zA 1 (.box 83 (.t 0))<|zA 2 (.mv (.c (.bool false)))<|.nil
def Dd3 : Sts := zA 3 (zI 0 1)<|zA 4 (zJ 3)<|zA 5 (zI 4 1)<|zA 6 (zJ 5)<|zA 7 (.call 90 [(.t 4), (.t 6)])<|zA 8 (.notb (.t 7))<|zB 9 8<|.cnd 9 false (zA 10 (zI 1 1)<|zA 11 (zJ 10)<|zA 12 (.bin .lss (.t 11) (zN 0))<|.nil) 13 (.t 12)<|zB 14 13<|.cnd 14 false (zA 15 (zI 1 1)<|zA 16 (zJ 15)<|zA 17 (.bin .geq (.t 16) (zN 3))<|.nil) 18 (.t 17)<|.nil
def Dd4 : Sts := zA 2 (.mv (.c (.bool false)))<|.nil
def Dd5 : Sts := zA 19 (zI 0 1)<|zA 20 (zJ 19)<|zA 21 (.bin .eql (.t 20) (zN 5))<|.nil
def Dd6 : Sts := zA 22 (zI 1 1)<|zA 23 (zJ 22)<|zA 24 (.bin .eql (.t 23) (zN 0))<|zB 25 24<|.cnd 25 true (zA 26 (zI 2 1)<|zA 27 (zJ 26)<|zA 28 (.bin .eql (.t 27) (zN 0))<|.nil) 29 (.t 28)<|zB 30 29<|.cnd 30 true (zA 31 (zI 3 1)<|zA 32 (zJ 31)<|zA 33 (.bin .eql (.t 32) (zN 0))<|.nil) 34 (.t 33)<|zB 2 34<|.nil
def Dd7 : Sts := zA 35 (zI 0 1)<|zA 36 (zJ 35)<|zA 37 (.bin .eql (.t 36) (zN 0))<|.nil
def Dd8 : Sts := zA 38 (zI 2 1)<|zA 39 (zJ 38)<|zA 40 (.bin .eql (.t 39) (zN 0))<|zB 41 40<|.cnd 41 true (zA 42 (zI 3 1)<|zA 43 (zJ 42)<|zA 44 (.bin .eql (.t 43) (zN 0))<|.nil) 45 (.t 44)<|zB 2 45<|.nil
def Dd9 : Sts := zA 46 (zI 0 1)<|zA 47 (zJ 46)<|zA 48 (.bin .eql (.t 47) (zN 1))<|.nil
def De0 : Sts := zA 49 (zI 2 1)<|zA 50 (zJ 49)<|zA 51 (.bin .geq (.t 50) (zN 0))<|zB 52 51<|.cnd 52 true (zA 53 (zI 2 1)<|zA 54 (zJ 53)<|zA 55 (.bin .leq (.t 54) (zN 9))<|.nil) 56 (.t 55)<|zB 57 56<|.cnd 57 true (zA 58 (zI 3 1)<|zA 59 (zJ 58)<|zA 60 (.bin .eql (.t 59) (zN 0))<|.nil) 61 (.t 60)<|zB 2 61<|.nil
def De1 : Sts := zA 62 (zI 0 1)<|zA 63 (zJ 62)<|zA 64 (.bin .eql (.t 63) (zN 2))<|.nil
def Bd4 : Sts := zA 65 (zI 2 1)<|zA 66 (zJ 65)<|zA 67 (.bin .geq (.t 66) (.c (.int .i64 (-9))))<|zB 68 67<|.cnd 68 true (zA 69 (zI 2 1)<|zA 70 (zJ 69)<|zA 71 (.bin .leq (.t 70) (zN 9))<|.nil) 72 (.t 71)<|zB 73 72<|.cnd 73 true (zA 74 (zI 3 1)<|zA 75 (zJ 74)<|zA 76 (.bin .eql (.t 75) (zN 0))<|.nil) 77 (.t 76)<|zB 2 77<|.nil
def Bd5 : Sts := zA 78 (zI 2 1)<|zA 79 (zJ 78)<|zA 80 (.bin .geq (.t 79) (zN 0))<|zB 81 80<|.cnd 81 true (zA 82 (zI 2 1)<|zA 83 (zJ 82)<|zA 84 (.bin .leq (.t 83) (zN 9))<|.nil) 85 (.t 84)<|zB 86 85<|.cnd 86 true (zA 87 (zI 3 1)<|zA 88 (zJ 87)<|zA 89 (.bin .geq (.t 88) (zN 0))<|.nil) 90 (.t 89)<|zB 91 90<|.cnd 91 true (zA 92 (zI 3 1)<|zA 93 (zJ 92)<|zA 94 (.bin .leq (.t 93) (zN 9))<|.nil) 95 (.t 94)<|zB 2 95<|.nil
def Q69 : RFun := ⟨96, [0, 1, 2], (.seq (.reg Dd2) (.seq (.seq (.reg Dd3) (.cond (.t 18) (.seq (.reg Dd4) .ret) .skip)) (.seq (.seq (.reg Dd5) (.cond (.t 21) (.seq (.reg Dd6) .ret) .skip)) (.seq (.seq (.reg Dd7) (.cond (.t 37) (.seq (.reg Dd8) .ret) .skip)) (.seq (.seq (.reg Dd9) (.cond (.t 48) (.seq (.reg De0) .ret) .skip)) (.seq (.seq (.reg De1) (.cond (.t 64) (.seq (.reg Bd4) .ret) .skip)) (.seq (.reg Bd5) .ret))))))), [.tmp 2]⟩
theorem Q69_ok : Ai Tryz.prog [0, 1, 2] [15, 20, 31, 71, 88, 41, 76, 86, 65, 83, 81, 114, 117, 119, 122, 68, 100, 103, 104, 105, 137, 138, 64, 72, 96, 99, 158, 159, 132, 56, 93, 94, 130, 131, 155, 62, 23, 170] 37 = some Q69 := by kernel_rfl

def De2 : Sts := zA 1 (.box 83 (.t 0))<|zA 2 (.mv (.c (.bool false)))<|.nil
def De3 : Sts := zA 3 (zI 0 1)<|zA 4 (zJ 3)<|zA 5 (.bin .geq (.t 4) (zN 0))<|zB 6 5<|.cnd 6 true (zA 7 (zI 0 1)<|zA 8 (zJ 7)<|zA 9 (.bin .lss (.t 8) (zN 5))<|.nil) 10 (.t 9)<|zB 2 10<|.nil
def Q68 : RFun := ⟨11, [0, 1, 2], (.seq (.reg De2) (.seq (.reg De3) .ret)), [.tmp 2]⟩
theorem Q68_ok : Ai Tryz.prog [0, 1, 2] [15, 20, 31, 71, 88, 41, 76, 86, 65, 83, 81, 114, 117, 119, 122, 68, 100, 103, 104, 105, 137, 138, 64, 72, 96, 99, 158, 159, 132, 56, 93, 94, 130, 131, 155, 62, 23, 170] 38 = some Q68 := by kernel_rfl

def De4 : Sts := zA 1 (.box 24 (.t 0))<|zA 2 (.mv (.c (.slice none 0 0)))<|.nil
def De5 : Sts := zA 9 (.loadA 1 (.t 1))<|zA 10 (.call 91 [(.t 9)])<|zB 8 10<|zA 11 (.extract 0 (.t 8))<|zA 12 (.extract 1 (.t 8))<|zA 3 (.alloc 24 [(.slice none 0 0)])<|.op none (.store 1 (.t 3) (.t 11))<|zB 4 12<|.nil
def De6 : Sts := zA 5 (.mv (.c (.slice none 0 0)))<|.nil
def De7 : Sts := zG 6 0<|.nil
def De8 : Sts := zB 13 6<|zA 14 (zI 0 3)<|zA 15 (zK 14)<|zA 16 (zM 15)<|zA 17 (.bin .lss (.t 13) (.t 16))<|.nil
def De9 : Sts := zG 7 0<|.nil
def Df0 : Sts := zB 20 7<|zA 21 (zI 0 3)<|zA 22 (zK 21)<|zB 23 6<|zA 24 (zH 1 22 23)<|zA 25 (zK 24)<|zA 26 (zM 25)<|zA 27 (.bin .lss (.t 20) (.t 26))<|.nil
def Df1 : Sts := zB 30 5<|zB 31 6<|zA 32 (zI 0 3)<|zA 33 (zK 32)<|zB 34 6<|zA 35 (zH 1 33 34)<|zA 36 (zK 35)<|zB 37 7<|zA 38 (zH 5 36 37)<|zA 39 (.loadA 5 (.t 38))<|zA 40 (.build [(.int .i64 0), (.int .i64 0), (.int .i64 0), (.int .i64 0), (.int .i64 0), (.int .i64 0)] [(0, 1, (.t 31)), (1, 5, (.t 39))])<|zA 41 (.buildSl 103 1 [(.int .i64 0), (.int .i64 0), (.int .i64 0), (.int .i64 0), (.int .i64 0), (.int .i64 0)] [(0, 6, (.t 40))])<|zA 42 (.append 103 6 48 [(.int .i64 0), (.int .i64 0), (.int .i64 0), (.int .i64 0), (.int .i64 0), (.int .i64 0)] (.t 30) (.t 41))<|zB 5 42<|.nil
def Df2 : Sts := zB 28 7<|zA 29 (.bin .add (.t 28) (zN 1))<|zB 7 29<|.nil
def Bd6 : RCode := (.seq (.seq (.reg Df0) (.cond (.t 27) .skip (.exit 2))) (.seq (.block 3 (.reg Df1)) (.reg Df2)))
def Df3 : Sts := zB 18 6<|zA 19 (.bin .add (.t 18) (zN 1))<|zB 6 19<|.nil
def Ak9 : RCode := (.seq (.seq (.reg De8) (.cond (.t 17) .skip (.exit 0))) (.seq (.block 1 (.seq (.reg De9) (.block 2 (.loop Bd6)))) (.reg Df3)))
def Bd7 : Sts := zB 43 5<|zB 2 43<|.nil
def Q74 : RFun := ⟨44, [0, 1, 2, 3, 5, 6, 7], (.seq (.reg De4) (.seq (.reg De5) (.seq (.reg De6) (.seq (.seq (.reg De7) (.block 0 (.loop Ak9))) (.seq (.reg Bd7) .ret))))), [.tmp 2]⟩
theorem Q74_ok : Ai Tryz.prog [0, 1, 2, 3, 5, 6, 7] [15, 20, 31, 71, 88, 41, 76, 86, 65, 83, 81, 114, 117, 119, 122, 68, 100, 103, 104, 105, 137, 138, 64, 72, 96, 99, 158, 159, 132, 56, 93, 94, 130, 131, 155, 62, 23, 170] 39 = some Q74 := by kernel_rfl

def Bd8 : Sts := zA 4 (.mv (.c (.bool false)))<|.nil
def Bd9 : Sts := zB 6 0<|zA 7 (zM 6)<|zB 8 1<|zA 9 (zM 8)<|zA 10 (.bin .neq (.t 7) (.t 9))<|.nil
def Be0 : Sts := zA 4 (.mv (.c (.bool false)))<|.nil
def Be1 : Sts := zB 11 0<|zA 12 (zM 11)<|zG 13 0<|.nil
def Be2 : Sts := zA 14 (.bin .lss (.t 13) (.t 12))<|.nil
def Be3 : Sts := zB 15 13<|zB 5 15<|.nil
def Be4 : AT := .q (zD 0 16 0<|zD 1 17 5<|zC 2 18 (zH 1 16 17)<|zC 3 19 (zJ 18)<|zD 4 20 1<|zD 5 21 5<|zC 6 22 (zH 1 20 21)<|zC 7 23 (zJ 22)<|zC 8 24 (.bin .neq (.t 19) (.t 23))<|.nil)<|.fin
def Be5 : Sts := zA 4 (.mv (.c (.bool false)))<|.nil
def Be6 : Sts := zA 25 (.bin .add (.t 13) (zN 1))<|zB 13 25<|.nil
def Al0 : RCode := (.seq (.reg Be2) (.seq (.cond (.t 14) .skip (.exit 0)) (.seq (.block 1 (.seq (.reg Be3) (.seq (.any Be4) (.cond (.t 24) (.seq (.reg Be5) .ret) .skip)))) (.reg Be6))))
def Be7 : Sts := zA 4 (.mv (.c (.bool true)))<|.nil
def Be8 : RFun := ⟨26, [0, 1, 4, 5, 12, 13], (.seq (.reg Bd8) (.seq (.seq (.reg Bd9) (.cond (.t 10) (.seq (.reg Be0) .ret) .skip)) (.seq (.seq (.reg Be1) (.block 0 (.loop Al0))) (.seq (.reg Be7) .ret)))), [.tmp 4]⟩
theorem Q111_ok : Ai Tryz.prog [0, 1, 4, 5, 12, 13] [15, 20, 31, 71, 88, 41, 76, 86, 65, 83, 81, 114, 117, 119, 122, 68, 100, 103, 104, 105, 137, 138, 64, 72, 96, 99, 158, 159, 132, 56, 93, 94, 130, 131, 155, 62, 23, 170] 41 = some Be8 := by kernel_rfl

def Df4 : Sts := zA 3 (.box 37 (.t 1))<|zA 4 (.mv (.c (.bool false)))<|.nil
def Df5 : Sts := zA 17 (zI 0 3)<|zA 18 (zK 17)<|zA 19 (zM 18)<|zB 20 0<|zA 21 (zM 20)<|zA 22 (.bin .neq (.t 19) (.t 21))<|zB 23 22<|.cnd 23 false (zA 24 (zI 1 3)<|zA 25 (zK 24)<|zA 26 (zM 25)<|zB 27 0<|zA 28 (zM 27)<|zA 29 (.bin .neq (.t 26) (.t 28))<|.nil) 30 (.t 29)<|zB 31 30<|.cnd 31 false (zA 32 (zI 2 3)<|zA 33 (zK 32)<|zA 34 (zM 33)<|zA 35 (.bin .neq (.t 34) (zN 3))<|.nil) 36 (.t 35)<|.nil
def Df6 : Sts := zA 4 (.mv (.c (.bool false)))<|.nil
def Df7 : Sts := zG 5 0<|.nil
def Df8 : Sts := zG 6 0<|.nil
def Df9 : Sts := zB 37 6<|zB 38 0<|zA 39 (zM 38)<|zA 40 (.bin .lss (.t 37) (.t 39))<|.nil
def Dg0 : Sts := zB 43 0<|zB 44 6<|zA 45 (zH 6 43 44)<|zA 46 (zI 1 45)<|zA 47 (.loadA 5 (.t 46))<|zA 7 (.alloc 83 [(.int .i64 0), (.int .i64 0), (.int .i64 0), (.int .i64 0), (.int .i64 0)])<|.op none (.store 5 (.t 7) (.t 47))<|.nil
def Dg1 : Sts := zA 48 (zI 0 3)<|zA 49 (zK 48)<|zB 50 6<|zA 51 (zH 1 49 50)<|zA 52 (zJ 51)<|zB 8 52<|.nil
def Dg2 : Sts := zA 53 (.loadA 5 (.t 7))<|zA 54 (.call 56 [(.t 53)])<|zA 55 (.notb (.t 54))<|zB 56 55<|.cnd 56 true (zB 57 8<|zA 58 (.bin .neq (.t 57) (.c (.int .i64 (-2))))<|.nil) 59 (.t 58)<|zB 60 59<|.cnd 60 false (zA 61 (.loadA 5 (.t 7))<|zA 62 (.call 56 [(.t 61)])<|zB 63 62<|.cnd 63 true (zB 64 8<|zA 65 (.bin .lss (.t 64) (.c (.int .i64 (-1))))<|zB 66 65<|.cnd 66 false (zB 67 8<|zB 68 0<|zA 69 (zM 68)<|zA 70 (.bin .geq (.t 67) (.t 69))<|.nil) 71 (.t 70)<|.nil) 72 (.t 71)<|.nil) 73 (.t 72)<|zB 74 73<|.cnd 74 false (zA 75 (zI 0 7)<|zA 76 (zJ 75)<|zA 77 (.bin .eql (.t 76) (zN 1))<|zB 78 77<|.cnd 78 false (zA 79 (zI 0 7)<|zA 80 (zJ 79)<|zA 81 (.bin .eql (.t 80) (zN 2))<|.nil) 82 (.t 81)<|zB 83 82<|.cnd 83 true (zA 84 (zI 1 3)<|zA 85 (zK 84)<|zB 86 6<|zA 87 (zH 1 85 86)<|zA 88 (.loadB (.t 87))<|zA 89 (.notb (.t 88))<|.nil) 90 (.t 89)<|.nil) 91 (.t 90)<|zB 92 91<|.cnd 92 false (zA 93 (.loadA 5 (.t 7))<|zA 94 (.call 93 [(.t 93)])<|zA 95 (.notb (.t 94))<|zB 96 95<|.cnd 96 true (zA 97 (zI 1 3)<|zA 98 (zK 97)<|zB 99 6<|zA 100 (zH 1 98 99)<|zA 101 (.loadB (.t 100))<|.nil) 102 (.t 101)<|.nil) 103 (.t 102)<|.nil
def Dg3 : Sts := zA 4 (.mv (.c (.bool false)))<|.nil
def Vt : AT := .q (zC 0 104 (.loadA 5 (.t 7))<|zC 1 105 (.call 56 [(.t 104)])<|zD 2 106 105<|.g 106 true (zD 3 107 8<|zC 4 108 (.bin .geq (.t 107) (zN 0))<|.nil) 5 109 (.t 108)<|zD 6 110 109<|.g 110 true (zC 7 111 (zI 1 3)<|zC 8 112 (zK 111)<|zD 9 113 8<|zC 10 114 (zH 1 112 113)<|zC 11 115 (.loadB (.t 114))<|zC 12 116 (.notb (.t 115))<|zD 13 117 116<|.g 117 false (zD 14 118 0<|zD 15 119 8<|zC 16 120 (zH 6 118 119)<|zC 17 121 (zI 1 120)<|zC 18 122 (zI 1 121)<|zC 19 123 (zJ 122)<|zC 20 124 (zI 1 7)<|zC 21 125 (zJ 124)<|zC 22 126 (.bin .neq (.t 123) (.t 125))<|.nil) 23 127 (.t 126)<|zD 24 128 127<|.g 128 false (zD 25 129 0<|zD 26 130 8<|zC 27 131 (zH 6 129 130)<|zC 28 132 (zI 1 131)<|zC 29 133 (.loadA 5 (.t 132))<|zC 30 134 (.call 93 [(.t 133)])<|zC 31 135 (.notb (.t 134))<|.nil) 32 136 (.t 135)<|.nil) 33 137 (.t 136)<|.nil)<|.fin
def Be9 : Sts := zA 4 (.mv (.c (.bool false)))<|.nil
def Ag0 : Sts := zA 138 (.loadA 5 (.t 7))<|zA 139 (.call 94 [(.t 138)])<|.nil
def Ag1 : Sts := zB 140 5<|zA 141 (.bin .add (.t 140) (zN 1))<|zB 5 141<|.nil
def Ag2 : Sts := zB 41 6<|zA 42 (.bin .add (.t 41) (zN 1))<|zB 6 42<|.nil
def Um : RCode := (.seq (.seq (.reg Df9) (.cond (.t 40) .skip (.exit 0))) (.seq (.block 1 (.seq (.reg Dg0) (.seq (.reg Dg1) (.seq (.seq (.reg Dg2) (.cond (.t 103) (.seq (.reg Dg3) .ret) .skip)) (.seq (.seq (.any Vt) (.cond (.t 137) (.seq (.reg Be9) .ret) .skip)) (.seq (.reg Ag0) (.cond (.t 139) (.reg Ag1) .skip))))))) (.reg Ag2)))
def Bf0 : Sts := zA 142 (zI 3 3)<|zA 143 (zK 142)<|zA 144 (zM 143)<|zB 145 5<|zA 146 (.bin .neq (.t 144) (.t 145))<|.nil
def Bf1 : Sts := zA 4 (.mv (.c (.bool false)))<|.nil
def Bf2 : Sts := zA 9 (.alloc 141 [(.bool false), (.bool false), (.bool false), (.bool false), (.bool false), (.bool false), (.bool false), (.bool false), (.bool false), (.bool false), (.bool false), (.bool false), (.bool false), (.bool false), (.bool false), (.bool false)])<|.nil
def Bf3 : Sts := zG 10 0<|.nil
def Bf4 : Sts := zB 147 10<|zA 148 (zI 3 3)<|zA 149 (zK 148)<|zA 150 (zM 149)<|zA 151 (.bin .lss (.t 147) (.t 150))<|.nil
def Bf5 : Sts := zA 154 (zI 3 3)<|zA 155 (zK 154)<|zB 156 10<|zA 157 (zH 1 155 156)<|zA 158 (zJ 157)<|zB 11 158<|.nil
def Bf6 : Sts := zB 159 11<|zA 160 (.bin .lss (.t 159) (zN 0))<|zB 161 160<|.cnd 161 false (zB 162 11<|zB 163 0<|zA 164 (zM 163)<|zA 165 (.bin .geq (.t 162) (.t 164))<|.nil) 166 (.t 165)<|zB 167 166<|.cnd 167 false (zB 168 11<|zA 169 (.iaddrA 16 1 (.t 9) (.t 168))<|zA 170 (.loadB (.t 169))<|.nil) 171 (.t 170)<|zB 172 171<|.cnd 172 false (zB 173 0<|zB 174 11<|zA 175 (zH 6 173 174)<|zA 176 (zI 1 175)<|zA 177 (.loadA 5 (.t 176))<|zA 178 (.call 94 [(.t 177)])<|zA 179 (.notb (.t 178))<|.nil) 180 (.t 179)<|.nil
def Bf7 : Sts := zA 4 (.mv (.c (.bool false)))<|.nil
def Bf8 : Sts := zB 181 11<|zA 182 (.iaddrA 16 1 (.t 9) (.t 181))<|.op none (.store 1 (.t 182) (.c (.bool true)))<|.nil
def Bf9 : Sts := zB 152 10<|zA 153 (.bin .add (.t 152) (zN 1))<|zB 10 153<|.nil
def Yv : RCode := (.seq (.seq (.reg Bf4) (.cond (.t 151) .skip (.exit 2))) (.seq (.block 3 (.seq (.reg Bf5) (.seq (.seq (.reg Bf6) (.cond (.t 180) (.seq (.reg Bf7) .ret) .skip)) (.reg Bf8)))) (.reg Bf9)))
def Bg0 : Sts := zG 12 0<|.nil
def Bg1 : Sts := zB 183 12<|zA 184 (.bin .lss (.t 183) (zN 3))<|.nil
def Bg2 : Sts := zG 13 0<|.nil
def Bg3 : Sts := zG 14 0<|.nil
def Bg4 : Sts := zB 187 14<|zB 188 0<|zA 189 (zM 188)<|zA 190 (.bin .lss (.t 187) (.t 189))<|.nil
def Bg5 : Sts := zA 193 (zI 1 3)<|zA 194 (zK 193)<|zB 195 14<|zA 196 (zH 1 194 195)<|zA 197 (.loadB (.t 196))<|zB 198 197<|.cnd 198 true (zB 199 0<|zB 200 14<|zA 201 (zH 6 199 200)<|zA 202 (zI 1 201)<|zA 203 (zI 1 202)<|zA 204 (zJ 203)<|zB 205 12<|zA 206 (.bin .eql (.t 204) (.t 205))<|.nil) 207 (.t 206)<|.nil
def Bg6 : Sts := zB 208 13<|zA 209 (.bin .add (.t 208) (zN 1))<|zB 13 209<|.nil
def Bg7 : Sts := zB 191 14<|zA 192 (.bin .add (.t 191) (zN 1))<|zB 14 192<|.nil
def Al1 : RCode := (.seq (.seq (.reg Bg4) (.cond (.t 190) .skip (.exit 6))) (.seq (.block 7 (.seq (.reg Bg5) (.cond (.t 207) (.reg Bg6) .skip))) (.reg Bg7)))
def Bg8 : Sts := zA 210 (zI 2 3)<|zA 211 (zK 210)<|zB 212 12<|zA 213 (zH 1 211 212)<|zA 214 (zK 213)<|zA 215 (zM 214)<|zB 216 13<|zA 217 (.bin .neq (.t 215) (.t 216))<|.nil
def Bg9 : Sts := zA 4 (.mv (.c (.bool false)))<|.nil
def Bh0 : Sts := zG 15 0<|.nil
def Bh1 : Sts := zB 218 15<|zB 219 13<|zA 220 (.bin .lss (.t 218) (.t 219))<|.nil
def Bh2 : Sts := zA 223 (zI 2 3)<|zA 224 (zK 223)<|zB 225 12<|zA 226 (zH 1 224 225)<|zA 227 (zK 226)<|zB 228 15<|zA 229 (zH 1 227 228)<|zA 230 (zJ 229)<|zB 16 230<|.nil
def Bh3 : Sts := zB 231 16<|zA 232 (.bin .lss (.t 231) (zN 0))<|zB 233 232<|.cnd 233 false (zB 234 16<|zB 235 0<|zA 236 (zM 235)<|zA 237 (.bin .geq (.t 234) (.t 236))<|.nil) 238 (.t 237)<|zB 239 238<|.cnd 239 false (zB 240 16<|zA 241 (.iaddrA 16 1 (.t 9) (.t 240))<|zA 242 (.loadB (.t 241))<|.nil) 243 (.t 242)<|zB 244 243<|.cnd 244 false (zA 245 (zI 1 3)<|zA 246 (zK 245)<|zB 247 16<|zA 248 (zH 1 246 247)<|zA 249 (.loadB (.t 248))<|zA 250 (.notb (.t 249))<|.nil) 251 (.t 250)<|zB 252 251<|.cnd 252 false (zB 253 0<|zB 254 16<|zA 255 (zH 6 253 254)<|zA 256 (zI 1 255)<|zA 257 (zI 1 256)<|zA 258 (zJ 257)<|zB 259 12<|zA 260 (.bin .neq (.t 258) (.t 259))<|.nil) 261 (.t 260)<|.nil
def Bh4 : Sts := zA 4 (.mv (.c (.bool false)))<|.nil
def Bh5 : Sts := zB 262 16<|zA 263 (.iaddrA 16 1 (.t 9) (.t 262))<|.op none (.store 1 (.t 263) (.c (.bool true)))<|.nil
def Bh6 : Sts := zB 221 15<|zA 222 (.bin .add (.t 221) (zN 1))<|zB 15 222<|.nil
def Al2 : RCode := (.seq (.seq (.reg Bh1) (.cond (.t 220) .skip (.exit 8))) (.seq (.block 9 (.seq (.reg Bh2) (.seq (.seq (.reg Bh3) (.cond (.t 261) (.seq (.reg Bh4) .ret) .skip)) (.reg Bh5)))) (.reg Bh6)))
def Bh7 : Sts := zB 185 12<|zA 186 (.bin .add (.t 185) (zN 1))<|zB 12 186<|.nil
def Un : RCode := (.seq (.seq (.reg Bg1) (.cond (.t 184) .skip (.exit 4))) (.seq (.block 5 (.seq (.reg Bg2) (.seq (.seq (.reg Bg3) (.block 6 (.loop Al1))) (.seq (.seq (.reg Bg8) (.cond (.t 217) (.seq (.reg Bg9) .ret) .skip)) (.seq (.reg Bh0) (.block 8 (.loop Al2))))))) (.reg Bh7)))
def Bh8 : Sts := zA 4 (.mv (.c (.bool true)))<|.nil
def Q89 : RFun := ⟨264, [0, 1, 3, 4, 5, 6, 7, 8, 9, 10, 11, 12, 13, 14, 15, 16], (.seq (.reg Df4) (.seq (.seq (.reg Df5) (.cond (.t 36) (.seq (.reg Df6) .ret) .skip)) (.seq (.reg Df7) (.seq (.seq (.reg Df8) (.block 0 (.loop Um))) (.seq (.seq (.reg Bf0) (.cond (.t 146) (.seq (.reg Bf1) .ret) .skip)) (.seq (.reg Bf2) (.seq (.seq (.reg Bf3) (.block 2 (.loop Yv))) (.seq (.seq (.reg Bg0) (.block 4 (.loop Un))) (.seq (.reg Bh8) .ret))))))))), [.tmp 4]⟩
theorem Q89_ok : Ai Tryz.prog [0, 1, 3, 4, 5, 6, 7, 8, 9, 10, 11, 12, 13, 14, 15, 16] [15, 20, 31, 71, 88, 41, 76, 86, 65, 83, 81, 114, 117, 119, 122, 68, 100, 103, 104, 105, 137, 138, 64, 72, 96, 99, 158, 159, 132, 56, 93, 94, 130, 131, 155, 62, 23, 170] 42 = some Q89 := by kernel_rfl

def Dg4 : Sts := zA 3 (.box 37 (.t 1))<|zA 4 (.mv (.c (.slice none 0 0)))<|zA 5 (.mv (.c (.slice none 0 0)))<|zA 6 (.mv (.c (.slice none 0 0)))<|.nil
def Dg5 : Sts := zB 15 0<|zA 16 (zM 15)<|zA 17 (.makeSl 3 1 8 [(.int .i64 0)] (.t 16) (.t 16))<|zB 7 17<|.nil
def Dg6 : Sts := zB 18 0<|zA 19 (zM 18)<|zA 20 (.makeSl 3 1 8 [(.int .i64 0)] (.t 19) (.t 19))<|zB 8 20<|.nil
def Dg7 : Sts := zB 21 0<|zA 22 (zM 21)<|zA 23 (.makeSl 4 1 1 [(.bool false)] (.t 22) (.t 22))<|zB 9 23<|.nil
def Dg8 : Sts := zB 24 0<|zA 25 (zM 24)<|zA 26 (.makeSl 4 1 1 [(.bool false)] (.t 25) (.t 25))<|zB 10 26<|.nil
def Dg9 : Sts := zG 11 0<|.nil
def Dh0 : Sts := zB 27 11<|zB 28 0<|zA 29 (zM 28)<|zA 30 (.bin .lss (.t 27) (.t 29))<|.nil
def Dh1 : Sts := zB 33 0<|zB 34 11<|zA 35 (zH 6 33 34)<|zA 36 (zI 1 35)<|zA 37 (.loadA 5 (.t 36))<|zA 12 (.alloc 83 [(.int .i64 0), (.int .i64 0), (.int .i64 0), (.int .i64 0), (.int .i64 0)])<|.op none (.store 5 (.t 12) (.t 37))<|.nil
def Dh2 : Sts := zB 38 10<|zB 39 11<|zA 40 (zI 0 12)<|zA 41 (zJ 40)<|zA 42 (.bin .neq (.t 41) (zN 2))<|zA 43 (zH 1 38 39)<|.op none (.store 1 (.t 43) (.t 42))<|.nil
def Dh3 : Sts := zA 44 (zI 0 12)<|zA 45 (zJ 44)<|.nil
def Bh9 : Sts := zA 47 (.bin .eql (.t 45) (zN 1))<|zB 46 47<|.nil
def Bi0 : Sts := zB 48 8<|zB 49 11<|zA 50 (zI 2 12)<|zA 51 (zJ 50)<|zA 52 (zH 1 48 49)<|.op none (.store 1 (.t 52) (.t 51))<|.nil
def Bi1 : Sts := zA 54 (.bin .eql (.t 45) (zN 3))<|zB 53 54<|.nil
def Bi2 : Sts := zA 55 (.bin .eql (.t 45) (zN 4))<|zB 53 55<|.nil
def Bi3 : Sts := zB 56 8<|zB 57 11<|zA 58 (zI 3 12)<|zA 59 (zJ 58)<|zA 60 (zH 1 56 57)<|.op none (.store 1 (.t 60) (.t 59))<|.nil
def Bi4 : Sts := zB 31 11<|zA 32 (.bin .add (.t 31) (zN 1))<|zB 11 32<|.nil
def Al3 : RCode := (.seq (.seq (.reg Dh0) (.cond (.t 30) .skip (.exit 0))) (.seq (.block 1 (.seq (.reg Dh1) (.seq (.reg Dh2) (.seq (.reg Dh3) (.block 2 (.seq (.reg Bh9) (.cond (.t 46) (.reg Bi0) (.seq (.seq (.reg Bi1) (.cond (.t 53) .skip (.reg Bi2))) (.cond (.t 53) (.reg Bi3) .skip))))))))) (.reg Bi4)))
def Bi5 : Sts := zG 13 0<|.nil
def Bi6 : Sts := zB 61 13<|zB 62 0<|zA 63 (zM 62)<|zA 64 (.bin .leq (.t 61) (.t 63))<|.nil
def Bi7 : Sts := zG 14 0<|.nil
def Bi8 : Sts := zB 67 14<|zB 68 0<|zA 69 (zM 68)<|zA 70 (.bin .lss (.t 67) (.t 69))<|.nil
def Ag3 : Sts := zB 73 9<|zB 74 14<|zA 75 (zH 1 73 74)<|zA 76 (.loadB (.t 75))<|zB 77 76<|.cnd 77 false (zA 78 (zI 0 3)<|zA 79 (zK 78)<|zB 80 14<|zA 81 (zH 1 79 80)<|zA 82 (zJ 81)<|zA 83 (.bin .geq (.t 82) (zN 0))<|zB 84 83<|.cnd 84 true (zB 85 10<|zA 86 (zI 0 3)<|zA 87 (zK 86)<|zB 88 14<|zA 89 (zH 1 87 88)<|zA 90 (zJ 89)<|zA 91 (zH 1 85 90)<|zA 92 (.loadB (.t 91))<|zA 93 (.notb (.t 92))<|.nil) 94 (.t 93)<|.nil) 95 (.t 94)<|.nil
def Ag4 : Sts := zB 96 9<|zB 97 14<|zA 98 (zH 1 96 97)<|.op none (.store 1 (.t 98) (.c (.bool true)))<|.nil
def Ag5 : Sts := zA 99 (zI 0 3)<|zA 100 (zK 99)<|zB 101 14<|zA 102 (zH 1 100 101)<|zA 103 (zJ 102)<|zA 104 (.bin .geq (.t 103) (zN 0))<|.nil
def Ag6 : Sts := zB 105 7<|zB 106 14<|zB 107 8<|zA 108 (zI 0 3)<|zA 109 (zK 108)<|zB 110 14<|zA 111 (zH 1 109 110)<|zA 112 (zJ 111)<|zA 113 (zH 1 107 112)<|zA 114 (zJ 113)<|zA 115 (zH 1 105 106)<|.op none (.store 1 (.t 115) (.t 114))<|.nil
def Ag7 : Sts := zB 116 0<|zB 117 14<|zA 118 (zH 6 116 117)<|zA 119 (zI 1 118)<|zA 120 (zI 0 119)<|zA 121 (zJ 120)<|zA 122 (.bin .eql (.t 121) (zN 2))<|.nil
def Vu : AT := .q (zD 0 123 8<|zD 1 124 14<|zD 2 125 7<|zD 3 126 14<|zC 4 127 (zH 1 125 126)<|zC 5 128 (zJ 127)<|zD 6 129 0<|zD 7 130 14<|zC 8 131 (zH 6 129 130)<|zC 9 132 (zI 1 131)<|zC 10 133 (zI 2 132)<|zC 11 134 (zJ 133)<|zC 12 135 (.bin .add (.t 128) (.t 134))<|zC 13 136 (zH 1 123 124)<|.nil)<|.s 14 none (.store 1 (.t 136) (.t 135)) true (zF<|.fin)<|.no
def Yw : Sts := zB 137 10<|zB 138 14<|zA 139 (zH 1 137 138)<|.op none (.store 1 (.t 139) (.c (.bool true)))<|.nil
def Yx : Sts := zB 71 14<|zA 72 (.bin .add (.t 71) (zN 1))<|zB 14 72<|.nil
def Al4 : RCode := (.seq (.seq (.reg Bi8) (.cond (.t 70) .skip (.exit 5))) (.seq (.block 6 (.seq (.seq (.reg Ag3) (.cond (.t 95) (.exit 6) .skip)) (.seq (.reg Ag4) (.seq (.seq (.reg Ag5) (.cond (.t 104) (.reg Ag6) .skip)) (.seq (.reg Ag7) (.cond (.t 122) (.seq (.any Vu) (.reg Yw)) .skip)))))) (.reg Yx)))
def Bi9 : Sts := zB 65 13<|zA 66 (.bin .add (.t 65) (zN 1))<|zB 13 66<|.nil
def Al5 : RCode := (.seq (.seq (.reg Bi6) (.cond (.t 64) .skip (.exit 3))) (.seq (.block 4 (.seq (.reg Bi7) (.block 5 (.loop Al4)))) (.reg Bi9)))
def Bj0 : Sts := zB 140 7<|zB 141 8<|zB 142 9<|zB 4 140<|zB 5 141<|zB 6 142<|.nil
def Q87 : RFun := ⟨143, [0, 1, 3, 4, 5, 6, 7, 8, 9, 10, 11, 12, 13, 14, 45], (.seq (.reg Dg4) (.seq (.reg Dg5) (.seq (.reg Dg6) (.seq (.reg Dg7) (.seq (.reg Dg8) (.seq (.seq (.reg Dg9) (.block 0 (.loop Al3))) (.seq (.seq (.reg Bi5) (.block 3 (.loop Al5))) (.seq (.reg Bj0) .ret)))))))), [.tmp 4, .tmp 5, .tmp 6]⟩
theorem Q87_ok : Ai Tryz.prog [0, 1, 3, 4, 5, 6, 7, 8, 9, 10, 11, 12, 13, 14, 45] [15, 20, 31, 71, 88, 41, 76, 86, 65, 83, 81, 114, 117, 119, 122, 68, 100, 103, 104, 105, 137, 138, 64, 72, 96, 99, 158, 159, 132, 56, 93, 94, 130, 131, 155, 62, 23, 170] 43 = some Q87 := by kernel_rfl

def Dh4 : Sts := zA 5 (.box 37 (.t 1))<|zA 8 (.mv (.c (.bool false)))<|.nil
def Dh5 : Sts := zG 9 0<|.nil
def Dh6 : Sts := zB 11 9<|zB 12 0<|zA 13 (zM 12)<|zA 14 (.bin .lss (.t 11) (.t 13))<|.nil
def Dh7 : Sts := zB 17 0<|zB 18 9<|zA 19 (zH 6 17 18)<|zA 20 (zI 1 19)<|zA 21 (.loadA 5 (.t 20))<|zA 10 (.alloc 83 [(.int .i64 0), (.int .i64 0), (.int .i64 0), (.int .i64 0), (.int .i64 0)])<|.op none (.store 5 (.t 10) (.t 21))<|.nil
def Dh8 : Sts := zB 22 3<|zB 23 9<|zA 24 (zH 1 22 23)<|zA 25 (.loadB (.t 24))<|zA 26 (.notb (.t 25))<|.nil
def Bj1 : AT := .q (zC 0 27 (zI 0 10)<|zC 1 28 (zJ 27)<|zC 2 29 (.bin .eql (.t 28) (zN 3))<|zD 3 30 29<|.g 30 true (zC 4 31 (zI 1 5)<|zC 5 32 (zK 31)<|zD 6 33 9<|zC 7 34 (zH 1 32 33)<|zC 8 35 (.loadB (.t 34))<|zD 9 36 2<|zD 10 37 9<|zC 11 38 (zH 1 36 37)<|zC 12 39 (zJ 38)<|zC 13 40 (zI 2 10)<|zC 14 41 (zJ 40)<|zC 15 42 (.bin .eql (.t 39) (.t 41))<|zC 16 43 (.eqb true (.t 35) (.t 42))<|.nil) 17 44 (.t 43)<|zD 18 45 44<|.g 45 false (zC 19 46 (zI 0 10)<|zC 20 47 (zJ 46)<|zC 21 48 (.bin .eql (.t 47) (zN 4))<|zD 22 49 48<|.g 49 true (zC 23 50 (zI 1 5)<|zC 24 51 (zK 50)<|zD 25 52 9<|zC 26 53 (zH 1 51 52)<|zC 27 54 (.loadB (.t 53))<|.nil) 28 55 (.t 54)<|zD 29 56 55<|.g 56 true (zD 30 57 2<|zD 31 58 9<|zC 32 59 (zH 1 57 58)<|zC 33 60 (zJ 59)<|zC 34 61 (zI 2 10)<|zC 35 62 (zJ 61)<|zC 36 63 (.bin .neq (.t 60) (.t 62))<|.nil) 37 64 (.t 63)<|.nil) 38 65 (.t 64)<|.nil)<|.fin
def Dh9 : Sts := zA 8 (.mv (.c (.bool false)))<|.nil
def Di0 : Sts := zB 15 9<|zA 16 (.bin .add (.t 15) (zN 1))<|zB 9 16<|.nil
def Bj2 : RCode := (.seq (.seq (.reg Dh6) (.cond (.t 14) .skip (.exit 0))) (.seq (.block 1 (.seq (.reg Dh7) (.seq (.seq (.reg Dh8) (.cond (.t 26) (.exit 1) .skip)) (.seq (.any Bj1) (.cond (.t 65) (.seq (.reg Dh9) .ret) .skip))))) (.reg Di0)))
def Di1 : Sts := zA 8 (.mv (.c (.bool true)))<|.nil
def Q93 : RFun := ⟨66, [0, 1, 2, 3, 5, 8, 9, 10], (.seq (.reg Dh4) (.seq (.seq (.reg Dh5) (.block 0 (.loop Bj2))) (.seq (.reg Di1) .ret))), [.tmp 8]⟩
theorem Q93_ok : Ai Tryz.prog [0, 1, 2, 3, 5, 8, 9, 10] [15, 20, 31, 71, 88, 41, 76, 86, 65, 83, 81, 114, 117, 119, 122, 68, 100, 103, 104, 105, 137, 138, 64, 72, 96, 99, 158, 159, 132, 56, 93, 94, 130, 131, 155, 62, 23, 170] 44 = some Q93 := by kernel_rfl

def Di2 : Sts := zA 3 (.box 37 (.t 1))<|zA 4 (.mv (.c (.slice none 0 0)))<|zA 5 (.mv (.c (.slice none 0 0)))<|zA 6 (.mv (.c (.bool false)))<|.nil
def Di3 : Sts := zB 12 0<|zA 13 (.loadA 4 (.t 3))<|zA 14 (.call 43 [(.t 12), (.t 13)])<|zB 11 14<|zA 15 (.extract 0 (.t 11))<|zA 16 (.extract 1 (.t 11))<|zA 17 (.extract 2 (.t 11))<|zB 7 15<|zB 8 16<|zB 9 17<|.nil
def Di4 : Sts := zG 10 0<|.nil
def Di5 : Sts := zB 18 10<|zB 19 0<|zA 20 (zM 19)<|zA 21 (.bin .lss (.t 18) (.t 20))<|.nil
def Di6 : Sts := zB 24 9<|zB 25 10<|zA 26 (zH 1 24 25)<|zA 27 (.loadB (.t 26))<|zA 28 (.notb (.t 27))<|.nil
def Di7 : Sts := zA 4 (.mv (.c (.slice none 0 0)))<|zA 5 (.mv (.c (.slice none 0 0)))<|zA 6 (.mv (.c (.bool false)))<|.nil
def Di8 : Sts := zB 22 10<|zA 23 (.bin .add (.t 22) (zN 1))<|zB 10 23<|.nil
def Bj3 : RCode := (.seq (.seq (.reg Di5) (.cond (.t 21) .skip (.exit 0))) (.seq (.block 1 (.seq (.reg Di6) (.cond (.t 28) (.seq (.reg Di7) .ret) .skip))) (.reg Di8)))
def Di9 : Sts := zB 29 7<|zB 30 8<|zB 4 29<|zB 5 30<|zA 6 (.mv (.c (.bool true)))<|.nil
def Q77 : RFun := ⟨31, [0, 1, 3, 4, 5, 6, 7, 8, 9, 10], (.seq (.reg Di2) (.seq (.reg Di3) (.seq (.seq (.reg Di4) (.block 0 (.loop Bj3))) (.seq (.reg Di9) .ret)))), [.tmp 4, .tmp 5, .tmp 6]⟩
theorem Q77_ok : Ai Tryz.prog [0, 1, 3, 4, 5, 6, 7, 8, 9, 10] [15, 20, 31, 71, 88, 41, 76, 86, 65, 83, 81, 114, 117, 119, 122, 68, 100, 103, 104, 105, 137, 138, 64, 72, 96, 99, 158, 159, 132, 56, 93, 94, 130, 131, 155, 62, 23, 170] 45 = some Q77 := by kernel_rfl

def Dj0 : Sts := zA 1 (.box 95 (.t 0))<|zA 2 (.mv (.c (.bool false)))<|.nil
def Dj1 : Sts := zG 3 0<|.nil
def Dj2 : Sts := zB 4 3<|zA 5 (.bin .lss (.t 4) (zN 16))<|.nil
def Dj3 : Sts := zB 8 3<|zA 9 (.iaddrA 16 1 (.t 1) (.t 8))<|zA 10 (.loadI .u64 (.t 9))<|zB 11 3<|zA 12 (.conv .u64 (.t 11))<|zA 13 (.bin .shr (.t 10) (.t 12))<|zA 14 (.bin .and (.t 13) (.c (.int .u64 1)))<|zA 15 (.bin .eql (.t 14) (.c (.int .u64 1)))<|.nil
def Dj4 : Sts := zA 2 (.mv (.c (.bool true)))<|.nil
def Dj5 : Sts := zB 6 3<|zA 7 (.bin .add (.t 6) (zN 1))<|zB 3 7<|.nil
def Bj4 : RCode := (.seq (.seq (.reg Dj2) (.cond (.t 5) .skip (.exit 0))) (.seq (.block 1 (.seq (.reg Dj3) (.cond (.t 15) (.seq (.reg Dj4) .ret) .skip))) (.reg Dj5)))
def Dj6 : Sts := zA 2 (.mv (.c (.bool false)))<|.nil
def Q80 : RFun := ⟨16, [0, 1, 2, 3], (.seq (.reg Dj0) (.seq (.seq (.reg Dj1) (.block 0 (.loop Bj4))) (.seq (.reg Dj6) .ret))), [.tmp 2]⟩
theorem Q80_ok : Ai Tryz.prog [0, 1, 2, 3] [15, 20, 31, 71, 88, 41, 76, 86, 65, 83, 81, 114, 117, 119, 122, 68, 100, 103, 104, 105, 137, 138, 64, 72, 96, 99, 158, 159, 132, 56, 93, 94, 130, 131, 155, 62, 23, 170] 46 = some Q80 := by kernel_rfl

def Dj7 : Sts := zA 1 (.box 95 (.t 0))<|zA 2 (.alloc 95 [(.int .u64 0), (.int .u64 0), (.int .u64 0), (.int .u64 0), (.int .u64 0), (.int .u64 0), (.int .u64 0), (.int .u64 0), (.int .u64 0), (.int .u64 0), (.int .u64 0), (.int .u64 0), (.int .u64 0), (.int .u64 0), (.int .u64 0), (.int .u64 0)])<|.nil
def Dj8 : Sts := zG 3 0<|.nil
def Dj9 : Sts := zB 5 3<|zA 6 (.bin .lss (.t 5) (zN 16))<|.nil
def Dk0 : Sts := zG 4 0<|.nil
def Dk1 : Sts := zB 9 4<|zA 10 (.bin .lss (.t 9) (zN 16))<|.nil
def Dk2 : Sts := zB 13 4<|zA 14 (.iaddrA 16 1 (.t 1) (.t 13))<|zA 15 (.loadI .u64 (.t 14))<|zB 16 3<|zA 17 (.conv .u64 (.t 16))<|zA 18 (.bin .shr (.t 15) (.t 17))<|zA 19 (.bin .and (.t 18) (.c (.int .u64 1)))<|zA 20 (.bin .eql (.t 19) (.c (.int .u64 1)))<|.nil
def Bj5 : AT := .q (zD 0 21 4<|zD 1 22 4<|zC 2 23 (.iaddrA 16 1 (.t 1) (.t 22))<|zC 3 24 (.loadI .u64 (.t 23))<|zD 4 25 3<|zC 5 26 (.iaddrA 16 1 (.t 1) (.t 25))<|zC 6 27 (.loadI .u64 (.t 26))<|zC 7 28 (.bin .or (.t 24) (.t 27))<|zC 8 29 (.iaddrA 16 1 (.t 1) (.t 21))<|.nil)<|.s 9 none (.store 1 (.t 29) (.t 28)) true (zF<|.fin)<|.no
def Dk3 : Sts := zB 11 4<|zA 12 (.bin .add (.t 11) (zN 1))<|zB 4 12<|.nil
def Bj6 : RCode := (.seq (.seq (.reg Dk1) (.cond (.t 10) .skip (.exit 2))) (.seq (.block 3 (.seq (.reg Dk2) (.cond (.t 20) (.any Bj5) .skip))) (.reg Dk3)))
def Dk4 : Sts := zB 7 3<|zA 8 (.bin .add (.t 7) (zN 1))<|zB 3 8<|.nil
def Bj7 : RCode := (.seq (.seq (.reg Dj9) (.cond (.t 6) .skip (.exit 0))) (.seq (.block 1 (.seq (.reg Dk0) (.block 2 (.loop Bj6)))) (.reg Dk4)))
def Dk5 : Sts := zA 30 (.loadA 16 (.t 1))<|.op none (.store 16 (.t 2) (.t 30))<|.nil
def Q81 : RFun := ⟨31, [0, 1, 2, 3, 4], (.seq (.reg Dj7) (.seq (.seq (.reg Dj8) (.block 0 (.loop Bj7))) (.seq (.reg Dk5) .ret))), [.cellA 2 16]⟩
theorem Q81_ok : Ai Tryz.prog [0, 1, 2, 3, 4] [15, 20, 31, 71, 88, 41, 76, 86, 65, 83, 81, 114, 117, 119, 122, 68, 100, 103, 104, 105, 137, 138, 64, 72, 96, 99, 158, 159, 132, 56, 93, 94, 130, 131, 155, 62, 23, 170] 47 = some Q81 := by kernel_rfl

def Dk6 : Sts := zA 2 (.box 95 (.t 0))<|zA 3 (.box 95 (.t 1))<|zA 4 (.alloc 95 [(.int .u64 0), (.int .u64 0), (.int .u64 0), (.int .u64 0), (.int .u64 0), (.int .u64 0), (.int .u64 0), (.int .u64 0), (.int .u64 0), (.int .u64 0), (.int .u64 0), (.int .u64 0), (.int .u64 0), (.int .u64 0), (.int .u64 0), (.int .u64 0)])<|.nil
def Dk7 : Sts := zG 5 0<|.nil
def Dk8 : Sts := zB 6 5<|zA 7 (.bin .lss (.t 6) (zN 16))<|.nil
def Bj8 : AT := .q (zD 0 10 5<|zD 1 11 5<|zC 2 12 (.iaddrA 16 1 (.t 2) (.t 11))<|zC 3 13 (.loadI .u64 (.t 12))<|zD 4 14 5<|zC 5 15 (.iaddrA 16 1 (.t 3) (.t 14))<|zC 6 16 (.loadI .u64 (.t 15))<|zC 7 17 (.bin .or (.t 13) (.t 16))<|zC 8 18 (.iaddrA 16 1 (.t 2) (.t 10))<|.nil)<|.s 9 none (.store 1 (.t 18) (.t 17)) true (zF<|.fin)<|.no
def Dk9 : Sts := zB 8 5<|zA 9 (.bin .add (.t 8) (zN 1))<|zB 5 9<|.nil
def Bj9 : RCode := (.seq (.seq (.reg Dk8) (.cond (.t 7) .skip (.exit 0))) (.seq (.block 1 (.any Bj8)) (.reg Dk9)))
def Dl0 : Sts := zA 19 (.loadA 16 (.t 2))<|.op none (.store 16 (.t 4) (.t 19))<|.nil
def Q92 : RFun := ⟨20, [0, 1, 2, 3, 4, 5], (.seq (.reg Dk6) (.seq (.seq (.reg Dk7) (.block 0 (.loop Bj9))) (.seq (.reg Dl0) .ret))), [.cellA 4 16]⟩
theorem Q92_ok : Ai Tryz.prog [0, 1, 2, 3, 4, 5] [15, 20, 31, 71, 88, 41, 76, 86, 65, 83, 81, 114, 117, 119, 122, 68, 100, 103, 104, 105, 137, 138, 64, 72, 96, 99, 158, 159, 132, 56, 93, 94, 130, 131, 155, 62, 23, 170] 48 = some Q92 := by kernel_rfl

def Dl1 : Sts := zA 2 (.alloc 95 [(.int .u64 0), (.int .u64 0), (.int .u64 0), (.int .u64 0), (.int .u64 0), (.int .u64 0), (.int .u64 0), (.int .u64 0), (.int .u64 0), (.int .u64 0), (.int .u64 0), (.int .u64 0), (.int .u64 0), (.int .u64 0), (.int .u64 0), (.int .u64 0)])<|.nil
def Dl2 : Sts := zA 3 (.alloc 95 [(.int .u64 0), (.int .u64 0), (.int .u64 0), (.int .u64 0), (.int .u64 0), (.int .u64 0), (.int .u64 0), (.int .u64 0), (.int .u64 0), (.int .u64 0), (.int .u64 0), (.int .u64 0), (.int .u64 0), (.int .u64 0), (.int .u64 0), (.int .u64 0)])<|.nil
def Dl3 : Sts := zG 4 0<|.nil
def Dl4 : Sts := zB 6 4<|zB 7 0<|zA 8 (zM 7)<|zA 9 (.bin .lss (.t 6) (.t 8))<|.nil
def Dl5 : Sts := zB 12 4<|zA 13 (.bin .add (.t 12) (zN 1))<|zB 5 13<|.nil
def Dl6 : Sts := zB 14 5<|zB 15 0<|zA 16 (zM 15)<|zA 17 (.bin .lss (.t 14) (.t 16))<|.nil
def Bk0 : AT := .q (zD 0 20 0<|zD 1 21 4<|zC 2 22 (zH 6 20 21)<|zC 3 23 (zI 0 22)<|zC 4 24 (zJ 23)<|zD 5 25 0<|zD 6 26 5<|zC 7 27 (zH 6 25 26)<|zC 8 28 (zI 0 27)<|zC 9 29 (zJ 28)<|zC 10 30 (.bin .eql (.t 24) (.t 29))<|.nil)<|.fin
def Dl7 : Sts := zB 31 4<|zB 32 4<|zA 33 (.iaddrA 16 1 (.t 3) (.t 32))<|zA 34 (.loadI .u64 (.t 33))<|zB 35 5<|zA 36 (.conv .u64 (.t 35))<|zA 37 (.bin .shl (.c (.int .u64 1)) (.t 36))<|zA 38 (.bin .or (.t 34) (.t 37))<|zA 39 (.iaddrA 16 1 (.t 3) (.t 31))<|.op none (.store 1 (.t 39) (.t 38))<|.nil
def Dl8 : Sts := zB 18 5<|zA 19 (.bin .add (.t 18) (zN 1))<|zB 5 19<|.nil
def Bk1 : RCode := (.seq (.seq (.reg Dl6) (.cond (.t 17) .skip (.exit 2))) (.seq (.block 3 (.seq (.any Bk0) (.cond (.t 30) (.reg Dl7) .skip))) (.reg Dl8)))
def Dl9 : Sts := zB 10 4<|zA 11 (.bin .add (.t 10) (zN 1))<|zB 4 11<|.nil
def Al6 : RCode := (.seq (.seq (.reg Dl4) (.cond (.t 9) .skip (.exit 0))) (.seq (.block 1 (.seq (.reg Dl5) (.block 2 (.loop Bk1)))) (.reg Dl9)))
def Bk2 : Sts := zA 40 (.loadA 16 (.t 3))<|.op none (.store 16 (.t 2) (.t 40))<|.nil
def Q90 : RFun := ⟨41, [0, 2, 3, 4, 5], (.seq (.reg Dl1) (.seq (.reg Dl2) (.seq (.seq (.reg Dl3) (.block 0 (.loop Al6))) (.seq (.reg Bk2) .ret)))), [.cellA 2 16]⟩
theorem Q90_ok : Ai Tryz.prog [0, 2, 3, 4, 5] [15, 20, 31, 71, 88, 41, 76, 86, 65, 83, 81, 114, 117, 119, 122, 68, 100, 103, 104, 105, 137, 138, 64, 72, 96, 99, 158, 159, 132, 56, 93, 94, 130, 131, 155, 62, 23, 170] 49 = some Q90 := by kernel_rfl

def Dm0 : Sts := zA 3 (.box 37 (.t 1))<|zA 4 (.alloc 95 [(.int .u64 0), (.int .u64 0), (.int .u64 0), (.int .u64 0), (.int .u64 0), (.int .u64 0), (.int .u64 0), (.int .u64 0), (.int .u64 0), (.int .u64 0), (.int .u64 0), (.int .u64 0), (.int .u64 0), (.int .u64 0), (.int .u64 0), (.int .u64 0)])<|.nil
def Dm1 : Sts := zA 5 (.alloc 95 [(.int .u64 0), (.int .u64 0), (.int .u64 0), (.int .u64 0), (.int .u64 0), (.int .u64 0), (.int .u64 0), (.int .u64 0), (.int .u64 0), (.int .u64 0), (.int .u64 0), (.int .u64 0), (.int .u64 0), (.int .u64 0), (.int .u64 0), (.int .u64 0)])<|.nil
def Dm2 : Sts := zG 6 0<|.nil
def Dm3 : Sts := zB 7 6<|zB 8 0<|zA 9 (zM 8)<|zA 10 (.bin .lss (.t 7) (.t 9))<|.nil
def Dm4 : Sts := zA 13 (zI 0 3)<|zA 14 (zK 13)<|zB 15 6<|zA 16 (zH 1 14 15)<|zA 17 (zJ 16)<|zA 18 (.bin .geq (.t 17) (zN 0))<|.nil
def Bk3 : AT := .q (zC 0 19 (zI 0 3)<|zC 1 20 (zK 19)<|zD 2 21 6<|zC 3 22 (zH 1 20 21)<|zC 4 23 (zJ 22)<|zC 5 24 (zI 0 3)<|zC 6 25 (zK 24)<|zD 7 26 6<|zC 8 27 (zH 1 25 26)<|zC 9 28 (zJ 27)<|zC 10 29 (.iaddrA 16 1 (.t 5) (.t 28))<|zC 11 30 (.loadI .u64 (.t 29))<|zD 12 31 6<|zC 13 32 (.conv .u64 (.t 31))<|zC 14 33 (.bin .shl (.c (.int .u64 1)) (.t 32))<|zC 15 34 (.bin .or (.t 30) (.t 33))<|zC 16 35 (.iaddrA 16 1 (.t 5) (.t 23))<|.nil)<|.s 17 none (.store 1 (.t 35) (.t 34)) true (zF<|.fin)<|.no
def Dm5 : Sts := zB 11 6<|zA 12 (.bin .add (.t 11) (zN 1))<|zB 6 12<|.nil
def Bk4 : RCode := (.seq (.seq (.reg Dm3) (.cond (.t 10) .skip (.exit 0))) (.seq (.block 1 (.seq (.reg Dm4) (.cond (.t 18) (.any Bk3) .skip))) (.reg Dm5)))
def Dm6 : Sts := zA 36 (.loadA 16 (.t 5))<|.op none (.store 16 (.t 4) (.t 36))<|.nil
def Q83 : RFun := ⟨37, [0, 1, 3, 4, 5, 6], (.seq (.reg Dm0) (.seq (.reg Dm1) (.seq (.seq (.reg Dm2) (.block 0 (.loop Bk4))) (.seq (.reg Dm6) .ret)))), [.cellA 4 16]⟩
theorem Q83_ok : Ai Tryz.prog [0, 1, 3, 4, 5, 6] [15, 20, 31, 71, 88, 41, 76, 86, 65, 83, 81, 114, 117, 119, 122, 68, 100, 103, 104, 105, 137, 138, 64, 72, 96, 99, 158, 159, 132, 56, 93, 94, 130, 131, 155, 62, 23, 170] 50 = some Q83 := by kernel_rfl

def Dm7 : Sts := zA 1 (.box 37 (.t 0))<|zA 2 (.alloc 95 [(.int .u64 0), (.int .u64 0), (.int .u64 0), (.int .u64 0), (.int .u64 0), (.int .u64 0), (.int .u64 0), (.int .u64 0), (.int .u64 0), (.int .u64 0), (.int .u64 0), (.int .u64 0), (.int .u64 0), (.int .u64 0), (.int .u64 0), (.int .u64 0)])<|.nil
def Dm8 : Sts := zA 3 (.alloc 95 [(.int .u64 0), (.int .u64 0), (.int .u64 0), (.int .u64 0), (.int .u64 0), (.int .u64 0), (.int .u64 0), (.int .u64 0), (.int .u64 0), (.int .u64 0), (.int .u64 0), (.int .u64 0), (.int .u64 0), (.int .u64 0), (.int .u64 0), (.int .u64 0)])<|.nil
def Dm9 : Sts := zG 4 0<|.nil
def Dn0 : Sts := zB 6 4<|zA 7 (zI 3 1)<|zA 8 (zK 7)<|zA 9 (zM 8)<|zA 10 (.bin .lss (.t 6) (.t 9))<|.nil
def Dn1 : Sts := zB 13 4<|zA 14 (.bin .add (.t 13) (zN 1))<|zB 5 14<|.nil
def Dn2 : Sts := zB 15 5<|zA 16 (zI 3 1)<|zA 17 (zK 16)<|zA 18 (zM 17)<|zA 19 (.bin .lss (.t 15) (.t 18))<|.nil
def Bk5 : AT := .q (zC 0 22 (zI 3 1)<|zC 1 23 (zK 22)<|zD 2 24 4<|zC 3 25 (zH 1 23 24)<|zC 4 26 (zJ 25)<|zC 5 27 (zI 3 1)<|zC 6 28 (zK 27)<|zD 7 29 4<|zC 8 30 (zH 1 28 29)<|zC 9 31 (zJ 30)<|zC 10 32 (.iaddrA 16 1 (.t 3) (.t 31))<|zC 11 33 (.loadI .u64 (.t 32))<|zC 12 34 (zI 3 1)<|zC 13 35 (zK 34)<|zD 14 36 5<|zC 15 37 (zH 1 35 36)<|zC 16 38 (zJ 37)<|zC 17 39 (.conv .u64 (.t 38))<|zC 18 40 (.bin .shl (.c (.int .u64 1)) (.t 39))<|zC 19 41 (.bin .or (.t 33) (.t 40))<|zC 20 42 (.iaddrA 16 1 (.t 3) (.t 26))<|.nil)<|.s 21 none (.store 1 (.t 42) (.t 41)) true (zF<|.fin)<|.no
def Dn3 : Sts := zB 20 5<|zA 21 (.bin .add (.t 20) (zN 1))<|zB 5 21<|.nil
def Bk6 : RCode := (.seq (.seq (.reg Dn2) (.cond (.t 19) .skip (.exit 2))) (.seq (.block 3 (.any Bk5)) (.reg Dn3)))
def Dn4 : Sts := zB 11 4<|zA 12 (.bin .add (.t 11) (zN 1))<|zB 4 12<|.nil
def Bk7 : RCode := (.seq (.seq (.reg Dn0) (.cond (.t 10) .skip (.exit 0))) (.seq (.block 1 (.seq (.reg Dn1) (.block 2 (.loop Bk6)))) (.reg Dn4)))
def Dn5 : Sts := zA 43 (.loadA 16 (.t 3))<|.op none (.store 16 (.t 2) (.t 43))<|.nil
def Q91 : RFun := ⟨44, [0, 1, 2, 3, 4, 5], (.seq (.reg Dm7) (.seq (.reg Dm8) (.seq (.seq (.reg Dm9) (.block 0 (.loop Bk7))) (.seq (.reg Dn5) .ret)))), [.cellA 2 16]⟩
theorem Q91_ok : Ai Tryz.prog [0, 1, 2, 3, 4, 5] [15, 20, 31, 71, 88, 41, 76, 86, 65, 83, 81, 114, 117, 119, 122, 68, 100, 103, 104, 105, 137, 138, 64, 72, 96, 99, 158, 159, 132, 56, 93, 94, 130, 131, 155, 62, 23, 170] 51 = some Q91 := by kernel_rfl

def Dn6 : Sts := zA 2 (.box 95 (.t 0))<|zA 3 (.box 95 (.t 1))<|zA 4 (.mv (.c (.bool false)))<|.nil
def Dn7 : Sts := zA 7 (.loadA 16 (.t 2))<|zA 8 (.call 46 [(.t 7)])<|.nil
def Dn8 : Sts := zA 4 (.mv (.c (.bool true)))<|.nil
def Dn9 : Sts := zG 5 0<|.nil
def Do0 : Sts := zB 9 5<|zA 10 (.bin .lss (.t 9) (zN 16))<|.nil
def Do1 : Sts := zG 6 0<|.nil
def Do2 : Sts := zB 13 6<|zA 14 (.bin .lss (.t 13) (zN 16))<|.nil
def Do3 : Sts := zB 17 5<|zA 18 (.iaddrA 16 1 (.t 2) (.t 17))<|zA 19 (.loadI .u64 (.t 18))<|zB 20 6<|zA 21 (.conv .u64 (.t 20))<|zA 22 (.bin .shr (.t 19) (.t 21))<|zA 23 (.bin .and (.t 22) (.c (.int .u64 1)))<|zA 24 (.bin .eql (.t 23) (.c (.int .u64 1)))<|zB 25 24<|.cnd 25 true (zB 26 6<|zA 27 (.iaddrA 16 1 (.t 3) (.t 26))<|zA 28 (.loadI .u64 (.t 27))<|zB 29 5<|zA 30 (.conv .u64 (.t 29))<|zA 31 (.bin .shr (.t 28) (.t 30))<|zA 32 (.bin .and (.t 31) (.c (.int .u64 1)))<|zA 33 (.bin .eql (.t 32) (.c (.int .u64 1)))<|.nil) 34 (.t 33)<|.nil
def Do4 : Sts := zA 4 (.mv (.c (.bool true)))<|.nil
def Do5 : Sts := zB 15 6<|zA 16 (.bin .add (.t 15) (zN 1))<|zB 6 16<|.nil
def Al7 : RCode := (.seq (.seq (.reg Do2) (.cond (.t 14) .skip (.exit 2))) (.seq (.block 3 (.seq (.reg Do3) (.cond (.t 34) (.seq (.reg Do4) .ret) .skip))) (.reg Do5)))
def Bk8 : Sts := zB 11 5<|zA 12 (.bin .add (.t 11) (zN 1))<|zB 5 12<|.nil
def Al8 : RCode := (.seq (.seq (.reg Do0) (.cond (.t 10) .skip (.exit 0))) (.seq (.block 1 (.seq (.reg Do1) (.block 2 (.loop Al7)))) (.reg Bk8)))
def Bk9 : Sts := zA 4 (.mv (.c (.bool false)))<|.nil
def Q79 : RFun := ⟨35, [0, 1, 2, 3, 4, 5, 6], (.seq (.reg Dn6) (.seq (.seq (.reg Dn7) (.cond (.t 8) (.seq (.reg Dn8) .ret) .skip)) (.seq (.seq (.reg Dn9) (.block 0 (.loop Al8))) (.seq (.reg Bk9) .ret)))), [.tmp 4]⟩
theorem Q79_ok : Ai Tryz.prog [0, 1, 2, 3, 4, 5, 6] [15, 20, 31, 71, 88, 41, 76, 86, 65, 83, 81, 114, 117, 119, 122, 68, 100, 103, 104, 105, 137, 138, 64, 72, 96, 99, 158, 159, 132, 56, 93, 94, 130, 131, 155, 62, 23, 170] 52 = some Q79 := by kernel_rfl

def Do6 : Sts := zA 3 (.box 37 (.t 1))<|zA 4 (.alloc 95 [(.int .u64 0), (.int .u64 0), (.int .u64 0), (.int .u64 0), (.int .u64 0), (.int .u64 0), (.int .u64 0), (.int .u64 0), (.int .u64 0), (.int .u64 0), (.int .u64 0), (.int .u64 0), (.int .u64 0), (.int .u64 0), (.int .u64 0), (.int .u64 0)])<|.nil
def Bl0 : AT := .q (zD 0 5 0<|zD 2 7 0<|zC 3 8 (.loadA 4 (.t 3))<|zC 5 10 (.loadA 4 (.t 3))<|.nil)<|zE 1 6 (.call 49 [(.t 5)]) false (zF<|zE 4 9 (.call 95 [(.t 7), (.t 8)]) false (zF<|zE 6 11 (.call 51 [(.t 10)]) true (zF<|zE 7 12 (.call 48 [(.t 9), (.t 11)]) true (zF<|zE 8 13 (.call 48 [(.t 6), (.t 12)]) true (zF<|zE 9 14 (.call 47 [(.t 13)]) true (zF<|.s 10 none (.store 16 (.t 4) (.t 14)) true (zF<|.fin)<|.no)<|.no)<|.no)<|.no)<|.no)<|.no)<|.no
def Q78 : RFun := ⟨15, [0, 1, 3, 4], (.seq (.reg Do6) (.seq (.any Bl0) .ret)), [.cellA 4 16]⟩
theorem Q78_ok : Ai Tryz.prog [0, 1, 3, 4] [15, 20, 31, 71, 88, 41, 76, 86, 65, 83, 81, 114, 117, 119, 122, 68, 100, 103, 104, 105, 137, 138, 64, 72, 96, 99, 158, 159, 132, 56, 93, 94, 130, 131, 155, 62, 23, 170] 53 = some Q78 := by kernel_rfl

def Do7 : Sts := zA 3 (.box 37 (.t 1))<|zA 4 (.alloc 95 [(.int .u64 0), (.int .u64 0), (.int .u64 0), (.int .u64 0), (.int .u64 0), (.int .u64 0), (.int .u64 0), (.int .u64 0), (.int .u64 0), (.int .u64 0), (.int .u64 0), (.int .u64 0), (.int .u64 0), (.int .u64 0), (.int .u64 0), (.int .u64 0)])<|.nil
def Do8 : Sts := zB 12 0<|zA 13 (.loadA 4 (.t 3))<|zA 14 (.call 50 [(.t 12), (.t 13)])<|zA 5 (.alloc 95 [(.int .u64 0), (.int .u64 0), (.int .u64 0), (.int .u64 0), (.int .u64 0), (.int .u64 0), (.int .u64 0), (.int .u64 0), (.int .u64 0), (.int .u64 0), (.int .u64 0), (.int .u64 0), (.int .u64 0), (.int .u64 0), (.int .u64 0), (.int .u64 0)])<|.op none (.store 16 (.t 5) (.t 14))<|.nil
def Do9 : Sts := zG 6 0<|.nil
def Dp0 : Sts := zB 15 6<|zA 16 (.bin .lss (.t 15) (zN 3))<|.nil
def Dp1 : Sts := zG 7 0<|.nil
def Dp2 : Sts := zB 19 7<|zA 20 (zI 2 3)<|zA 21 (zK 20)<|zB 22 6<|zA 23 (zH 1 21 22)<|zA 24 (zK 23)<|zA 25 (zM 24)<|zA 26 (.bin .lss (.t 19) (.t 25))<|.nil
def Dp3 : Sts := zA 29 (zI 2 3)<|zA 30 (zK 29)<|zB 31 6<|zA 32 (zH 1 30 31)<|zA 33 (zK 32)<|zB 34 7<|zA 35 (zH 1 33 34)<|zA 36 (zJ 35)<|zB 8 36<|.nil
def Dp4 : Sts := zB 37 7<|zA 38 (.bin .add (.t 37) (zN 1))<|zB 9 38<|.nil
def Dp5 : Sts := zB 39 9<|zA 40 (zI 2 3)<|zA 41 (zK 40)<|zB 42 6<|zA 43 (zH 1 41 42)<|zA 44 (zK 43)<|zA 45 (zM 44)<|zA 46 (.bin .lss (.t 39) (.t 45))<|.nil
def Bl1 : AT := .q (zD 0 49 8<|zD 1 50 8<|zC 2 51 (.iaddrA 16 1 (.t 5) (.t 50))<|zC 3 52 (.loadI .u64 (.t 51))<|zC 4 53 (zI 2 3)<|zC 5 54 (zK 53)<|zD 6 55 6<|zC 7 56 (zH 1 54 55)<|zC 8 57 (zK 56)<|zD 9 58 9<|zC 10 59 (zH 1 57 58)<|zC 11 60 (zJ 59)<|zC 12 61 (.conv .u64 (.t 60))<|zC 13 62 (.bin .shl (.c (.int .u64 1)) (.t 61))<|zC 14 63 (.bin .or (.t 52) (.t 62))<|zC 15 64 (.iaddrA 16 1 (.t 5) (.t 49))<|.nil)<|.s 16 none (.store 1 (.t 64) (.t 63)) true (zF<|.fin)<|.no
def Bl2 : Sts := zB 47 9<|zA 48 (.bin .add (.t 47) (zN 1))<|zB 9 48<|.nil
def Al9 : RCode := (.seq (.seq (.reg Dp5) (.cond (.t 46) .skip (.exit 4))) (.seq (.block 5 (.any Bl1)) (.reg Bl2)))
def Bl3 : Sts := zG 10 0<|.nil
def Bl4 : Sts := zB 65 10<|zB 66 0<|zA 67 (zM 66)<|zA 68 (.bin .lss (.t 65) (.t 67))<|.nil
def Bl5 : Sts := zA 71 (zI 0 3)<|zA 72 (zK 71)<|zB 73 10<|zA 74 (zH 1 72 73)<|zA 75 (zJ 74)<|zA 76 (.bin .eql (.t 75) (.c (.int .i64 (-1))))<|zB 77 76<|.cnd 77 true (zB 78 0<|zB 79 10<|zA 80 (zH 6 78 79)<|zA 81 (zI 1 80)<|zA 82 (zI 1 81)<|zA 83 (zJ 82)<|zB 84 6<|zA 85 (.bin .eql (.t 83) (.t 84))<|.nil) 86 (.t 85)<|zB 87 86<|.cnd 87 true (zB 88 8<|zB 89 10<|zA 90 (.bin .neq (.t 88) (.t 89))<|.nil) 91 (.t 90)<|.nil
def Bl6 : Sts := zB 92 10<|zB 93 10<|zA 94 (.iaddrA 16 1 (.t 5) (.t 93))<|zA 95 (.loadI .u64 (.t 94))<|zB 96 8<|zA 97 (.conv .u64 (.t 96))<|zA 98 (.bin .shl (.c (.int .u64 1)) (.t 97))<|zA 99 (.bin .or (.t 95) (.t 98))<|zA 100 (.iaddrA 16 1 (.t 5) (.t 92))<|.op none (.store 1 (.t 100) (.t 99))<|.nil
def Bl7 : Sts := zB 101 7<|zA 102 (.bin .add (.t 101) (zN 1))<|zB 11 102<|.nil
def Bl8 : Sts := zB 103 11<|zA 104 (zI 2 3)<|zA 105 (zK 104)<|zB 106 6<|zA 107 (zH 1 105 106)<|zA 108 (zK 107)<|zA 109 (zM 108)<|zA 110 (.bin .lss (.t 103) (.t 109))<|.nil
def Bl9 : Sts := zA 113 (zI 0 3)<|zA 114 (zK 113)<|zB 115 10<|zA 116 (zH 1 114 115)<|zA 117 (zJ 116)<|zB 118 8<|zA 119 (.bin .eql (.t 117) (.t 118))<|zB 120 119<|.cnd 120 true (zA 121 (zI 2 3)<|zA 122 (zK 121)<|zB 123 6<|zA 124 (zH 1 122 123)<|zA 125 (zK 124)<|zB 126 11<|zA 127 (zH 1 125 126)<|zA 128 (zJ 127)<|zB 129 10<|zA 130 (.bin .neq (.t 128) (.t 129))<|.nil) 131 (.t 130)<|.nil
def Ag8 : AT := .q (zD 0 132 10<|zD 1 133 10<|zC 2 134 (.iaddrA 16 1 (.t 5) (.t 133))<|zC 3 135 (.loadI .u64 (.t 134))<|zC 4 136 (zI 2 3)<|zC 5 137 (zK 136)<|zD 6 138 6<|zC 7 139 (zH 1 137 138)<|zC 8 140 (zK 139)<|zD 9 141 11<|zC 10 142 (zH 1 140 141)<|zC 11 143 (zJ 142)<|zC 12 144 (.conv .u64 (.t 143))<|zC 13 145 (.bin .shl (.c (.int .u64 1)) (.t 144))<|zC 14 146 (.bin .or (.t 135) (.t 145))<|zC 15 147 (.iaddrA 16 1 (.t 5) (.t 132))<|.nil)<|.s 16 none (.store 1 (.t 147) (.t 146)) true (zF<|.fin)<|.no
def Bm0 : Sts := zB 111 11<|zA 112 (.bin .add (.t 111) (zN 1))<|zB 11 112<|.nil
def Am0 : RCode := (.seq (.seq (.reg Bl8) (.cond (.t 110) .skip (.exit 8))) (.seq (.block 9 (.seq (.reg Bl9) (.cond (.t 131) (.any Ag8) .skip))) (.reg Bm0)))
def Bm1 : Sts := zB 69 10<|zA 70 (.bin .add (.t 69) (zN 1))<|zB 10 70<|.nil
def Am1 : RCode := (.seq (.seq (.reg Bl4) (.cond (.t 68) .skip (.exit 6))) (.seq (.block 7 (.seq (.seq (.reg Bl5) (.cond (.t 91) (.reg Bl6) .skip)) (.seq (.reg Bl7) (.block 8 (.loop Am0))))) (.reg Bm1)))
def Bm2 : Sts := zB 27 7<|zA 28 (.bin .add (.t 27) (zN 1))<|zB 7 28<|.nil
def Am2 : RCode := (.seq (.seq (.reg Dp2) (.cond (.t 26) .skip (.exit 2))) (.seq (.block 3 (.seq (.reg Dp3) (.seq (.seq (.reg Dp4) (.block 4 (.loop Al9))) (.seq (.reg Bl3) (.block 6 (.loop Am1)))))) (.reg Bm2)))
def Bm3 : Sts := zB 17 6<|zA 18 (.bin .add (.t 17) (zN 1))<|zB 6 18<|.nil
def Am3 : RCode := (.seq (.seq (.reg Dp0) (.cond (.t 16) .skip (.exit 0))) (.seq (.block 1 (.seq (.reg Dp1) (.block 2 (.loop Am2)))) (.reg Bm3)))
def Bm4 : Sts := zA 148 (.loadA 16 (.t 5))<|zA 149 (.call 47 [(.t 148)])<|.op none (.store 16 (.t 4) (.t 149))<|.nil
def Q88 : RFun := ⟨150, [0, 1, 3, 4, 5, 6, 7, 8, 9, 10, 11], (.seq (.reg Do7) (.seq (.reg Do8) (.seq (.seq (.reg Do9) (.block 0 (.loop Am3))) (.seq (.reg Bm4) .ret)))), [.cellA 4 16]⟩
theorem Q88_ok : Ai Tryz.prog [0, 1, 3, 4, 5, 6, 7, 8, 9, 10, 11] [15, 20, 31, 71, 88, 41, 76, 86, 65, 83, 81, 114, 117, 119, 122, 68, 100, 103, 104, 105, 137, 138, 64, 72, 96, 99, 158, 159, 132, 56, 93, 94, 130, 131, 155, 62, 23, 170] 54 = some Q88 := by kernel_rfl

def Dp6 : Sts := zA 3 (.box 37 (.t 1))<|zA 4 (.mv (.c (.bool false)))<|.nil
def Dp7 : Sts := zG 5 0<|.nil
def Dp8 : Sts := zB 9 5<|zA 10 (.bin .lss (.t 9) (zN 3))<|.nil
def Dp9 : Sts := zG 6 0<|.nil
def Dq0 : Sts := zB 13 6<|zA 14 (zI 2 3)<|zA 15 (zK 14)<|zB 16 5<|zA 17 (zH 1 15 16)<|zA 18 (zK 17)<|zA 19 (zM 18)<|zA 20 (.bin .lss (.t 13) (.t 19))<|.nil
def Dq1 : Sts := zA 23 (zI 2 3)<|zA 24 (zK 23)<|zB 25 5<|zA 26 (zH 1 24 25)<|zA 27 (zK 26)<|zB 28 6<|zA 29 (zH 1 27 28)<|zA 30 (zJ 29)<|zB 7 30<|.nil
def Dq2 : Sts := zA 8 (.mv (.c (.int .i64 (-1))))<|.nil
def Dq3 : Sts := zB 31 6<|zA 32 (.bin .gtr (.t 31) (zN 0))<|.nil
def Dq4 : Sts := zA 33 (zI 2 3)<|zA 34 (zK 33)<|zB 35 5<|zA 36 (zH 1 34 35)<|zA 37 (zK 36)<|zB 38 6<|zA 39 (.bin .sub (.t 38) (zN 1))<|zA 40 (zH 1 37 39)<|zA 41 (zJ 40)<|zB 8 41<|.nil
def Dq5 : Sts := zB 42 0<|zB 43 7<|zA 44 (zH 6 42 43)<|zA 45 (zI 1 44)<|zA 46 (.loadA 5 (.t 45))<|zA 47 (.call 56 [(.t 46)])<|zB 48 47<|.cnd 48 true (zA 49 (zI 0 3)<|zA 50 (zK 49)<|zB 51 7<|zA 52 (zH 1 50 51)<|zA 53 (zJ 52)<|zB 54 8<|zA 55 (.bin .neq (.t 53) (.t 54))<|.nil) 56 (.t 55)<|.nil
def Bm5 : Sts := zA 4 (.mv (.c (.bool false)))<|.nil
def Bm6 : Sts := zB 21 6<|zA 22 (.bin .add (.t 21) (zN 1))<|zB 6 22<|.nil
def Am4 : RCode := (.seq (.seq (.reg Dq0) (.cond (.t 20) .skip (.exit 2))) (.seq (.block 3 (.seq (.reg Dq1) (.seq (.reg Dq2) (.seq (.seq (.reg Dq3) (.cond (.t 32) (.reg Dq4) .skip)) (.seq (.reg Dq5) (.cond (.t 56) (.seq (.reg Bm5) .ret) .skip)))))) (.reg Bm6)))
def Bm7 : Sts := zB 11 5<|zA 12 (.bin .add (.t 11) (zN 1))<|zB 5 12<|.nil
def Am5 : RCode := (.seq (.seq (.reg Dp8) (.cond (.t 10) .skip (.exit 0))) (.seq (.block 1 (.seq (.reg Dp9) (.block 2 (.loop Am4)))) (.reg Bm7)))
def Bm8 : Sts := zA 4 (.mv (.c (.bool true)))<|.nil
def Q85 : RFun := ⟨57, [0, 1, 3, 4, 5, 6, 7, 8], (.seq (.reg Dp6) (.seq (.seq (.reg Dp7) (.block 0 (.loop Am5))) (.seq (.reg Bm8) .ret))), [.tmp 4]⟩
theorem Q85_ok : Ai Tryz.prog [0, 1, 3, 4, 5, 6, 7, 8] [15, 20, 31, 71, 88, 41, 76, 86, 65, 83, 81, 114, 117, 119, 122, 68, 100, 103, 104, 105, 137, 138, 64, 72, 96, 99, 158, 159, 132, 56, 93, 94, 130, 131, 155, 62, 23, 170] 55 = some Q85 := by kernel_rfl

def Dq6 : Sts := zA 1 (.box 83 (.t 0))<|zA 2 (.mv (.c (.bool false)))<|.nil
def Dq7 : Sts := zA 3 (zI 0 1)<|zA 4 (zJ 3)<|zA 5 (.bin .eql (.t 4) (zN 0))<|zB 6 5<|.cnd 6 false (zA 7 (zI 0 1)<|zA 8 (zJ 7)<|zA 9 (.bin .geq (.t 8) (zN 2))<|zB 10 9<|.cnd 10 true (zA 11 (zI 0 1)<|zA 12 (zJ 11)<|zA 13 (.bin .leq (.t 12) (zN 4))<|.nil) 14 (.t 13)<|.nil) 15 (.t 14)<|zB 2 15<|.nil
def Q86 : RFun := ⟨16, [0, 1, 2], (.seq (.reg Dq6) (.seq (.reg Dq7) .ret)), [.tmp 2]⟩
theorem Q86_ok : Ai Tryz.prog [0, 1, 2] [15, 20, 31, 71, 88, 41, 76, 86, 65, 83, 81, 114, 117, 119, 122, 68, 100, 103, 104, 105, 137, 138, 64, 72, 96, 99, 158, 159, 132, 56, 93, 94, 130, 131, 155, 62, 23, 170] 56 = some Q86 := by kernel_rfl

def Dq8 : Sts := zA 1 (.box 24 (.t 0))<|zA 2 (.mv (.c (.bool false)))<|.nil
def Dq9 : Sts := zA 10 (zI 0 1)<|zA 11 (zK 10)<|zA 12 (zM 11)<|zA 13 (.bin .gtr (.t 12) (zN 3))<|.nil
def Dr0 : Sts := zA 2 (.mv (.c (.bool false)))<|.nil
def Dr1 : Sts := zG 3 0<|zG 4 0<|.nil
def Dr2 : Sts := zA 5 (.alloc 142 [(.int .i64 0), (.int .i64 0), (.int .i64 0)])<|.nil
def Dr3 : Sts := zA 14 (zI 0 1)<|zA 15 (zK 14)<|zA 16 (zM 15)<|zG 17 0<|.nil
def Dr4 : Sts := zA 18 (.bin .lss (.t 17) (.t 16))<|.nil
def Dr5 : Sts := zA 19 (zH 1 15 17)<|zA 20 (zK 19)<|zB 7 20<|.nil
def Dr6 : Sts := zB 21 7<|zA 22 (zM 21)<|zG 23 0<|.nil
def Dr7 : Sts := zA 24 (.bin .lss (.t 23) (.t 22))<|.nil
def Bm9 : Sts := zA 25 (zH 5 21 23)<|zA 26 (.loadA 5 (.t 25))<|zA 9 (.alloc 83 [(.int .i64 0), (.int .i64 0), (.int .i64 0), (.int .i64 0), (.int .i64 0)])<|.op none (.store 5 (.t 9) (.t 26))<|.nil
def Bn0 : Sts := zA 28 (zI 0 9)<|zA 29 (zJ 28)<|zA 30 (.bin .eql (.t 29) (zN 5))<|zB 27 30<|.nil
def Bn1 : Sts := zB 31 4<|zA 32 (.bin .add (.t 31) (zN 1))<|zB 4 32<|.nil
def Bn2 : Sts := zA 34 (.loadA 5 (.t 9))<|zA 35 (.call 71 [(.t 34)])<|zB 33 35<|.nil
def Bn3 : Sts := zB 36 3<|zA 37 (.bin .add (.t 36) (zN 1))<|zB 3 37<|.nil
def Bn4 : Sts := zA 38 (zI 4 9)<|zA 39 (zJ 38)<|zA 40 (.bin .eql (.t 39) (zN 4))<|.nil
def Bn5 : Sts := zB 41 4<|zA 42 (.bin .add (.t 41) (zN 2))<|zB 4 42<|.nil
def Bn6 : Sts := zA 43 (zI 0 9)<|zA 44 (zJ 43)<|zA 45 (.bin .neq (.t 44) (zN 0))<|zB 46 45<|.cnd 46 true (zA 47 (zI 1 9)<|zA 48 (zJ 47)<|zA 49 (.bin .geq (.t 48) (zN 0))<|.nil) 50 (.t 49)<|zB 51 50<|.cnd 51 true (zA 52 (zI 1 9)<|zA 53 (zJ 52)<|zA 54 (.bin .lss (.t 53) (zN 3))<|.nil) 55 (.t 54)<|.nil
def Bn7 : Sts := zA 56 (zI 1 9)<|zA 57 (zJ 56)<|zA 58 (.iaddrA 3 1 (.t 5) (.t 57))<|zA 59 (zJ 58)<|zA 60 (.bin .add (.t 59) (zN 1))<|zA 61 (.iaddrA 3 1 (.t 5) (.t 57))<|.op none (.store 1 (.t 61) (.t 60))<|.nil
def Bn8 : Sts := zA 62 (.bin .add (.t 23) (zN 1))<|zB 23 62<|.nil
def Am6 : RCode := (.seq (.reg Dr7) (.seq (.cond (.t 24) .skip (.exit 2)) (.seq (.block 3 (.seq (.reg Bm9) (.block 4 (.seq (.reg Bn0) (.cond (.t 27) (.reg Bn1) (.seq (.reg Bn2) (.cond (.t 33) (.seq (.reg Bn3) (.seq (.seq (.reg Bn4) (.cond (.t 40) (.reg Bn5) .skip)) (.seq (.reg Bn6) (.cond (.t 55) (.reg Bn7) .skip)))) .skip))))))) (.reg Bn8))))
def Bn9 : Sts := zA 63 (.bin .add (.t 17) (zN 1))<|zB 17 63<|.nil
def Am7 : RCode := (.seq (.reg Dr4) (.seq (.cond (.t 18) .skip (.exit 0)) (.seq (.block 1 (.seq (.reg Dr5) (.seq (.reg Dr6) (.block 2 (.loop Am6))))) (.reg Bn9))))
def Bo0 : Sts := zB 64 3<|zA 65 (.bin .leq (.t 64) (zN 6))<|zB 66 65<|.cnd 66 true (zB 67 4<|zA 68 (.bin .leq (.t 67) (zN 8))<|.nil) 69 (.t 68)<|zB 70 69<|.cnd 70 true (zA 71 (.slA 3 1 (.t 5) none none)<|zA 72 (.call 98 [(.t 71)])<|zA 73 (.bin .leq (.t 72) (zN 4))<|.nil) 74 (.t 73)<|zB 2 74<|.nil
def Q56 : RFun := ⟨75, [0, 1, 2, 3, 4, 5, 7, 9, 15, 16, 17, 21, 22, 23], (.seq (.reg Dq8) (.seq (.seq (.reg Dq9) (.cond (.t 13) (.seq (.reg Dr0) .ret) .skip)) (.seq (.reg Dr1) (.seq (.reg Dr2) (.seq (.seq (.reg Dr3) (.block 0 (.loop Am7))) (.seq (.reg Bo0) .ret)))))), [.tmp 2]⟩
theorem Q56_ok : Ai Tryz.prog [0, 1, 2, 3, 4, 5, 7, 9, 15, 16, 17, 21, 22, 23] [15, 20, 31, 71, 88, 41, 76, 86, 65, 83, 81, 114, 117, 119, 122, 68, 100, 103, 104, 105, 137, 138, 64, 72, 96, 99, 158, 159, 132, 56, 93, 94, 130, 131, 155, 62, 23, 170] 63 = some Q56 := by kernel_rfl

def Dr8 : Sts := zA 4 (.mv (.c (.bool false)))<|zG 5 0<|.nil
def Dr9 : Sts := zB 6 0<|zA 7 (.bin .lss (.t 6) (zN 0))<|zB 8 7<|.cnd 8 false (zB 9 0<|zA 10 (.bin .geq (.t 9) (zN 6))<|.nil) 11 (.t 10)<|zB 12 11<|.cnd 12 false (zB 13 1<|zA 14 (.call 96 [(.t 13)])<|zA 15 (.notb (.t 14))<|.nil) 16 (.t 15)<|.nil
def Ds0 : Sts := zA 4 (.mv (.c (.bool false)))<|zG 5 1<|.nil
def Ds1 : Sts := zB 17 0<|zB 18 1<|zA 19 (.call 99 [(.t 17), (.t 18)])<|zB 4 19<|zG 5 0<|.nil
def Q96 : RFun := ⟨20, [0, 1, 4, 5], (.seq (.reg Dr8) (.seq (.seq (.reg Dr9) (.cond (.t 16) (.seq (.reg Ds0) .ret) .skip)) (.seq (.reg Ds1) .ret))), [.tmp 4, .tmp 5]⟩
theorem Q96_ok : Ai Tryz.prog [0, 1, 4, 5] [15, 20, 31, 71, 88, 41, 76, 86, 65, 83, 81, 114, 117, 119, 122, 68, 100, 103, 104, 105, 137, 138, 64, 72, 96, 99, 158, 159, 132, 56, 93, 94, 130, 131, 155, 62, 23, 170] 64 = some Q96 := by kernel_rfl

def Ds2 : Sts := zA 1 (.box 83 (.t 0))<|zA 2 (.mv (.c (.bool false)))<|.nil
def Ds3 : Sts := zA 3 (zI 1 1)<|zA 4 (zJ 3)<|zA 5 (.bin .lss (.t 4) (zN 0))<|zB 6 5<|.cnd 6 false (zA 7 (zI 1 1)<|zA 8 (zJ 7)<|zA 9 (.bin .geq (.t 8) (zN 3))<|.nil) 10 (.t 9)<|.nil
def Ds4 : Sts := zA 2 (.mv (.c (.bool false)))<|.nil
def Ds5 : Sts := zA 11 (zI 0 1)<|zA 12 (zJ 11)<|.nil
def Ds6 : Sts := zA 14 (.bin .eql (.t 12) (zN 0))<|zB 13 14<|.nil
def Ds7 : Sts := zA 15 (zI 2 1)<|zA 16 (zJ 15)<|zA 17 (.bin .eql (.t 16) (zN 0))<|zB 18 17<|.cnd 18 true (zA 19 (zI 3 1)<|zA 20 (zJ 19)<|zA 21 (.bin .eql (.t 20) (zN 0))<|.nil) 22 (.t 21)<|zB 2 22<|.nil
def Ds8 : Sts := zA 24 (.bin .eql (.t 12) (zN 1))<|zB 23 24<|.nil
def Ds9 : Sts := zA 25 (zI 2 1)<|zA 26 (zJ 25)<|zA 27 (.call 100 [(.t 26)])<|zB 28 27<|.cnd 28 true (zA 29 (zI 3 1)<|zA 30 (zJ 29)<|zA 31 (.bin .eql (.t 30) (zN 0))<|.nil) 32 (.t 31)<|zB 2 32<|.nil
def Dt0 : Sts := zA 34 (.bin .eql (.t 12) (zN 2))<|zB 33 34<|.nil
def Dt1 : Sts := zA 35 (zI 2 1)<|zA 36 (zJ 35)<|zA 37 (.bin .geq (.t 36) (.c (.int .i64 (-9))))<|zB 38 37<|.cnd 38 true (zA 39 (zI 2 1)<|zA 40 (zJ 39)<|zA 41 (.bin .leq (.t 40) (zN 9))<|.nil) 42 (.t 41)<|zB 43 42<|.cnd 43 true (zA 44 (zI 3 1)<|zA 45 (zJ 44)<|zA 46 (.bin .eql (.t 45) (zN 0))<|.nil) 47 (.t 46)<|zB 2 47<|.nil
def Bo1 : Sts := zA 49 (.bin .eql (.t 12) (zN 3))<|zB 48 49<|.nil
def Bo2 : Sts := zA 50 (.bin .eql (.t 12) (zN 4))<|zB 48 50<|.nil
def Bo3 : Sts := zA 51 (zI 2 1)<|zA 52 (zJ 51)<|zA 53 (.call 100 [(.t 52)])<|zB 54 53<|.cnd 54 true (zA 55 (zI 3 1)<|zA 56 (zJ 55)<|zA 57 (.call 100 [(.t 56)])<|.nil) 58 (.t 57)<|zB 2 58<|.nil
def Bo4 : Sts := zA 60 (.bin .eql (.t 12) (zN 5))<|zB 59 60<|.nil
def Bo5 : Sts := zA 61 (zI 1 1)<|zA 62 (zJ 61)<|zA 63 (.bin .eql (.t 62) (zN 0))<|zB 64 63<|.cnd 64 true (zA 65 (zI 2 1)<|zA 66 (zJ 65)<|zA 67 (.bin .eql (.t 66) (zN 0))<|.nil) 68 (.t 67)<|zB 69 68<|.cnd 69 true (zA 70 (zI 3 1)<|zA 71 (zJ 70)<|zA 72 (.bin .eql (.t 71) (zN 0))<|.nil) 73 (.t 72)<|zB 2 73<|.nil
def Bo6 : Sts := zA 2 (.mv (.c (.bool false)))<|.nil
def Q55 : RFun := ⟨74, [0, 1, 2, 12], (.seq (.reg Ds2) (.seq (.seq (.reg Ds3) (.cond (.t 10) (.seq (.reg Ds4) .ret) .skip)) (.seq (.seq (.reg Ds5) (.block 0 (.seq (.reg Ds6) (.cond (.t 13) (.seq (.reg Ds7) .ret) (.seq (.reg Ds8) (.cond (.t 23) (.seq (.reg Ds9) .ret) (.seq (.reg Dt0) (.cond (.t 33) (.seq (.reg Dt1) .ret) (.seq (.seq (.reg Bo1) (.cond (.t 48) .skip (.reg Bo2))) (.cond (.t 48) (.seq (.reg Bo3) .ret) (.seq (.reg Bo4) (.cond (.t 59) (.seq (.reg Bo5) .ret) .skip)))))))))))) (.seq (.reg Bo6) .ret)))), [.tmp 2]⟩
theorem Q55_ok : Ai Tryz.prog [0, 1, 2, 12] [15, 20, 31, 71, 88, 41, 76, 86, 65, 83, 81, 114, 117, 119, 122, 68, 100, 103, 104, 105, 137, 138, 64, 72, 96, 99, 158, 159, 132, 56, 93, 94, 130, 131, 155, 62, 23, 170] 65 = some Q55 := by kernel_rfl

def Dt2 : Sts := zA 3 (.box 45 (.t 1))<|zG 4 0<|.nil
def Dt3 : Sts := zB 5 0<|zA 6 (.loadA 4 (.t 3))<|zA 7 (.call 101 [(.t 5), (.t 6)])<|zA 8 (.notb (.t 7))<|.nil
def Dt4 : Sts := zG 4 1<|.nil
def Dt5 : Sts := zB 9 0<|zA 10 (.loadA 4 (.t 3))<|zA 11 (.call 83 [(.t 9), (.t 10)])<|zB 4 11<|.nil
def Q21 : RFun := ⟨12, [0, 1, 3, 4], (.seq (.reg Dt2) (.seq (.seq (.reg Dt3) (.cond (.t 8) (.seq (.reg Dt4) .ret) .skip)) (.seq (.reg Dt5) .ret))), [.tmp 4]⟩
theorem Q21_ok : Ai Tryz.prog [0, 1, 3, 4] [15, 20, 31, 71, 88, 41, 76, 86, 65, 83, 81, 114, 117, 119, 122, 68, 100, 103, 104, 105, 137, 138, 64, 72, 96, 99, 158, 159, 132, 56, 93, 94, 130, 131, 155, 62, 23, 170] 66 = some Q21 := by kernel_rfl

def Dt6 : Sts := zA 3 (.box 45 (.t 1))<|zA 4 (.mv (.c (.slice none 0 0)))<|.nil
def Dt7 : Sts := zB 11 0<|zA 12 (.loadA 4 (.t 3))<|zA 13 (.call 102 [(.t 11), (.t 12)])<|zB 5 13<|.nil
def Dt8 : Sts := zB 14 0<|zA 15 (zM 14)<|zG 16 0<|.nil
def Dt9 : Sts := zA 17 (.bin .lss (.t 16) (.t 15))<|.nil
def Du0 : Sts := zB 18 16<|zB 6 18<|.nil
def Du1 : Sts := zB 19 0<|zB 20 6<|zA 21 (zH 6 19 20)<|zA 22 (.loadA 6 (.t 21))<|zA 23 (.call 86 [(.t 22)])<|zA 24 (.notb (.t 23))<|zB 25 24<|.cnd 25 false (zA 26 (zI 0 3)<|zA 27 (zK 26)<|zB 28 6<|zA 29 (zH 1 27 28)<|zA 30 (zJ 29)<|zA 31 (.bin .lss (.t 30) (zN 0))<|.nil) 32 (.t 31)<|.nil
def Du2 : Sts := zA 7 (.mv (.c (.int .u32 0)))<|.nil
def Du3 : Sts := zA 33 (zI 0 3)<|zA 34 (zK 33)<|zB 35 6<|zA 36 (zH 1 34 35)<|zA 37 (zJ 36)<|zB 8 37<|.nil
def Du4 : Sts := zB 38 0<|zA 39 (zM 38)<|zG 40 0<|.nil
def Du5 : Sts := zA 41 (.bin .lss (.t 40) (.t 39))<|.nil
def Bo7 : Sts := zB 42 7<|zB 43 0<|zB 44 8<|zA 45 (.call 103 [(.t 43), (.t 44)])<|zA 46 (.bin .or (.t 42) (.t 45))<|zB 7 46<|.nil
def Bo8 : Sts := zB 47 0<|zA 48 (.loadA 4 (.t 3))<|zB 49 8<|zA 50 (.call 104 [(.t 47), (.t 48), (.t 49)])<|zA 51 (.notb (.t 50))<|zB 52 51<|.cnd 52 false (zA 53 (zI 0 3)<|zA 54 (zK 53)<|zB 55 8<|zA 56 (zH 1 54 55)<|zA 57 (zJ 56)<|zA 58 (.bin .lss (.t 57) (zN 0))<|.nil) 59 (.t 58)<|.nil
def Bo9 : Sts := zA 60 (zI 0 3)<|zA 61 (zK 60)<|zB 62 8<|zA 63 (zH 1 61 62)<|zA 64 (zJ 63)<|zB 8 64<|.nil
def Bp0 : Sts := zA 65 (.bin .add (.t 40) (zN 1))<|zB 40 65<|.nil
def Am8 : RCode := (.seq (.reg Du5) (.seq (.cond (.t 41) .skip (.exit 2)) (.seq (.block 3 (.seq (.reg Bo7) (.seq (.seq (.reg Bo8) (.cond (.t 59) (.exit 2) .skip)) (.reg Bo9)))) (.reg Bp0))))
def Bp1 : Sts := zB 66 0<|zB 67 6<|zA 68 (.call 105 [(.t 66), (.t 67)])<|zB 9 68<|.nil
def Bp2 : Sts := zB 69 0<|zA 70 (zM 69)<|zG 71 0<|.nil
def Bp3 : Sts := zA 72 (.bin .lss (.t 71) (.t 70))<|.nil
def Bp4 : Sts := zB 73 71<|zB 10 73<|.nil
def Bp5 : Sts := zB 74 7<|zB 75 10<|zA 76 (.bin .shr (.t 74) (.t 75))<|zA 77 (.bin .and (.t 76) (.c (.int .u32 1)))<|zA 78 (.bin .eql (.t 77) (.c (.int .u32 1)))<|.nil
def Bp6 : Sts := zB 79 5<|zB 80 10<|zA 81 (zH 1 79 80)<|zA 82 (.loadI .u32 (.t 81))<|zB 83 9<|zA 84 (.bin .or (.t 82) (.t 83))<|zA 85 (zH 1 79 80)<|.op none (.store 1 (.t 85) (.t 84))<|.nil
def Bp7 : Sts := zA 86 (.bin .add (.t 71) (zN 1))<|zB 71 86<|.nil
def Am9 : RCode := (.seq (.reg Bp3) (.seq (.cond (.t 72) .skip (.exit 4)) (.seq (.block 5 (.seq (.reg Bp4) (.seq (.reg Bp5) (.cond (.t 78) (.reg Bp6) .skip)))) (.reg Bp7))))
def Bp8 : Sts := zA 87 (.bin .add (.t 16) (zN 1))<|zB 16 87<|.nil
def An0 : RCode := (.seq (.reg Dt9) (.seq (.cond (.t 17) .skip (.exit 0)) (.seq (.block 1 (.seq (.reg Du0) (.seq (.seq (.reg Du1) (.cond (.t 32) (.exit 1) .skip)) (.seq (.reg Du2) (.seq (.reg Du3) (.seq (.seq (.reg Du4) (.block 2 (.loop Am8))) (.seq (.reg Bp1) (.seq (.reg Bp2) (.block 4 (.loop Am9)))))))))) (.reg Bp8))))
def Bp9 : Sts := zB 88 5<|zA 89 (.call 106 [(.t 88)])<|zB 4 89<|.nil
def Q10 : RFun := ⟨90, [0, 1, 3, 4, 5, 6, 7, 8, 9, 10, 15, 16, 39, 40, 70, 71], (.seq (.reg Dt6) (.seq (.reg Dt7) (.seq (.seq (.reg Dt8) (.block 0 (.loop An0))) (.seq (.reg Bp9) .ret)))), [.tmp 4]⟩
theorem Q10_ok : Ai Tryz.prog [0, 1, 3, 4, 5, 6, 7, 8, 9, 10, 15, 16, 39, 40, 70, 71] [15, 20, 31, 71, 88, 41, 76, 86, 65, 83, 81, 114, 117, 119, 122, 68, 100, 103, 104, 105, 137, 138, 64, 72, 96, 99, 158, 159, 132, 56, 93, 94, 130, 131, 155, 62, 23, 170] 67 = some Q10 := by kernel_rfl

def Du6 : Sts := zA 6 (.mv (.c (.bool false)))<|.nil
def Du7 : Sts := zB 7 0<|zB 8 1<|zA 9 (zH 1 7 8)<|zA 10 (.loadI .u32 (.t 9))<|zB 11 2<|zA 12 (.bin .shr (.t 10) (.t 11))<|zA 13 (.bin .and (.t 12) (.c (.int .u32 1)))<|zA 14 (.bin .eql (.t 13) (.c (.int .u32 1)))<|zB 6 14<|.nil
def Q45 : RFun := ⟨15, [0, 1, 2, 6], (.seq (.reg Du6) (.seq (.reg Du7) .ret)), [.tmp 6]⟩
theorem Q45_ok : Ai Tryz.prog [0, 1, 2, 6] [15, 20, 31, 71, 88, 41, 76, 86, 65, 83, 81, 114, 117, 119, 122, 68, 100, 103, 104, 105, 137, 138, 64, 72, 96, 99, 158, 159, 132, 56, 93, 94, 130, 131, 155, 62, 23, 170] 68 = some Q45 := by kernel_rfl

def Du8 : Sts := zA 2 (.box 24 (.t 0))<|zA 4 (.alloc 24 [(.slice none 0 0)])<|.nil
def Du9 : Sts := zA 5 (.alloc 24 [(.slice none 0 0)])<|.nil
def Dv0 : Sts := zA 12 (zI 0 2)<|zA 13 (zK 12)<|zA 14 (zM 13)<|zG 15 0<|.nil
def Dv1 : Sts := zA 16 (.bin .lss (.t 15) (.t 14))<|.nil
def Dv2 : Sts := zA 17 (zH 1 13 15)<|zA 18 (zK 17)<|zB 7 18<|.nil
def Dv3 : Sts := zA 8 (.mv (.c (.slice none 0 0)))<|.nil
def Dv4 : Sts := zA 9 (.mv (.c (.bool true)))<|.nil
def Dv5 : Sts := zB 19 7<|zA 20 (zM 19)<|zG 21 0<|.nil
def Dv6 : Sts := zA 22 (.bin .lss (.t 21) (.t 20))<|.nil
def Dv7 : Sts := zA 23 (zH 5 19 21)<|zA 24 (.loadA 5 (.t 23))<|zA 11 (.alloc 83 [(.int .i64 0), (.int .i64 0), (.int .i64 0), (.int .i64 0), (.int .i64 0)])<|.op none (.store 5 (.t 11) (.t 24))<|.nil
def Bq0 : Sts := zB 25 8<|zB 26 1<|zA 27 (.loadA 5 (.t 11))<|zB 28 9<|zA 29 (.callv (.t 26) [(.t 27), (.t 28)])<|zA 30 (.append 83 5 40 [(.int .i64 0), (.int .i64 0), (.int .i64 0), (.int .i64 0), (.int .i64 0)] (.t 25) (.t 29))<|zB 8 30<|.nil
def Bq1 : Sts := zB 31 9<|zB 32 31<|.cnd 32 true (zA 33 (.loadA 5 (.t 11))<|zA 34 (.call 71 [(.t 33)])<|zA 35 (.notb (.t 34))<|.nil) 36 (.t 35)<|zB 9 36<|.nil
def Bq2 : Sts := zA 37 (.bin .add (.t 21) (zN 1))<|zB 21 37<|.nil
def An1 : RCode := (.seq (.reg Dv6) (.seq (.cond (.t 22) .skip (.exit 2)) (.seq (.block 3 (.seq (.reg Dv7) (.seq (.reg Bq0) (.reg Bq1)))) (.reg Bq2))))
def Bq3 : Sts := zA 38 (zI 0 5)<|zA 39 (zK 38)<|zB 40 8<|zA 41 (.buildSl 70 1 [(.slice none 0 0)] [(0, 1, (.t 40))])<|zA 42 (.append 70 1 24 [(.slice none 0 0)] (.t 39) (.t 41))<|zA 43 (zI 0 5)<|.op none (.store 1 (.t 43) (.t 42))<|.nil
def Bq4 : Sts := zA 44 (.bin .add (.t 15) (zN 1))<|zB 15 44<|.nil
def An2 : RCode := (.seq (.reg Dv1) (.seq (.cond (.t 16) .skip (.exit 0)) (.seq (.block 1 (.seq (.reg Dv2) (.seq (.reg Dv3) (.seq (.reg Dv4) (.seq (.seq (.reg Dv5) (.block 2 (.loop An1))) (.reg Bq3)))))) (.reg Bq4))))
def Bq5 : Sts := zA 45 (.loadA 1 (.t 5))<|.op none (.store 1 (.t 4) (.t 45))<|.nil
def Q57 : RFun := ⟨46, [0, 1, 2, 4, 5, 7, 8, 9, 11, 13, 14, 15, 19, 20, 21], (.seq (.reg Du8) (.seq (.reg Du9) (.seq (.seq (.reg Dv0) (.block 0 (.loop An2))) (.seq (.reg Bq5) .ret)))), [.cellA 4 1]⟩
theorem Q57_ok : Ai Tryz.prog [0, 1, 2, 4, 5, 7, 8, 9, 11, 13, 14, 15, 19, 20, 21] [15, 20, 31, 71, 88, 41, 76, 86, 65, 83, 81, 114, 117, 119, 122, 68, 100, 103, 104, 105, 137, 138, 64, 72, 96, 99, 158, 159, 132, 56, 93, 94, 130, 131, 155, 62, 23, 170] 69 = some Q57 := by kernel_rfl

def Dv8 : Sts := zA 2 (.box 83 (.t 0))<|zA 4 (.mv (.c (.slice none 0 0)))<|.nil
def Dv9 : Sts := zA 5 (.loadA 5 (.t 2))<|zA 6 (.call 71 [(.t 5)])<|zA 7 (.notb (.t 6))<|zB 8 7<|.cnd 8 false (zA 9 (zI 4 2)<|zA 10 (zJ 9)<|zA 11 (.bin .neq (.t 10) (zN 4))<|.nil) 12 (.t 11)<|.nil
def Dw0 : Sts := zA 13 (.loadA 5 (.t 2))<|zA 14 (.buildSl 83 1 [(.int .i64 0), (.int .i64 0), (.int .i64 0), (.int .i64 0), (.int .i64 0)] [(0, 5, (.t 13))])<|zB 4 14<|.nil
def Dw1 : Sts := zA 16 (zI 0 2)<|zA 17 (zJ 16)<|zA 18 (zI 4 2)<|zA 19 (zJ 18)<|zA 20 (.call 72 [(.t 17), (.t 19)])<|zB 15 20<|zA 21 (.extract 0 (.t 15))<|zA 22 (.extract 1 (.t 15))<|zA 23 (zI 4 2)<|.op none (.store 1 (.t 23) (.t 21))<|.nil
def Dw2 : AT := .q (zC 1 25 (.loadA 5 (.t 2))<|.nil)<|zE 0 24 (.call 73 []) false (zF<|zE 2 26 (.call 73 []) false (zF<|zE 3 27 (.buildSl 83 3 [(.int .i64 0), (.int .i64 0), (.int .i64 0), (.int .i64 0), (.int .i64 0), (.int .i64 0), (.int .i64 0), (.int .i64 0), (.int .i64 0), (.int .i64 0), (.int .i64 0), (.int .i64 0), (.int .i64 0), (.int .i64 0), (.int .i64 0)] [(0, 5, (.t 24)), (5, 5, (.t 25)), (10, 5, (.t 26))]) true (.q (zD 4 4 27<|.nil)<|.fin)<|.no)<|.no)<|.no
def Q52 : RFun := ⟨28, [0, 2, 4], (.seq (.reg Dv8) (.seq (.seq (.reg Dv9) (.cond (.t 12) (.seq (.reg Dw0) .ret) .skip)) (.seq (.reg Dw1) (.seq (.any Dw2) .ret)))), [.tmp 4]⟩
theorem Q52_ok : Ai Tryz.prog [0, 2, 4] [15, 20, 31, 71, 88, 41, 76, 86, 65, 83, 81, 114, 117, 119, 122, 68, 100, 103, 104, 105, 137, 138, 64, 72, 96, 99, 158, 159, 132, 56, 93, 94, 130, 131, 155, 62, 23, 170] 70 = some Q52 := by kernel_rfl

def Dw3 : Sts := zA 1 (.box 83 (.t 0))<|zA 2 (.mv (.c (.bool false)))<|.nil
def Dw4 : Sts := zA 3 (zI 0 1)<|zA 4 (zJ 3)<|zA 5 (.bin .geq (.t 4) (zN 0))<|zB 6 5<|.cnd 6 true (zA 7 (zI 0 1)<|zA 8 (zJ 7)<|zA 9 (.bin .leq (.t 8) (zN 4))<|.nil) 10 (.t 9)<|zB 2 10<|.nil
def Q53 : RFun := ⟨11, [0, 1, 2], (.seq (.reg Dw3) (.seq (.reg Dw4) .ret)), [.tmp 2]⟩
theorem Q53_ok : Ai Tryz.prog [0, 1, 2] [15, 20, 31, 71, 88, 41, 76, 86, 65, 83, 81, 114, 117, 119, 122, 68, 100, 103, 104, 105, 137, 138, 64, 72, 96, 99, 158, 159, 132, 56, 93, 94, 130, 131, 155, 62, 23, 170] 71 = some Q53 := by kernel_rfl

def Dw5 : Sts := zG 4 0<|zG 5 0<|.nil
def Dw6 : Sts := zB 9 0<|zB 10 1<|zA 11 (.call 64 [(.t 9), (.t 10)])<|zB 8 11<|zA 12 (.extract 0 (.t 8))<|zA 13 (.extract 1 (.t 8))<|zB 6 12<|zB 7 13<|.nil
def Dw7 : Sts := zB 15 7<|zA 16 (.bin .neq (.t 15) (zN 0))<|zB 17 16<|.cnd 17 false (zB 18 6<|zA 19 (.notb (.t 18))<|.nil) 20 (.t 19)<|zB 21 20<|.cnd 21 false (zB 22 0<|zA 23 (.bin .eql (.t 22) (zN 5))<|.nil) 24 (.t 23)<|zB 14 24<|.nil
def Dw8 : Sts := zG 4 0<|zG 5 1<|.nil
def Dw9 : Sts := zB 26 1<|zA 27 (.bin .neq (.t 26) (zN 4))<|zB 25 27<|.nil
def Dx0 : Sts := zB 28 1<|zB 4 28<|zG 5 0<|.nil
def Dx1 : Sts := zB 30 0<|zA 31 (.bin .eql (.t 30) (zN 0))<|zB 29 31<|.nil
def Dx2 : Sts := zG 4 1<|zG 5 0<|.nil
def Dx3 : Sts := zB 33 0<|zA 34 (.bin .eql (.t 33) (zN 1))<|zB 32 34<|.nil
def Dx4 : Sts := zG 4 2<|zG 5 0<|.nil
def Bq6 : Sts := zG 4 3<|zG 5 0<|.nil
def Q97 : RFun := ⟨35, [0, 1, 4, 5, 6, 7], (.seq (.reg Dw5) (.seq (.reg Dw6) (.seq (.block 0 (.seq (.reg Dw7) (.cond (.t 14) (.seq (.reg Dw8) .ret) (.seq (.reg Dw9) (.cond (.t 25) (.seq (.reg Dx0) .ret) (.seq (.reg Dx1) (.cond (.t 29) (.seq (.reg Dx2) .ret) (.seq (.reg Dx3) (.cond (.t 32) (.seq (.reg Dx4) .ret) .skip))))))))) (.seq (.reg Bq6) .ret)))), [.tmp 4, .tmp 5]⟩
theorem Q97_ok : Ai Tryz.prog [0, 1, 4, 5, 6, 7] [15, 20, 31, 71, 88, 41, 76, 86, 65, 83, 81, 114, 117, 119, 122, 68, 100, 103, 104, 105, 137, 138, 64, 72, 96, 99, 158, 159, 132, 56, 93, 94, 130, 131, 155, 62, 23, 170] 72 = some Q97 := by kernel_rfl

def Dx5 : Sts := zA 0 (.alloc 83 [(.int .i64 0), (.int .i64 0), (.int .i64 0), (.int .i64 0), (.int .i64 0)])<|.nil
def Dx6 : Sts := zA 1 (.build [(.int .i64 0), (.int .i64 0), (.int .i64 0), (.int .i64 0), (.int .i64 0)] [(0, 1, (zN 5)), (4, 1, (zN 4))])<|.op none (.store 5 (.t 0) (.t 1))<|.nil
def Q58 : RFun := ⟨2, [0], (.seq (.reg Dx5) (.seq (.reg Dx6) .ret)), [.cellA 0 5]⟩
theorem Q58_ok : Ai Tryz.prog [0] [15, 20, 31, 71, 88, 41, 76, 86, 65, 83, 81, 114, 117, 119, 122, 68, 100, 103, 104, 105, 137, 138, 64, 72, 96, 99, 158, 159, 132, 56, 93, 94, 130, 131, 155, 62, 23, 170] 73 = some Q58 := by kernel_rfl

def Dx7 : Sts := zA 4 (.mv (.c (.slice none 0 0)))<|.nil
def Dx8 : Sts := zA 5 (.mv (.c (.slice none 0 0)))<|.nil
def Dx9 : Sts := zB 7 0<|zA 8 (zM 7)<|zG 9 0<|.nil
def Dy0 : Sts := zA 10 (.bin .lss (.t 9) (.t 8))<|.nil
def Dy1 : Sts := zB 11 9<|zB 6 11<|.nil
def Dy2 : Sts := zB 12 1<|zB 13 6<|zA 14 (.callv (.t 12) [(.t 13)])<|.nil
def Dy3 : Sts := zB 15 5<|zB 16 6<|zA 17 (.buildSl 3 1 [(.int .i64 0)] [(0, 1, (.t 16))])<|zA 18 (.append 3 1 8 [(.int .i64 0)] (.t 15) (.t 17))<|zB 5 18<|.nil
def Dy4 : Sts := zA 19 (.bin .add (.t 9) (zN 1))<|zB 9 19<|.nil
def Bq7 : RCode := (.seq (.reg Dy0) (.seq (.cond (.t 10) .skip (.exit 0)) (.seq (.block 1 (.seq (.reg Dy1) (.seq (.reg Dy2) (.cond (.t 14) (.reg Dy3) .skip)))) (.reg Dy4))))
def Dy5 : Sts := zB 20 5<|zB 4 20<|.nil
def Q34 : RFun := ⟨21, [0, 1, 4, 5, 6, 8, 9], (.seq (.reg Dx7) (.seq (.reg Dx8) (.seq (.seq (.reg Dx9) (.block 0 (.loop Bq7))) (.seq (.reg Dy5) .ret)))), [.tmp 4]⟩
theorem Q34_ok : Ai Tryz.prog [0, 1, 4, 5, 6, 8, 9] [15, 20, 31, 71, 88, 41, 76, 86, 65, 83, 81, 114, 117, 119, 122, 68, 100, 103, 104, 105, 137, 138, 64, 72, 96, 99, 158, 159, 132, 56, 93, 94, 130, 131, 155, 62, 23, 170] 74 = some Q34 := by kernel_rfl

def Dy6 : Sts := zA 3 (.mv (.c (.bool false)))<|.nil
def Dy7 : Sts := zA 4 (zK 1)<|zB 5 0<|zA 6 (zH 6 4 5)<|zA 7 (.loadA 6 (.t 6))<|zA 8 (.call 76 [(.t 7)])<|zB 3 8<|.nil
def Q19 : RFun := ⟨9, [0, 1, 3], (.seq (.reg Dy6) (.seq (.reg Dy7) .ret)), [.tmp 3]⟩
theorem Q19_ok : Ai Tryz.prog [0, 1, 3] [15, 20, 31, 71, 88, 41, 76, 86, 65, 83, 81, 114, 117, 119, 122, 68, 100, 103, 104, 105, 137, 138, 64, 72, 96, 99, 158, 159, 132, 56, 93, 94, 130, 131, 155, 62, 23, 170] 75 = some Q19 := by kernel_rfl

def Fc8 : Sts := zA 1 (.box 121 (.t 0))<|zA 2 (.mv (.c (.bool false)))<|.nil
def Fc9 : Sts := zA 3 (zI 0 1)<|zA 4 (zI 0 3)<|zA 5 (zJ 4)<|zA 6 (.bin .eql (.t 5) (zN 5))<|zB 7 6<|.cnd 7 true (zA 8 (zI 0 1)<|zA 9 (zI 4 8)<|zA 10 (zJ 9)<|zA 11 (.bin .eql (.t 10) (zN 4))<|.nil) 12 (.t 11)<|zB 2 12<|.nil
def Q8 : RFun := ⟨13, [0, 1, 2], (.seq (.reg Fc8) (.seq (.reg Fc9) .ret)), [.tmp 2]⟩
theorem Q8_ok : Ai Tryz.prog [0, 1, 2] [15, 20, 31, 71, 88, 41, 76, 86, 65, 83, 81, 114, 117, 119, 122, 68, 100, 103, 104, 105, 137, 138, 64, 72, 96, 99, 158, 159, 132, 56, 93, 94, 130, 131, 155, 62, 23, 170] 76 = some Q8 := by kernel_rfl

def Bq8 : Sts := zA 3 (.box 124 (.t 0))<|.nil
def Dy8 : Sts := zA 8 (zK 1)<|zA 9 (.call 78 [(.t 8)])<|.nil
def An3 : Sts := zA 4 (.alloc 35 [(.slice none 0 0)])<|.op none (.store 1 (.t 4) (.t 10))<|.nil
def Dy9 : Sts := zA 11 (zK 1)<|zA 12 (zK 4)<|zA 13 (.call 79 [(.t 11), (.t 12), (zN 0)])<|.nil
def An4 : Sts := zA 5 (.alloc 26 [(.slice none 0 0)])<|.op none (.store 1 (.t 5) (.t 14))<|.nil
def Dz0 : Sts := zA 15 (zK 1)<|zA 16 (zK 4)<|zA 17 (zK 5)<|zA 18 (.call 80 [(.t 15), (.t 16), (.t 17)])<|.nil
def An5 : Sts := zB 6 19<|.nil
def Dz1 : Sts := zB 20 6<|zA 21 (zK 4)<|zA 22 (zK 5)<|zA 23 (.build [(.slice none 0 0), (.slice none 0 0), (.slice none 0 0), (.slice none 0 0)] [(0, 1, (.t 20)), (1, 1, (.t 21)), (2, 1, (.t 22))])<|zA 7 (.alloc 45 [(.slice none 0 0), (.slice none 0 0), (.slice none 0 0), (.slice none 0 0)])<|.op none (.store 4 (.t 7) (.t 23))<|.nil
def Dz2 : Sts := zA 24 (zK 1)<|zA 25 (.loadA 4 (.t 7))<|zA 26 (.call 81 [(.t 24), (.t 25)])<|zA 27 (.notb (.t 26))<|.nil
def Dz3 : Sts := zA 28 (zK 1)<|zA 29 (zK 2)<|zA 30 (.call 82 [(.t 28), (.t 29)])<|.nil
def Bq9 : Sts := zA 32 (zI 3 7)<|.op none (.store 1 (.t 32) (.t 31))<|.nil
def Ag9 : AT := .q (zC 0 33 (zK 1)<|zC 1 34 (.loadA 4 (.t 7))<|zC 2 35 (.call 83 [(.t 33), (.t 34)])<|zC 3 36 (.bin .eql (.t 35) (zN 0))<|zD 4 37 36<|.nil)<|.br 37 (zF<|.q (zC 5 38 (.loadX (.t 3))<|.nil)<|zF<|.q (zC 6 39 (.loadA 4 (.t 7))<|.nil)<|zF<|zE 7 40 (.call 84 [(.t 39)]) false (zF<|zE 8 41 (.callv (.t 38) [(.t 40)]) true (.q (.g 37 true (zC 9 42 (.notb (.t 41))<|.nil) 10 43 (.t 42)<|.nil)<|.fin)<|.no)<|.no)<|zF<|zL 5 38<|zF<|zL 6 39<|zF<|zL 7 40<|zF<|zL 8 41<|.q (.g 37 true (zC 9 42 (.notb (.t 41))<|.nil) 10 43 (.t 42)<|.nil)<|.fin
def Dc : RCode := (.reg Bq9)
def Dd : RCode := (.block 7 (.seq (.any Ag9) (.cond (.t 43) .ret .skip)))
def De : RCode := (.reg An5)
def Df : RCode := (.block 5 (.seq (.reg Dz1) (.seq (.seq (.reg Dz2) (.cond (.t 27) (.exit 5) .skip)) (.seq (.reg Dz3) (.block 6 (.rangeF (.t 30) [31] Dc Dd))))))
def Dg : RCode := (.reg An4)
def Dh : RCode := (.block 3 (.seq (.reg Dz0) (.block 4 (.rangeF (.t 18) [19] De Df))))
def Di : RCode := (.reg An3)
def Dj : RCode := (.block 1 (.seq (.reg Dy9) (.block 2 (.rangeF (.t 13) [14] Dg Dh))))
def Q20 : RFun := ⟨44, [0, 1, 2, 3, 4, 5, 6, 7, 9, 10, 13, 14, 18, 19, 30, 31], (.seq (.reg Bq8) (.seq (.reg Dy8) (.block 0 (.rangeF (.t 9) [10] Di Dj)))), []⟩
theorem Q20_ok : Ai Tryz.prog [0, 1, 2, 3, 4, 5, 6, 7, 9, 10, 13, 14, 18, 19, 30, 31] [15, 20, 31, 71, 88, 41, 76, 86, 65, 83, 81, 114, 117, 119, 122, 68, 100, 103, 104, 105, 137, 138, 64, 72, 96, 99, 158, 159, 132, 56, 93, 94, 130, 131, 155, 62, 23, 170] 77 = some Q20 := by kernel_rfl

def Dz4 : Sts := zA 1 (.box 74 (.t 0))<|zA 2 (.mv (.c .nilFunc))<|.nil
def Dz5 : Sts := zA 3 (.mkfn 107 [] [(.t 1)])<|zB 2 3<|.nil
def Q13 : RFun := ⟨4, [0, 1, 2], (.seq (.reg Dz4) (.seq (.reg Dz5) .ret)), [.tmp 2]⟩
theorem Q13_ok : Ai Tryz.prog [0, 1, 2] [15, 20, 31, 71, 88, 41, 76, 86, 65, 83, 81, 114, 117, 119, 122, 68, 100, 103, 104, 105, 137, 138, 64, 72, 96, 99, 158, 159, 132, 56, 93, 94, 130, 131, 155, 62, 23, 170] 78 = some Q13 := by kernel_rfl

def Dz6 : Sts := zA 3 (.box 74 (.t 0))<|zA 4 (.box 35 (.t 1))<|zA 5 (.box 3 (.t 2))<|zA 6 (.mv (.c .nilFunc))<|.nil
def Dz7 : Sts := zA 7 (.mkfn 109 [] [(.t 5), (.t 3), (.t 4)])<|zB 6 7<|.nil
def Q31 : RFun := ⟨8, [0, 1, 2, 3, 4, 5, 6], (.seq (.reg Dz6) (.seq (.reg Dz7) .ret)), [.tmp 6]⟩
theorem Q31_ok : Ai Tryz.prog [0, 1, 2, 3, 4, 5, 6] [15, 20, 31, 71, 88, 41, 76, 86, 65, 83, 81, 114, 117, 119, 122, 68, 100, 103, 104, 105, 137, 138, 64, 72, 96, 99, 158, 159, 132, 56, 93, 94, 130, 131, 155, 62, 23, 170] 79 = some Q31 := by kernel_rfl

def Dz8 : Sts := zA 3 (.box 74 (.t 0))<|zA 4 (.box 35 (.t 1))<|zA 5 (.box 26 (.t 2))<|zA 6 (.mv (.c .nilFunc))<|.nil
def Dz9 : Sts := zA 7 (.mkfn 111 [] [(.t 3), (.t 5), (.t 4)])<|zB 6 7<|.nil
def Q24 : RFun := ⟨8, [0, 1, 2, 3, 4, 5, 6], (.seq (.reg Dz8) (.seq (.reg Dz9) .ret)), [.tmp 6]⟩
theorem Q24_ok : Ai Tryz.prog [0, 1, 2, 3, 4, 5, 6] [15, 20, 31, 71, 88, 41, 76, 86, 65, 83, 81, 114, 117, 119, 122, 68, 100, 103, 104, 105, 137, 138, 64, 72, 96, 99, 158, 159, 132, 56, 93, 94, 130, 131, 155, 62, 23, 170] 80 = some Q24 := by kernel_rfl

def Ea0 : Sts := zA 3 (.box 45 (.t 1))<|zA 4 (.mv (.c (.bool false)))<|.nil
def Ea1 : Sts := zB 11 0<|zA 12 (.loadA 4 (.t 3))<|zA 13 (.call 85 [(.t 11), (.t 12)])<|zB 10 13<|zA 14 (.extract 0 (.t 10))<|zA 15 (.extract 1 (.t 10))<|zA 16 (.extract 2 (.t 10))<|zB 5 14<|zB 6 15<|zB 7 16<|.nil
def Ea2 : Sts := zB 17 0<|zA 18 (zM 17)<|zG 19 0<|.nil
def Ea3 : Sts := zA 20 (.bin .lss (.t 19) (.t 18))<|.nil
def Ea4 : Sts := zB 21 19<|zA 22 (zH 6 17 19)<|zA 23 (.loadA 6 (.t 22))<|zA 9 (.alloc 121 [(.int .i64 0), (.int .i64 0), (.int .i64 0), (.int .i64 0), (.int .i64 0), (.int .i64 0)])<|zB 8 21<|.op none (.store 6 (.t 9) (.t 23))<|.nil
def Ea5 : AT := .q (zC 0 24 (zI 0 9)<|zC 1 25 (zI 0 24)<|zC 2 26 (zJ 25)<|zC 3 27 (.bin .eql (.t 26) (zN 3))<|zD 4 28 27<|.g 28 true (zC 5 29 (zI 1 3)<|zC 6 30 (zK 29)<|zD 7 31 8<|zC 8 32 (zH 1 30 31)<|zC 9 33 (.loadB (.t 32))<|zD 10 34 5<|zD 11 35 8<|zC 12 36 (zH 1 34 35)<|zC 13 37 (zJ 36)<|zC 14 38 (zI 0 9)<|zC 15 39 (zI 2 38)<|zC 16 40 (zJ 39)<|zC 17 41 (.bin .eql (.t 37) (.t 40))<|zC 18 42 (.eqb true (.t 33) (.t 41))<|.nil) 19 43 (.t 42)<|zD 20 44 43<|.g 44 false (zC 21 45 (zI 0 9)<|zC 22 46 (zI 0 45)<|zC 23 47 (zJ 46)<|zC 24 48 (.bin .eql (.t 47) (zN 4))<|zD 25 49 48<|.g 49 true (zC 26 50 (zI 1 3)<|zC 27 51 (zK 50)<|zD 28 52 8<|zC 29 53 (zH 1 51 52)<|zC 30 54 (.loadB (.t 53))<|.nil) 31 55 (.t 54)<|zD 32 56 55<|.g 56 true (zD 33 57 5<|zD 34 58 8<|zC 35 59 (zH 1 57 58)<|zC 36 60 (zJ 59)<|zC 37 61 (zI 0 9)<|zC 38 62 (zI 2 61)<|zC 39 63 (zJ 62)<|zC 40 64 (.bin .neq (.t 60) (.t 63))<|.nil) 41 65 (.t 64)<|.nil) 42 66 (.t 65)<|.nil)<|.fin
def Ea6 : Sts := zA 4 (.mv (.c (.bool false)))<|.nil
def Ea7 : Sts := zA 67 (.bin .add (.t 19) (zN 1))<|zB 19 67<|.nil
def Br0 : RCode := (.seq (.reg Ea3) (.seq (.cond (.t 20) .skip (.exit 0)) (.seq (.block 1 (.seq (.reg Ea4) (.seq (.any Ea5) (.cond (.t 66) (.seq (.reg Ea6) .ret) .skip)))) (.reg Ea7))))
def Ea8 : Sts := zB 68 0<|zA 69 (.loadA 4 (.t 3))<|zA 70 (.call 83 [(.t 68), (.t 69)])<|zA 71 (.bin .eql (.t 70) (zN 0))<|zB 4 71<|.nil
def Q35 : RFun := ⟨72, [0, 1, 3, 4, 5, 8, 9, 17, 18, 19], (.seq (.reg Ea0) (.seq (.reg Ea1) (.seq (.seq (.reg Ea2) (.block 0 (.loop Br0))) (.seq (.reg Ea8) .ret)))), [.tmp 4]⟩
theorem Q35_ok : Ai Tryz.prog [0, 1, 3, 4, 5, 8, 9, 17, 18, 19] [15, 20, 31, 71, 88, 41, 76, 86, 65, 83, 81, 114, 117, 119, 122, 68, 100, 103, 104, 105, 137, 138, 64, 72, 96, 99, 158, 159, 132, 56, 93, 94, 130, 131, 155, 62, 23, 170] 81 = some Q35 := by kernel_rfl

def Ea9 : Sts := zA 2 (.box 74 (.t 0))<|zA 3 (.box 34 (.t 1))<|zA 4 (.mv (.c .nilFunc))<|.nil
def Eb0 : Sts := zA 5 (.mkfn 115 [] [(.t 2), (.t 3)])<|zB 4 5<|.nil
def Q27 : RFun := ⟨6, [0, 1, 2, 3, 4], (.seq (.reg Ea9) (.seq (.reg Eb0) .ret)), [.tmp 4]⟩
theorem Q27_ok : Ai Tryz.prog [0, 1, 2, 3, 4] [15, 20, 31, 71, 88, 41, 76, 86, 65, 83, 81, 114, 117, 119, 122, 68, 100, 103, 104, 105, 137, 138, 64, 72, 96, 99, 158, 159, 132, 56, 93, 94, 130, 131, 155, 62, 23, 170] 82 = some Q27 := by kernel_rfl

def Eb1 : Sts := zA 3 (.box 45 (.t 1))<|zG 4 0<|.nil
def Eb2 : Sts := zB 17 0<|zA 18 (.loadA 4 (.t 3))<|zA 19 (.call 102 [(.t 17), (.t 18)])<|zB 5 19<|.nil
def Eb3 : Sts := zA 20 (zI 0 3)<|zA 21 (zK 20)<|zA 22 (zM 21)<|zG 23 0<|.nil
def Eb4 : Sts := zA 24 (.bin .lss (.t 23) (.t 22))<|.nil
def Eb5 : Sts := zB 25 23<|zA 26 (zH 1 21 23)<|zA 27 (zJ 26)<|zB 6 25<|zB 7 27<|.nil
def Eb6 : Sts := zB 28 7<|zA 29 (.bin .geq (.t 28) (zN 0))<|.nil
def Eb7 : Sts := zB 30 5<|zB 31 7<|zB 32 6<|zA 33 (.call 121 [(.t 30), (.t 31), (.t 32)])<|.nil
def Eb8 : Sts := zA 34 (.bin .add (.t 23) (zN 1))<|zB 23 34<|.nil
def Br1 : RCode := (.seq (.reg Eb4) (.seq (.cond (.t 24) .skip (.exit 0)) (.seq (.block 1 (.seq (.reg Eb5) (.seq (.reg Eb6) (.cond (.t 29) (.reg Eb7) .skip)))) (.reg Eb8))))
def Eb9 : Sts := zB 35 5<|zA 36 (.call 106 [(.t 35)])<|zA 37 (.call 122 [(.t 36)])<|.nil
def Ec0 : Sts := zG 4 2<|.nil
def Yy : AT := .q (zD 0 38 0<|zC 1 39 (.loadA 4 (.t 3))<|zD 3 41 0<|zC 4 42 (.loadA 4 (.t 3))<|.nil)<|zE 2 40 (.call 67 [(.t 38), (.t 39)]) false (zF<|zE 5 43 (.call 123 [(.t 41), (.t 42)]) true (.q (zD 6 8 40<|zD 7 9 43<|.nil)<|.fin)<|.no)<|.no
def Br2 : Sts := zB 44 8<|zA 45 (.call 122 [(.t 44)])<|.nil
def Br3 : Sts := zG 4 3<|.nil
def Br4 : Sts := zB 46 0<|zA 47 (zM 46)<|zG 48 0<|.nil
def Br5 : Sts := zA 49 (.bin .lss (.t 48) (.t 47))<|.nil
def Br6 : Sts := zB 50 48<|zB 10 50<|.nil
def Br7 : Sts := zB 51 0<|zA 52 (zM 51)<|zG 53 0<|.nil
def Br8 : Sts := zA 54 (.bin .lss (.t 53) (.t 52))<|.nil
def Br9 : Sts := zB 55 53<|zB 11 55<|.nil
def Bs0 : Sts := zB 56 8<|zB 57 10<|zB 58 11<|zA 59 (.call 68 [(.t 56), (.t 57), (.t 58)])<|zB 60 59<|.cnd 60 true (zB 61 9<|zB 62 11<|zB 63 10<|zA 64 (.call 68 [(.t 61), (.t 62), (.t 63)])<|.nil) 65 (.t 64)<|.nil
def Bs1 : Sts := zG 4 3<|.nil
def Bs2 : Sts := zA 66 (.bin .add (.t 53) (zN 1))<|zB 53 66<|.nil
def An6 : RCode := (.seq (.reg Br8) (.seq (.cond (.t 54) .skip (.exit 4)) (.seq (.block 5 (.seq (.reg Br9) (.seq (.reg Bs0) (.cond (.t 65) (.seq (.reg Bs1) .ret) .skip)))) (.reg Bs2))))
def Bs3 : Sts := zA 67 (.bin .add (.t 48) (zN 1))<|zB 48 67<|.nil
def An7 : RCode := (.seq (.reg Br5) (.seq (.cond (.t 49) .skip (.exit 2)) (.seq (.block 3 (.seq (.reg Br6) (.seq (.reg Br7) (.block 4 (.loop An6))))) (.reg Bs3))))
def Bs4 : Sts := zA 68 (zI 2 3)<|zA 69 (zK 68)<|zA 70 (zM 69)<|zG 71 0<|.nil
def Bs5 : Sts := zA 72 (.bin .lss (.t 71) (.t 70))<|.nil
def Bs6 : Sts := zA 73 (zH 1 69 71)<|zA 74 (zK 73)<|zB 13 74<|.nil
def Bs7 : Sts := zA 14 (.mv (.c (.int .i64 (-1))))<|.nil
def Bs8 : Sts := zB 75 13<|zA 76 (zM 75)<|zG 77 0<|.nil
def Bs9 : Sts := zA 78 (.bin .lss (.t 77) (.t 76))<|.nil
def Bt0 : Sts := zA 79 (zH 1 75 77)<|zA 80 (zJ 79)<|zB 16 80<|.nil
def Bt1 : Sts := zB 81 0<|zB 82 16<|zA 83 (zH 6 81 82)<|zA 84 (.loadA 6 (.t 83))<|zA 85 (.call 86 [(.t 84)])<|zB 86 85<|.cnd 86 true (zA 87 (zI 0 3)<|zA 88 (zK 87)<|zB 89 16<|zA 90 (zH 1 88 89)<|zA 91 (zJ 90)<|zB 92 14<|zA 93 (.bin .neq (.t 91) (.t 92))<|.nil) 94 (.t 93)<|.nil
def Bt2 : Sts := zG 4 4<|.nil
def Bt3 : Sts := zB 95 16<|zB 14 95<|.nil
def Bt4 : Sts := zA 96 (.bin .add (.t 77) (zN 1))<|zB 77 96<|.nil
def An8 : RCode := (.seq (.reg Bs9) (.seq (.cond (.t 78) .skip (.exit 8)) (.seq (.block 9 (.seq (.reg Bt0) (.seq (.seq (.reg Bt1) (.cond (.t 94) (.seq (.reg Bt2) .ret) .skip)) (.reg Bt3)))) (.reg Bt4))))
def Bt5 : Sts := zA 97 (.bin .add (.t 71) (zN 1))<|zB 71 97<|.nil
def An9 : RCode := (.seq (.reg Bs5) (.seq (.cond (.t 72) .skip (.exit 6)) (.seq (.block 7 (.seq (.reg Bs6) (.seq (.reg Bs7) (.seq (.reg Bs8) (.block 8 (.loop An8)))))) (.reg Bt5))))
def Bt6 : Sts := zG 4 0<|.nil
def Q11 : RFun := ⟨98, [0, 1, 3, 4, 5, 6, 7, 8, 9, 10, 11, 13, 14, 16, 21, 22, 23, 47, 48, 52, 53, 69, 70, 71, 75, 76, 77], (.seq (.reg Eb1) (.seq (.reg Eb2) (.seq (.seq (.reg Eb3) (.block 0 (.loop Br1))) (.seq (.seq (.reg Eb9) (.cond (.t 37) (.seq (.reg Ec0) .ret) .skip)) (.seq (.any Yy) (.seq (.seq (.reg Br2) (.cond (.t 45) (.seq (.reg Br3) .ret) .skip)) (.seq (.seq (.reg Br4) (.block 2 (.loop An7))) (.seq (.seq (.reg Bs4) (.block 6 (.loop An9))) (.seq (.reg Bt6) .ret))))))))), [.tmp 4]⟩
theorem Q11_ok : Ai Tryz.prog [0, 1, 3, 4, 5, 6, 7, 8, 9, 10, 11, 13, 14, 16, 21, 22, 23, 47, 48, 52, 53, 69, 70, 71, 75, 76, 77] [15, 20, 31, 71, 88, 41, 76, 86, 65, 83, 81, 114, 117, 119, 122, 68, 100, 103, 104, 105, 137, 138, 64, 72, 96, 99, 158, 159, 132, 56, 93, 94, 130, 131, 155, 62, 23, 170] 83 = some Q11 := by kernel_rfl

def Ey9 : Sts := zA 1 (.box 45 (.t 0))<|zA 2 (.alloc 45 [(.slice none 0 0), (.slice none 0 0), (.slice none 0 0), (.slice none 0 0)])<|.nil
def Ez0 : AT := .q (zC 0 6 (zI 0 1)<|zC 1 7 (zK 6)<|zC 3 9 (zI 1 1)<|zC 4 10 (zK 9)<|zC 6 12 (zI 3 1)<|zC 7 13 (zK 12)<|.nil)<|zE 2 8 (.call 113 [(.t 7)]) false (zF<|zE 5 11 (.call 124 [(.t 10)]) false (zF<|zE 8 14 (.call 113 [(.t 13)]) true (.q (zC 9 15 (.build [(.slice none 0 0), (.slice none 0 0), (.slice none 0 0), (.slice none 0 0)] [(0, 1, (.t 8)), (1, 1, (.t 11)), (3, 1, (.t 14))])<|.nil)<|zE 10 3 (.alloc 45 [(.slice none 0 0), (.slice none 0 0), (.slice none 0 0), (.slice none 0 0)]) false (zF<|.s 11 none (.store 4 (.t 3) (.t 15)) true (zF<|.fin)<|.no)<|.no)<|zE 10 3 (.alloc 45 [(.slice none 0 0), (.slice none 0 0), (.slice none 0 0), (.slice none 0 0)]) false (zF<|zE 8 14 (.call 113 [(.t 13)]) false (.q (zC 9 15 (.build [(.slice none 0 0), (.slice none 0 0), (.slice none 0 0), (.slice none 0 0)] [(0, 1, (.t 8)), (1, 1, (.t 11)), (3, 1, (.t 14))])<|.nil)<|.s 11 none (.store 4 (.t 3) (.t 15)) true (zF<|.fin)<|.no)<|.no)<|.no)<|zE 10 3 (.alloc 45 [(.slice none 0 0), (.slice none 0 0), (.slice none 0 0), (.slice none 0 0)]) false (zF<|zE 5 11 (.call 124 [(.t 10)]) false (zF<|zE 8 14 (.call 113 [(.t 13)]) false (.q (zC 9 15 (.build [(.slice none 0 0), (.slice none 0 0), (.slice none 0 0), (.slice none 0 0)] [(0, 1, (.t 8)), (1, 1, (.t 11)), (3, 1, (.t 14))])<|.nil)<|.s 11 none (.store 4 (.t 3) (.t 15)) true (zF<|.fin)<|.no)<|.no)<|.no)<|.no)<|zE 10 3 (.alloc 45 [(.slice none 0 0), (.slice none 0 0), (.slice none 0 0), (.slice none 0 0)]) false (zF<|zE 2 8 (.call 113 [(.t 7)]) false (zF<|zE 5 11 (.call 124 [(.t 10)]) false (zF<|zE 8 14 (.call 113 [(.t 13)]) false (.q (zC 9 15 (.build [(.slice none 0 0), (.slice none 0 0), (.slice none 0 0), (.slice none 0 0)] [(0, 1, (.t 8)), (1, 1, (.t 11)), (3, 1, (.t 14))])<|.nil)<|.s 11 none (.store 4 (.t 3) (.t 15)) true (zF<|.fin)<|.no)<|.no)<|.no)<|.no)<|.no
def Fd0 : Sts := zA 16 (zI 2 1)<|zA 17 (zK 16)<|zA 18 (zM 17)<|zG 19 0<|.nil
def Fd1 : Sts := zA 20 (.bin .lss (.t 19) (.t 18))<|.nil
def Fd2 : Sts := zA 21 (zH 1 17 19)<|zA 22 (zK 21)<|zB 5 22<|.nil
def Ez1 : AT := .q (zC 0 23 (zI 2 3)<|zC 1 24 (zK 23)<|zD 2 25 5<|.nil)<|zE 3 26 (.call 113 [(.t 25)]) false (zF<|zE 4 27 (.buildSl 34 1 [(.slice none 0 0)] [(0, 1, (.t 26))]) false (zF<|zE 5 28 (.append 34 1 24 [(.slice none 0 0)] (.t 24) (.t 27)) true (.q (zC 6 29 (zI 2 3)<|.nil)<|.s 7 none (.store 1 (.t 29) (.t 28)) true (zF<|.fin)<|.no)<|.no)<|.no)<|.no
def Fd3 : Sts := zA 30 (.bin .add (.t 19) (zN 1))<|zB 19 30<|.nil
def Ec1 : RCode := (.seq (.reg Fd1) (.seq (.cond (.t 20) .skip (.exit 0)) (.seq (.block 1 (.seq (.reg Fd2) (.any Ez1))) (.reg Fd3))))
def Fd4 : Sts := zA 31 (.loadA 4 (.t 3))<|.op none (.store 4 (.t 2) (.t 31))<|.nil
def Q1 : RFun := ⟨32, [0, 1, 2, 3, 5, 17, 18, 19], (.seq (.reg Ey9) (.seq (.any Ez0) (.seq (.seq (.reg Fd0) (.block 0 (.loop Ec1))) (.seq (.reg Fd4) .ret)))), [.cellA 2 4]⟩
theorem Q1_ok : Ai Tryz.prog [0, 1, 2, 3, 5, 17, 18, 19] [15, 20, 31, 71, 88, 41, 76, 86, 65, 83, 81, 114, 117, 119, 122, 68, 100, 103, 104, 105, 137, 138, 64, 72, 96, 99, 158, 159, 132, 56, 93, 94, 130, 131, 155, 62, 23, 170] 84 = some Q1 := by kernel_rfl

def Bt7 : Sts := zA 3 (.box 45 (.t 1))<|zA 4 (.mv (.c (.slice none 0 0)))<|zA 5 (.mv (.c (.slice none 0 0)))<|zA 6 (.mv (.c (.slice none 0 0)))<|.nil
def Ec2 : AT := .q (zD 0 11 0<|zC 1 12 (zM 11)<|zD 3 14 0<|zC 4 15 (zM 14)<|zD 6 17 0<|zC 7 18 (zM 17)<|.nil)<|zE 2 13 (.makeSl 3 1 8 [(.int .i64 0)] (.t 12) (.t 12)) false (.q (zD 9 4 13<|.nil)<|zE 5 16 (.makeSl 3 1 8 [(.int .i64 0)] (.t 15) (.t 15)) false (.q (zD 10 5 16<|.nil)<|zE 8 19 (.makeSl 4 1 1 [(.bool false)] (.t 18) (.t 18)) false (.q (zD 11 6 19<|.nil)<|.fin)<|.no)<|zE 8 19 (.makeSl 4 1 1 [(.bool false)] (.t 18) (.t 18)) false (zF<|zE 5 16 (.makeSl 3 1 8 [(.int .i64 0)] (.t 15) (.t 15)) false (.q (zD 10 5 16<|zD 11 6 19<|.nil)<|.fin)<|.no)<|.no)<|zE 5 16 (.makeSl 3 1 8 [(.int .i64 0)] (.t 15) (.t 15)) false (zF<|zE 2 13 (.makeSl 3 1 8 [(.int .i64 0)] (.t 12) (.t 12)) false (.q (zD 9 4 13<|zD 10 5 16<|.nil)<|zE 8 19 (.makeSl 4 1 1 [(.bool false)] (.t 18) (.t 18)) false (.q (zD 11 6 19<|.nil)<|.fin)<|.no)<|zE 8 19 (.makeSl 4 1 1 [(.bool false)] (.t 18) (.t 18)) false (zF<|zE 2 13 (.makeSl 3 1 8 [(.int .i64 0)] (.t 12) (.t 12)) false (.q (zD 9 4 13<|zD 10 5 16<|zD 11 6 19<|.nil)<|.fin)<|.no)<|.no)<|zE 8 19 (.makeSl 4 1 1 [(.bool false)] (.t 18) (.t 18)) false (zF<|zE 2 13 (.makeSl 3 1 8 [(.int .i64 0)] (.t 12) (.t 12)) false (.q (zD 9 4 13<|.nil)<|zE 5 16 (.makeSl 3 1 8 [(.int .i64 0)] (.t 15) (.t 15)) false (.q (zD 10 5 16<|zD 11 6 19<|.nil)<|.fin)<|.no)<|zE 5 16 (.makeSl 3 1 8 [(.int .i64 0)] (.t 15) (.t 15)) false (zF<|zE 2 13 (.makeSl 3 1 8 [(.int .i64 0)] (.t 12) (.t 12)) false (.q (zD 9 4 13<|zD 10 5 16<|zD 11 6 19<|.nil)<|.fin)<|.no)<|.no)<|.no
def Ec3 : Sts := zB 20 0<|zA 21 (zM 20)<|zA 22 (.makeSl 4 1 1 [(.bool false)] (.t 21) (.t 21))<|zB 7 22<|.nil
def Ec4 : Sts := zB 23 0<|zA 24 (zM 23)<|zA 25 (.bin .add (.t 24) (zN 1))<|zG 26 0<|.nil
def Ec5 : Sts := zA 27 (.bin .lss (.t 26) (.t 25))<|.nil
def Ec6 : Sts := zB 28 0<|zA 29 (zM 28)<|zG 30 0<|.nil
def Ec7 : Sts := zA 31 (.bin .lss (.t 30) (.t 29))<|.nil
def Ec8 : Sts := zB 32 30<|zA 33 (zH 6 28 30)<|zA 34 (.loadA 6 (.t 33))<|zA 9 (.alloc 121 [(.int .i64 0), (.int .i64 0), (.int .i64 0), (.int .i64 0), (.int .i64 0), (.int .i64 0)])<|zB 8 32<|.op none (.store 6 (.t 9) (.t 34))<|.nil
def Ec9 : Sts := zA 35 (zI 0 3)<|zA 36 (zK 35)<|zB 37 8<|zA 38 (zH 1 36 37)<|zA 39 (zJ 38)<|zB 10 39<|.nil
def Ed0 : Sts := zA 41 (.loadA 6 (.t 9))<|zA 42 (.call 86 [(.t 41)])<|zB 43 42<|.cnd 43 true (zB 44 10<|zA 45 (.bin .eql (.t 44) (.c (.int .i64 (-1))))<|.nil) 46 (.t 45)<|zB 40 46<|.nil
def Bt8 : Sts := zB 47 6<|zB 48 8<|zA 49 (zH 1 47 48)<|.op none (.store 1 (.t 49) (.c (.bool true)))<|.nil
def Bt9 : Sts := zA 51 (.loadA 6 (.t 9))<|zA 52 (.call 86 [(.t 51)])<|zB 53 52<|.cnd 53 true (zB 54 7<|zB 55 10<|zA 56 (zH 1 54 55)<|zA 57 (.loadB (.t 56))<|.nil) 58 (.t 57)<|zB 50 58<|.nil
def Bu0 : Sts := zB 59 4<|zB 60 8<|zB 61 6<|zB 62 8<|zB 63 5<|zB 64 10<|zA 65 (zH 1 63 64)<|zA 66 (zJ 65)<|zA 67 (zH 1 59 60)<|.op none (.store 1 (.t 67) (.t 66))<|zA 68 (zH 1 61 62)<|.op none (.store 1 (.t 68) (.c (.bool true)))<|.nil
def Bu1 : Sts := zA 69 (zI 0 9)<|zA 70 (zI 0 69)<|zA 71 (zJ 70)<|.nil
def Bu2 : Sts := zA 73 (.bin .eql (.t 71) (zN 1))<|zB 72 73<|.nil
def Bu3 : Sts := zB 74 5<|zB 75 8<|zB 76 7<|zB 77 8<|zA 78 (zI 0 9)<|zA 79 (zI 2 78)<|zA 80 (zJ 79)<|zA 81 (zH 1 74 75)<|.op none (.store 1 (.t 81) (.t 80))<|zA 82 (zH 1 76 77)<|.op none (.store 1 (.t 82) (.c (.bool true)))<|.nil
def Bu4 : Sts := zA 84 (.bin .eql (.t 71) (zN 2))<|zB 83 84<|.nil
def Yz : AT := .q (zD 0 85 5<|zD 1 86 8<|zD 2 87 7<|zD 3 88 8<|zD 4 89 4<|zD 5 90 8<|zC 6 91 (zH 1 89 90)<|zC 7 92 (zJ 91)<|zC 8 93 (zI 0 9)<|zC 9 94 (zI 2 93)<|zC 10 95 (zJ 94)<|zC 11 96 (.bin .add (.t 92) (.t 95))<|zD 12 97 6<|zD 13 98 8<|zC 14 99 (zH 1 97 98)<|zC 15 100 (.loadB (.t 99))<|zC 16 101 (zH 1 85 86)<|.nil)<|.s 17 none (.store 1 (.t 101) (.t 96)) false (.q (zC 18 102 (zH 1 87 88)<|.nil)<|.s 19 none (.store 1 (.t 102) (.t 100)) true (zF<|.fin)<|.no)<|.no
def Bu5 : Sts := zA 104 (.bin .eql (.t 71) (zN 3))<|zB 103 104<|.nil
def Bu6 : Sts := zA 105 (.bin .eql (.t 71) (zN 4))<|zB 103 105<|.nil
def Bu7 : Sts := zB 106 5<|zB 107 8<|zB 108 7<|zB 109 8<|zA 110 (zI 0 9)<|zA 111 (zI 3 110)<|zA 112 (zJ 111)<|zA 113 (zH 1 106 107)<|.op none (.store 1 (.t 113) (.t 112))<|zA 114 (zH 1 108 109)<|.op none (.store 1 (.t 114) (.c (.bool true)))<|.nil
def Bu8 : Sts := zA 115 (.bin .add (.t 30) (zN 1))<|zB 30 115<|.nil
def Ao0 : RCode := (.seq (.reg Ec7) (.seq (.cond (.t 31) .skip (.exit 2)) (.seq (.block 3 (.seq (.reg Ec8) (.seq (.seq (.reg Ec9) (.block 4 (.seq (.reg Ed0) (.cond (.t 40) (.reg Bt8) (.seq (.reg Bt9) (.cond (.t 50) (.reg Bu0) .skip)))))) (.seq (.reg Bu1) (.block 5 (.seq (.reg Bu2) (.cond (.t 72) (.reg Bu3) (.seq (.reg Bu4) (.cond (.t 83) (.any Yz) (.seq (.seq (.reg Bu5) (.cond (.t 103) .skip (.reg Bu6))) (.cond (.t 103) (.reg Bu7) .skip))))))))))) (.reg Bu8))))
def Bu9 : Sts := zA 116 (.bin .add (.t 26) (zN 1))<|zB 26 116<|.nil
def Ao1 : RCode := (.seq (.reg Ec5) (.seq (.cond (.t 27) .skip (.exit 0)) (.seq (.block 1 (.seq (.reg Ec6) (.block 2 (.loop Ao0)))) (.reg Bu9))))
def Bv0 : Sts := zB 117 4<|zB 118 5<|zB 119 6<|zB 4 117<|zB 5 118<|zB 6 119<|.nil
def Q40 : RFun := ⟨120, [0, 1, 3, 4, 5, 6, 7, 8, 9, 10, 25, 26, 28, 29, 30, 71], (.seq (.reg Bt7) (.seq (.any Ec2) (.seq (.reg Ec3) (.seq (.seq (.reg Ec4) (.block 0 (.loop Ao1))) (.seq (.reg Bv0) .ret))))), [.tmp 4, .tmp 5, .tmp 6]⟩
theorem Q40_ok : Ai Tryz.prog [0, 1, 3, 4, 5, 6, 7, 8, 9, 10, 25, 26, 28, 29, 30, 71] [15, 20, 31, 71, 88, 41, 76, 86, 65, 83, 81, 114, 117, 119, 122, 68, 100, 103, 104, 105, 137, 138, 64, 72, 96, 99, 158, 159, 132, 56, 93, 94, 130, 131, 155, 62, 23, 170] 85 = some Q40 := by kernel_rfl

def Fd5 : Sts := zA 1 (.box 121 (.t 0))<|zA 2 (.mv (.c (.bool false)))<|.nil
def Fd6 : Sts := zA 3 (zI 0 1)<|zA 4 (zI 0 3)<|zA 5 (zJ 4)<|zA 6 (.bin .neq (.t 5) (zN 1))<|zB 7 6<|.cnd 7 true (zA 8 (zI 0 1)<|zA 9 (zI 0 8)<|zA 10 (zJ 9)<|zA 11 (.bin .neq (.t 10) (zN 5))<|.nil) 12 (.t 11)<|zB 2 12<|.nil
def Q6 : RFun := ⟨13, [0, 1, 2], (.seq (.reg Fd5) (.seq (.reg Fd6) .ret)), [.tmp 2]⟩
theorem Q6_ok : Ai Tryz.prog [0, 1, 2] [15, 20, 31, 71, 88, 41, 76, 86, 65, 83, 81, 114, 117, 119, 122, 68, 100, 103, 104, 105, 137, 138, 64, 72, 96, 99, 158, 159, 132, 56, 93, 94, 130, 131, 155, 62, 23, 170] 86 = some Q6 := by kernel_rfl

def Bv1 : Sts := zG 4 0<|.nil
def Bv2 : Sts := zB 9 0<|zA 10 (zM 9)<|zG 11 0<|.nil
def Bv3 : Sts := zA 12 (.bin .lss (.t 11) (.t 10))<|.nil
def Bv4 : Sts := zB 13 11<|zA 14 (zH 1 9 11)<|zA 15 (zJ 14)<|zB 5 13<|zB 6 15<|.nil
def Bv5 : Sts := zB 16 5<|zB 17 1<|zA 18 (zM 17)<|zA 19 (.bin .geq (.t 16) (.t 18))<|.nil
def Bv6 : Sts := zG 4 1<|.nil
def Bv7 : Sts := zB 20 1<|zB 21 5<|zA 22 (zH 1 20 21)<|zA 23 (zJ 22)<|zB 7 23<|.nil
def Bv8 : Sts := zB 24 6<|zB 25 7<|zA 26 (.call 127 [(.t 24), (.t 25)])<|zB 8 26<|.nil
def Bv9 : Sts := zB 27 8<|zA 28 (.bin .neq (.t 27) (zN 0))<|.nil
def Bw0 : Sts := zB 29 8<|zB 4 29<|.nil
def Ao2 : Sts := zA 30 (.bin .add (.t 11) (zN 1))<|zB 11 30<|.nil
def Ac6 : RCode := (.seq (.reg Bv3) (.seq (.cond (.t 12) .skip (.exit 0)) (.seq (.block 1 (.seq (.reg Bv4) (.seq (.seq (.reg Bv5) (.cond (.t 19) (.seq (.reg Bv6) .ret) .skip)) (.seq (.reg Bv7) (.seq (.reg Bv8) (.seq (.reg Bv9) (.cond (.t 28) (.seq (.reg Bw0) .ret) .skip))))))) (.reg Ao2))))
def Ao3 : Sts := zB 31 0<|zA 32 (zM 31)<|zB 33 1<|zA 34 (zM 33)<|zA 35 (.bin .lss (.t 32) (.t 34))<|.nil
def Ao4 : Sts := zA 4 (.mv (.c (.int .i64 (-1))))<|.nil
def Ao5 : Sts := zG 4 0<|.nil
def Ed1 : RFun := ⟨36, [0, 1, 4, 5, 6, 7, 8, 9, 10, 11], (.seq (.reg Bv1) (.seq (.seq (.reg Bv2) (.block 0 (.loop Ac6))) (.seq (.seq (.reg Ao3) (.cond (.t 35) (.seq (.reg Ao4) .ret) .skip)) (.seq (.reg Ao5) .ret)))), [.tmp 4]⟩
theorem Q108_ok : Ai Tryz.prog [0, 1, 4, 5, 6, 7, 8, 9, 10, 11] [15, 20, 31, 71, 88, 41, 76, 86, 65, 83, 81, 114, 117, 119, 122, 68, 100, 103, 104, 105, 137, 138, 64, 72, 96, 99, 158, 159, 132, 56, 93, 94, 130, 131, 155, 62, 23, 170] 88 = some Ed1 := by kernel_rfl

def Bw1 : Sts := zA 4 (.mv (.c (.slice none 0 0)))<|.nil
def Bw2 : Sts := zB 8 0<|zA 9 (zM 8)<|zA 10 (.bin .lss (.t 9) (zN 2))<|.nil
def Bw3 : Sts := zB 11 0<|zB 4 11<|.nil
def Bw4 : Sts := zG 5 1<|.nil
def Bw5 : Sts := zB 12 5<|zB 13 0<|zA 14 (zM 13)<|zA 15 (.bin .lss (.t 12) (.t 14))<|.nil
def Vv : AT := .q (zD 0 18 1<|zD 1 19 0<|zD 2 20 5<|zC 3 21 (zH 1 19 20)<|zC 4 22 (zK 21)<|zD 5 23 0<|zD 6 24 5<|zC 7 25 (.bin .sub (.t 24) (zN 1))<|zC 8 26 (zH 1 23 25)<|zC 9 27 (zK 26)<|.nil)<|zE 10 28 (.callv (.t 18) [(.t 22), (.t 27)]) true (zF<|.fin)<|.no
def Bw6 : Sts := zB 29 0<|zB 30 5<|zA 31 (.slS 1 (.t 29) (some (.t 30)) none none)<|zB 6 31<|.nil
def Bw7 : Sts := zG 7 1<|.nil
def Bw8 : Sts := zB 32 7<|zB 33 6<|zA 34 (zM 33)<|zA 35 (.bin .lss (.t 32) (.t 34))<|.nil
def Vw : AT := .q (zD 0 38 1<|zD 1 39 6<|zD 2 40 7<|zC 3 41 (zH 1 39 40)<|zC 4 42 (zK 41)<|zD 5 43 6<|zD 6 44 7<|zC 7 45 (.bin .sub (.t 44) (zN 1))<|zC 8 46 (zH 1 43 45)<|zC 9 47 (zK 46)<|.nil)<|zE 10 48 (.callv (.t 38) [(.t 42), (.t 47)]) true (.q (zC 11 49 (.notb (.t 48))<|.nil)<|.fin)<|.no
def Ao6 : Sts := zB 50 0<|zB 51 5<|zB 52 6<|zB 53 7<|zA 54 (zH 1 52 53)<|zA 55 (zK 54)<|zA 56 (zH 1 50 51)<|.op none (.store 1 (.t 56) (.t 55))<|.nil
def Ao7 : Sts := zB 57 5<|zA 58 (.bin .add (.t 57) (zN 1))<|zB 5 58<|.nil
def Ao8 : Sts := zB 36 7<|zA 37 (.bin .add (.t 36) (zN 1))<|zB 7 37<|.nil
def Ac7 : RCode := (.seq (.seq (.reg Bw8) (.cond (.t 35) .skip (.exit 2))) (.seq (.block 3 (.seq (.any Vw) (.cond (.t 49) (.seq (.reg Ao6) (.reg Ao7)) .skip))) (.reg Ao8)))
def Ao9 : Sts := zB 59 0<|zB 60 5<|zA 61 (.slS 1 (.t 59) (some (.t 60)) none none)<|.op none (.clearS (.slice none 0 0) (.t 61))<|.nil
def Ap0 : Sts := zB 62 0<|zB 63 5<|zA 64 (.slS 1 (.t 62) none (some (.t 63)) none)<|zB 4 64<|.nil
def Ap1 : Sts := zB 16 5<|zA 17 (.bin .add (.t 16) (zN 1))<|zB 5 17<|.nil
def Ac8 : RCode := (.seq (.seq (.reg Bw5) (.cond (.t 15) .skip (.exit 0))) (.seq (.block 1 (.seq (.any Vv) (.cond (.t 28) (.seq (.reg Bw6) (.seq (.seq (.reg Bw7) (.block 2 (.loop Ac7))) (.seq (.reg Ao9) (.seq (.reg Ap0) .ret)))) .skip))) (.reg Ap1)))
def Ap2 : Sts := zB 65 0<|zB 4 65<|.nil
def Bw9 : RFun := ⟨66, [0, 1, 4, 5, 6, 7], (.seq (.reg Bw1) (.seq (.seq (.reg Bw2) (.cond (.t 10) (.seq (.reg Bw3) .ret) .skip)) (.seq (.seq (.reg Bw4) (.block 0 (.loop Ac8))) (.seq (.reg Ap2) .ret)))), [.tmp 4]⟩
theorem Q107_ok : Ai Tryz.prog [0, 1, 4, 5, 6, 7] [15, 20, 31, 71, 88, 41, 76, 86, 65, 83, 81, 114, 117, 119, 122, 68, 100, 103, 104, 105, 137, 138, 64, 72, 96, 99, 158, 159, 132, 56, 93, 94, 130, 131, 155, 62, 23, 170] 89 = some Bw9 := by kernel_rfl

def Ed2 : Sts := zA 4 (.mv (.c (.bool false)))<|.nil
def Ed3 : Sts := zB 5 1<|zA 6 (.bin .lss (.t 5) (zN 0))<|zB 7 6<|.cnd 7 false (zB 8 1<|zA 9 (.bin .gtr (.t 8) (zN 4))<|.nil) 10 (.t 9)<|.nil
def Ed4 : Sts := zA 4 (.mv (.c (.bool false)))<|.nil
def Ed5 : Sts := zB 11 0<|zA 12 (.bin .eql (.t 11) (zN 0))<|.nil
def Ed6 : Sts := zB 13 1<|zA 14 (.bin .eql (.t 13) (zN 0))<|zB 15 14<|.cnd 15 false (zB 16 1<|zA 17 (.bin .eql (.t 16) (zN 1))<|.nil) 18 (.t 17)<|zB 19 18<|.cnd 19 false (zB 20 1<|zA 21 (.bin .eql (.t 20) (zN 4))<|.nil) 22 (.t 21)<|zB 4 22<|.nil
def Ed7 : Sts := zB 23 0<|zA 24 (.bin .eql (.t 23) (zN 1))<|.nil
def Ed8 : Sts := zB 25 1<|zA 26 (.bin .eql (.t 25) (zN 0))<|zB 27 26<|.cnd 27 false (zB 28 1<|zA 29 (.bin .eql (.t 28) (zN 2))<|.nil) 30 (.t 29)<|zB 31 30<|.cnd 31 false (zB 32 1<|zA 33 (.bin .eql (.t 32) (zN 4))<|.nil) 34 (.t 33)<|zB 4 34<|.nil
def Ed9 : Sts := zB 35 0<|zA 36 (.bin .eql (.t 35) (zN 5))<|.nil
def Ee0 : Sts := zB 37 1<|zA 38 (.bin .neq (.t 37) (zN 0))<|zB 4 38<|.nil
def Ee1 : Sts := zB 39 0<|zA 40 (.bin .geq (.t 39) (zN 2))<|zB 41 40<|.cnd 41 true (zB 42 0<|zA 43 (.bin .leq (.t 42) (zN 4))<|.nil) 44 (.t 43)<|zB 4 44<|.nil
def Q70 : RFun := ⟨45, [0, 1, 4], (.seq (.reg Ed2) (.seq (.seq (.reg Ed3) (.cond (.t 10) (.seq (.reg Ed4) .ret) .skip)) (.seq (.seq (.reg Ed5) (.cond (.t 12) (.seq (.reg Ed6) .ret) .skip)) (.seq (.seq (.reg Ed7) (.cond (.t 24) (.seq (.reg Ed8) .ret) .skip)) (.seq (.seq (.reg Ed9) (.cond (.t 36) (.seq (.reg Ee0) .ret) .skip)) (.seq (.reg Ee1) .ret)))))), [.tmp 4]⟩
theorem Q70_ok : Ai Tryz.prog [0, 1, 4] [15, 20, 31, 71, 88, 41, 76, 86, 65, 83, 81, 114, 117, 119, 122, 68, 100, 103, 104, 105, 137, 138, 64, 72, 96, 99, 158, 159, 132, 56, 93, 94, 130, 131, 155, 62, 23, 170] 90 = some Q70 := by kernel_rfl

def Ee2 : Sts := zA 1 (.box 24 (.t 0))<|zA 2 (.alloc 24 [(.slice none 0 0)])<|zG 3 0<|.nil
def Ee3 : Sts := zA 11 (.loadA 1 (.t 1))<|zA 12 (.call 13 [(.t 11)])<|zB 4 12<|.nil
def Ee4 : Sts := zB 13 4<|zA 14 (.bin .neq (.t 13) (zN 0))<|.nil
def Ee5 : Sts := zA 15 (.build [(.slice none 0 0)] [])<|zB 16 4<|.op none (.store 1 (.t 2) (.t 15))<|zB 3 16<|.nil
def Ee6 : Sts := zA 5 (.alloc 24 [(.slice none 0 0)])<|.nil
def Ee7 : Sts := zA 17 (.build [(.int .i64 0), (.int .i64 0), (.int .i64 0), (.int .i64 0), (.int .i64 0)] [(0, 1, (zN 5)), (4, 1, (zN 4))])<|zA 6 (.alloc 83 [(.int .i64 0), (.int .i64 0), (.int .i64 0), (.int .i64 0), (.int .i64 0)])<|.op none (.store 5 (.t 6) (.t 17))<|.nil
def Ee8 : Sts := zG 7 0<|.nil
def Ee9 : Sts := zB 18 7<|zA 19 (zI 0 1)<|zA 20 (zK 19)<|zA 21 (zM 20)<|zA 22 (.bin .lss (.t 18) (.t 21))<|.nil
def Ef0 : Sts := zA 8 (.mv (.c (.slice none 0 0)))<|.nil
def Ef1 : Sts := zG 9 0<|.nil
def Bx0 : Sts := zB 25 9<|zA 26 (zI 0 1)<|zA 27 (zK 26)<|zB 28 7<|zA 29 (zH 1 27 28)<|zA 30 (zK 29)<|zA 31 (zM 30)<|zA 32 (.bin .lss (.t 25) (.t 31))<|.nil
def Bx1 : Sts := zA 35 (zI 0 1)<|zA 36 (zK 35)<|zB 37 7<|zA 38 (zH 1 36 37)<|zA 39 (zK 38)<|zB 40 9<|zA 41 (zH 5 39 40)<|zA 42 (.loadA 5 (.t 41))<|zA 10 (.alloc 83 [(.int .i64 0), (.int .i64 0), (.int .i64 0), (.int .i64 0), (.int .i64 0)])<|.op none (.store 5 (.t 10) (.t 42))<|.nil
def Bx2 : Sts := zA 43 (zI 0 10)<|zA 44 (zJ 43)<|zA 45 (.bin .eql (.t 44) (zN 5))<|zB 46 45<|.cnd 46 false (zA 47 (zI 4 10)<|zA 48 (zJ 47)<|zA 49 (.bin .neq (.t 48) (zN 4))<|.nil) 50 (.t 49)<|.nil
def Bx3 : Sts := zB 51 8<|zA 52 (.loadA 5 (.t 10))<|zA 53 (.buildSl 83 1 [(.int .i64 0), (.int .i64 0), (.int .i64 0), (.int .i64 0), (.int .i64 0)] [(0, 5, (.t 52))])<|zA 54 (.append 83 5 40 [(.int .i64 0), (.int .i64 0), (.int .i64 0), (.int .i64 0), (.int .i64 0)] (.t 51) (.t 53))<|zB 8 54<|.nil
def Bx4 : Sts := zA 55 (.loadA 5 (.t 10))<|zA 56 (.call 128 [(.t 55)])<|zA 57 (zI 4 10)<|.op none (.store 1 (.t 57) (.t 56))<|.nil
def Bx5 : Sts := zB 58 8<|zA 59 (.loadA 5 (.t 6))<|zA 60 (.loadA 5 (.t 10))<|zA 61 (.loadA 5 (.t 6))<|zA 62 (.buildSl 83 3 [(.int .i64 0), (.int .i64 0), (.int .i64 0), (.int .i64 0), (.int .i64 0), (.int .i64 0), (.int .i64 0), (.int .i64 0), (.int .i64 0), (.int .i64 0), (.int .i64 0), (.int .i64 0), (.int .i64 0), (.int .i64 0), (.int .i64 0)] [(0, 5, (.t 59)), (5, 5, (.t 60)), (10, 5, (.t 61))])<|zA 63 (.append 83 5 40 [(.int .i64 0), (.int .i64 0), (.int .i64 0), (.int .i64 0), (.int .i64 0)] (.t 58) (.t 62))<|zB 8 63<|.nil
def Bx6 : Sts := zB 33 9<|zA 34 (.bin .add (.t 33) (zN 1))<|zB 9 34<|.nil
def Ap3 : RCode := (.seq (.seq (.reg Bx0) (.cond (.t 32) .skip (.exit 2))) (.seq (.block 3 (.seq (.reg Bx1) (.seq (.seq (.reg Bx2) (.cond (.t 50) (.seq (.reg Bx3) (.exit 3)) .skip)) (.seq (.reg Bx4) (.reg Bx5))))) (.reg Bx6)))
def Bx7 : Sts := zA 64 (zI 0 5)<|zA 65 (zK 64)<|zB 66 8<|zA 67 (.buildSl 70 1 [(.slice none 0 0)] [(0, 1, (.t 66))])<|zA 68 (.append 70 1 24 [(.slice none 0 0)] (.t 65) (.t 67))<|zA 69 (zI 0 5)<|.op none (.store 1 (.t 69) (.t 68))<|.nil
def Bx8 : Sts := zB 23 7<|zA 24 (.bin .add (.t 23) (zN 1))<|zB 7 24<|.nil
def Ap4 : RCode := (.seq (.seq (.reg Ee9) (.cond (.t 22) .skip (.exit 0))) (.seq (.block 1 (.seq (.reg Ef0) (.seq (.seq (.reg Ef1) (.block 2 (.loop Ap3))) (.reg Bx7)))) (.reg Bx8)))
def Bx9 : Sts := zA 70 (.loadA 1 (.t 5))<|.op none (.store 1 (.t 2) (.t 70))<|zG 3 0<|.nil
def Q67 : RFun := ⟨71, [0, 1, 2, 3, 4, 5, 6, 7, 8, 9, 10], (.seq (.reg Ee2) (.seq (.seq (.reg Ee3) (.seq (.reg Ee4) (.cond (.t 14) (.seq (.reg Ee5) .ret) .skip))) (.seq (.reg Ee6) (.seq (.reg Ee7) (.seq (.seq (.reg Ee8) (.block 0 (.loop Ap4))) (.seq (.reg Bx9) .ret)))))), [.cellA 2 1, .tmp 3]⟩
theorem Q67_ok : Ai Tryz.prog [0, 1, 2, 3, 4, 5, 6, 7, 8, 9, 10] [15, 20, 31, 71, 88, 41, 76, 86, 65, 83, 81, 114, 117, 119, 122, 68, 100, 103, 104, 105, 137, 138, 64, 72, 96, 99, 158, 159, 132, 56, 93, 94, 130, 131, 155, 62, 23, 170] 91 = some Q67 := by kernel_rfl

def Ef2 : Sts := zA 1 (.box 83 (.t 0))<|zA 2 (.mv (.c (.bool false)))<|.nil
def Ef3 : Sts := zA 3 (zI 0 1)<|zA 4 (zJ 3)<|zA 5 (.bin .geq (.t 4) (zN 1))<|zB 6 5<|.cnd 6 true (zA 7 (zI 0 1)<|zA 8 (zJ 7)<|zA 9 (.bin .leq (.t 8) (zN 4))<|.nil) 10 (.t 9)<|zB 2 10<|.nil
def Q94 : RFun := ⟨11, [0, 1, 2], (.seq (.reg Ef2) (.seq (.reg Ef3) .ret)), [.tmp 2]⟩
theorem Q94_ok : Ai Tryz.prog [0, 1, 2] [15, 20, 31, 71, 88, 41, 76, 86, 65, 83, 81, 114, 117, 119, 122, 68, 100, 103, 104, 105, 137, 138, 64, 72, 96, 99, 158, 159, 132, 56, 93, 94, 130, 131, 155, 62, 23, 170] 93 = some Q94 := by kernel_rfl

def Ef4 : Sts := zA 1 (.box 83 (.t 0))<|zA 2 (.mv (.c (.bool false)))<|.nil
def Ef5 : Sts := zA 3 (zI 0 1)<|zA 4 (zJ 3)<|zA 5 (.bin .eql (.t 4) (zN 5))<|zB 6 5<|.cnd 6 true (zA 7 (zI 4 1)<|zA 8 (zJ 7)<|zA 9 (.bin .eql (.t 8) (zN 4))<|.nil) 10 (.t 9)<|zB 2 10<|.nil
def Q82 : RFun := ⟨11, [0, 1, 2], (.seq (.reg Ef4) (.seq (.reg Ef5) .ret)), [.tmp 2]⟩
theorem Q82_ok : Ai Tryz.prog [0, 1, 2] [15, 20, 31, 71, 88, 41, 76, 86, 65, 83, 81, 114, 117, 119, 122, 68, 100, 103, 104, 105, 137, 138, 64, 72, 96, 99, 158, 159, 132, 56, 93, 94, 130, 131, 155, 62, 23, 170] 94 = some Q82 := by kernel_rfl

def Ef6 : Sts := zA 3 (.box 37 (.t 1))<|zA 4 (.alloc 95 [(.int .u64 0), (.int .u64 0), (.int .u64 0), (.int .u64 0), (.int .u64 0), (.int .u64 0), (.int .u64 0), (.int .u64 0), (.int .u64 0), (.int .u64 0), (.int .u64 0), (.int .u64 0), (.int .u64 0), (.int .u64 0), (.int .u64 0), (.int .u64 0)])<|.nil
def Ef7 : Sts := zA 5 (.alloc 95 [(.int .u64 0), (.int .u64 0), (.int .u64 0), (.int .u64 0), (.int .u64 0), (.int .u64 0), (.int .u64 0), (.int .u64 0), (.int .u64 0), (.int .u64 0), (.int .u64 0), (.int .u64 0), (.int .u64 0), (.int .u64 0), (.int .u64 0), (.int .u64 0)])<|.nil
def Ef8 : Sts := zG 6 0<|.nil
def Ef9 : Sts := zB 16 6<|zB 17 0<|zA 18 (zM 17)<|zA 19 (.bin .lss (.t 16) (.t 18))<|.nil
def Eg0 : Sts := zA 22 (zI 1 3)<|zA 23 (zK 22)<|zB 24 6<|zA 25 (zH 1 23 24)<|zA 26 (.loadB (.t 25))<|zA 27 (.notb (.t 26))<|.nil
def Eg1 : Sts := zB 28 6<|zA 29 (.conv .u64 (.t 28))<|zA 30 (.bin .shl (.c (.int .u64 1)) (.t 29))<|zB 7 30<|.nil
def Eg2 : Sts := zG 8 0<|.nil
def Eg3 : Sts := zB 31 8<|zB 32 0<|zA 33 (zM 32)<|zA 34 (.bin .lss (.t 31) (.t 33))<|.nil
def Eg4 : Sts := zG 9 0<|.nil
def Eg5 : Sts := zB 37 9<|zB 38 0<|zA 39 (zM 38)<|zA 40 (.bin .lss (.t 37) (.t 39))<|.nil
def By0 : Sts := zA 43 (zI 1 3)<|zA 44 (zK 43)<|zB 45 9<|zA 46 (zH 1 44 45)<|zA 47 (.loadB (.t 46))<|zB 48 47<|.cnd 48 true (zA 49 (zI 0 3)<|zA 50 (zK 49)<|zB 51 9<|zA 52 (zH 1 50 51)<|zA 53 (zJ 52)<|zA 54 (.bin .geq (.t 53) (zN 0))<|.nil) 55 (.t 54)<|zB 56 55<|.cnd 56 true (zB 57 7<|zA 58 (zI 0 3)<|zA 59 (zK 58)<|zB 60 9<|zA 61 (zH 1 59 60)<|zA 62 (zJ 61)<|zA 63 (.conv .u64 (.t 62))<|zA 64 (.bin .shr (.t 57) (.t 63))<|zA 65 (.bin .and (.t 64) (.c (.int .u64 1)))<|zA 66 (.bin .eql (.t 65) (.c (.int .u64 1)))<|.nil) 67 (.t 66)<|.nil
def By1 : Sts := zB 68 7<|zB 69 9<|zA 70 (.conv .u64 (.t 69))<|zA 71 (.bin .shl (.c (.int .u64 1)) (.t 70))<|zA 72 (.bin .or (.t 68) (.t 71))<|zB 7 72<|.nil
def By2 : Sts := zB 41 9<|zA 42 (.bin .add (.t 41) (zN 1))<|zB 9 42<|.nil
def Ap5 : RCode := (.seq (.seq (.reg Eg5) (.cond (.t 40) .skip (.exit 4))) (.seq (.block 5 (.seq (.reg By0) (.cond (.t 67) (.reg By1) .skip))) (.reg By2)))
def By3 : Sts := zB 35 8<|zA 36 (.bin .add (.t 35) (zN 1))<|zB 8 36<|.nil
def Ap6 : RCode := (.seq (.seq (.reg Eg3) (.cond (.t 34) .skip (.exit 2))) (.seq (.block 3 (.seq (.reg Eg4) (.block 4 (.loop Ap5)))) (.reg By3)))
def By4 : Sts := zG 10 0<|.nil
def By5 : Sts := zB 73 10<|zB 74 0<|zA 75 (zM 74)<|zA 76 (.bin .lss (.t 73) (.t 75))<|.nil
def By6 : Sts := zA 79 (zI 0 3)<|zA 80 (zK 79)<|zB 81 10<|zA 82 (zH 1 80 81)<|zA 83 (zJ 82)<|zA 84 (.bin .lss (.t 83) (zN 0))<|zB 85 84<|.cnd 85 false (zB 86 7<|zA 87 (zI 0 3)<|zA 88 (zK 87)<|zB 89 10<|zA 90 (zH 1 88 89)<|zA 91 (zJ 90)<|zA 92 (.conv .u64 (.t 91))<|zA 93 (.bin .shr (.t 86) (.t 92))<|zA 94 (.bin .and (.t 93) (.c (.int .u64 1)))<|zA 95 (.bin .eql (.t 94) (.c (.int .u64 0)))<|.nil) 96 (.t 95)<|.nil
def By7 : Sts := zA 11 (.mv (.c (.int .u64 0)))<|zA 12 (.mv (.c (.int .u64 0)))<|.nil
def By8 : Sts := zG 13 0<|.nil
def By9 : Sts := zB 97 13<|zB 98 0<|zA 99 (zM 98)<|zA 100 (.bin .lss (.t 97) (.t 99))<|.nil
def Bz0 : Sts := zB 103 0<|zB 104 13<|zA 105 (zH 6 103 104)<|zA 106 (zI 1 105)<|zA 107 (.loadA 5 (.t 106))<|zA 14 (.alloc 83 [(.int .i64 0), (.int .i64 0), (.int .i64 0), (.int .i64 0), (.int .i64 0)])<|.op none (.store 5 (.t 14) (.t 107))<|.nil
def Ah0 : AT := .q (zC 0 108 (zI 4 14)<|zC 1 109 (zJ 108)<|zC 2 110 (.call 130 [(.t 109)])<|zD 3 111 110<|.g 111 true (zD 4 112 13<|zD 5 113 6<|zC 6 114 (.bin .eql (.t 112) (.t 113))<|zD 7 115 114<|.g 115 false (zC 8 116 (zI 0 14)<|zC 9 117 (zJ 116)<|zC 10 118 (.bin .eql (.t 117) (zN 5))<|zD 11 119 118<|.g 119 true (zD 12 120 0<|zD 13 121 13<|zC 14 122 (zH 6 120 121)<|zC 15 123 (zI 0 122)<|zC 16 124 (zJ 123)<|zD 17 125 0<|zD 18 126 6<|zC 19 127 (zH 6 125 126)<|zC 20 128 (zI 0 127)<|zC 21 129 (zJ 128)<|zC 22 130 (.bin .eql (.t 124) (.t 129))<|.nil) 23 131 (.t 130)<|zD 24 132 131<|.g 132 true (zD 25 133 13<|zD 26 134 6<|zC 27 135 (.bin .lss (.t 133) (.t 134))<|.nil) 28 136 (.t 135)<|.nil) 29 137 (.t 136)<|.nil) 30 138 (.t 137)<|.nil)<|.fin
def Bz1 : Sts := zB 139 11<|zB 140 13<|zA 141 (.conv .u64 (.t 140))<|zA 142 (.bin .shl (.c (.int .u64 1)) (.t 141))<|zA 143 (.bin .or (.t 139) (.t 142))<|zB 11 143<|.nil
def Ah1 : AT := .q (zC 0 144 (zI 4 14)<|zC 1 145 (zJ 144)<|zC 2 146 (.call 131 [(.t 145)])<|zD 3 147 146<|.g 147 true (zD 4 148 13<|zD 5 149 10<|zC 6 150 (.bin .eql (.t 148) (.t 149))<|zD 7 151 150<|.g 151 false (zC 8 152 (zI 0 14)<|zC 9 153 (zJ 152)<|zC 10 154 (.bin .eql (.t 153) (zN 5))<|zD 11 155 154<|.g 155 true (zD 12 156 0<|zD 13 157 13<|zC 14 158 (zH 6 156 157)<|zC 15 159 (zI 0 158)<|zC 16 160 (zJ 159)<|zD 17 161 0<|zD 18 162 10<|zC 19 163 (zH 6 161 162)<|zC 20 164 (zI 0 163)<|zC 21 165 (zJ 164)<|zC 22 166 (.bin .eql (.t 160) (.t 165))<|.nil) 23 167 (.t 166)<|zD 24 168 167<|.g 168 true (zD 25 169 13<|zD 26 170 10<|zC 27 171 (.bin .gtr (.t 169) (.t 170))<|.nil) 28 172 (.t 171)<|.nil) 29 173 (.t 172)<|.nil) 30 174 (.t 173)<|.nil)<|.fin
def Bz2 : Sts := zB 175 12<|zB 176 13<|zA 177 (.conv .u64 (.t 176))<|zA 178 (.bin .shl (.c (.int .u64 1)) (.t 177))<|zA 179 (.bin .or (.t 175) (.t 178))<|zB 12 179<|.nil
def Bz3 : Sts := zB 101 13<|zA 102 (.bin .add (.t 101) (zN 1))<|zB 13 102<|.nil
def Y0 : RCode := (.seq (.seq (.reg By9) (.cond (.t 100) .skip (.exit 8))) (.seq (.block 9 (.seq (.reg Bz0) (.seq (.seq (.any Ah0) (.cond (.t 138) (.reg Bz1) .skip)) (.seq (.any Ah1) (.cond (.t 174) (.reg Bz2) .skip))))) (.reg Bz3)))
def Ah2 : Sts := zG 15 0<|.nil
def Bz4 : Sts := zB 180 15<|zB 181 0<|zA 182 (zM 181)<|zA 183 (.bin .lss (.t 180) (.t 182))<|.nil
def Bz5 : Sts := zB 186 11<|zB 187 15<|zA 188 (.conv .u64 (.t 187))<|zA 189 (.bin .shr (.t 186) (.t 188))<|zA 190 (.bin .and (.t 189) (.c (.int .u64 1)))<|zA 191 (.bin .eql (.t 190) (.c (.int .u64 1)))<|.nil
def Bz6 : Sts := zB 192 15<|zB 193 15<|zA 194 (.iaddrA 16 1 (.t 5) (.t 193))<|zA 195 (.loadI .u64 (.t 194))<|zB 196 12<|zA 197 (.bin .or (.t 195) (.t 196))<|zA 198 (.iaddrA 16 1 (.t 5) (.t 192))<|.op none (.store 1 (.t 198) (.t 197))<|.nil
def Bz7 : Sts := zB 184 15<|zA 185 (.bin .add (.t 184) (zN 1))<|zB 15 185<|.nil
def Y1 : RCode := (.seq (.seq (.reg Bz4) (.cond (.t 183) .skip (.exit 10))) (.seq (.block 11 (.seq (.reg Bz5) (.cond (.t 191) (.reg Bz6) .skip))) (.reg Bz7)))
def Bz8 : Sts := zB 77 10<|zA 78 (.bin .add (.t 77) (zN 1))<|zB 10 78<|.nil
def Ap7 : RCode := (.seq (.seq (.reg By5) (.cond (.t 76) .skip (.exit 6))) (.seq (.block 7 (.seq (.seq (.reg By6) (.cond (.t 96) (.exit 7) .skip)) (.seq (.reg By7) (.seq (.seq (.reg By8) (.block 8 (.loop Y0))) (.seq (.reg Ah2) (.block 10 (.loop Y1))))))) (.reg Bz8)))
def Bz9 : Sts := zB 20 6<|zA 21 (.bin .add (.t 20) (zN 1))<|zB 6 21<|.nil
def Ap8 : RCode := (.seq (.seq (.reg Ef9) (.cond (.t 19) .skip (.exit 0))) (.seq (.block 1 (.seq (.seq (.reg Eg0) (.cond (.t 27) (.exit 1) .skip)) (.seq (.reg Eg1) (.seq (.seq (.reg Eg2) (.block 2 (.loop Ap6))) (.seq (.reg By4) (.block 6 (.loop Ap7))))))) (.reg Bz9)))
def Ca0 : Sts := zA 199 (.loadA 16 (.t 5))<|.op none (.store 16 (.t 4) (.t 199))<|.nil
def Q84 : RFun := ⟨200, [0, 1, 3, 4, 5, 6, 7, 8, 9, 10, 11, 12, 13, 14, 15], (.seq (.reg Ef6) (.seq (.reg Ef7) (.seq (.seq (.reg Ef8) (.block 0 (.loop Ap8))) (.seq (.reg Ca0) .ret)))), [.cellA 4 16]⟩
theorem Q84_ok : Ai Tryz.prog [0, 1, 3, 4, 5, 6, 7, 8, 9, 10, 11, 12, 13, 14, 15] [15, 20, 31, 71, 88, 41, 76, 86, 65, 83, 81, 114, 117, 119, 122, 68, 100, 103, 104, 105, 137, 138, 64, 72, 96, 99, 158, 159, 132, 56, 93, 94, 130, 131, 155, 62, 23, 170] 95 = some Q84 := by kernel_rfl

def Ca1 : Sts := zA 2 (.mv (.c (.bool false)))<|.nil
def Ca2 : Sts := zB 3 0<|zA 4 (.bin .geq (.t 3) (zN 0))<|zB 5 4<|.cnd 5 true (zB 6 0<|zA 7 (.bin .lss (.t 6) (zN 5))<|.nil) 8 (.t 7)<|zB 2 8<|.nil
def Eg6 : RFun := ⟨9, [0, 2], (.seq (.reg Ca1) (.seq (.reg Ca2) .ret)), [.tmp 2]⟩
theorem Q100_ok : Ai Tryz.prog [0, 2] [15, 20, 31, 71, 88, 41, 76, 86, 65, 83, 81, 114, 117, 119, 122, 68, 100, 103, 104, 105, 137, 138, 64, 72, 96, 99, 158, 159, 132, 56, 93, 94, 130, 131, 155, 62, 23, 170] 96 = some Eg6 := by kernel_rfl

def Ca3 : Sts := zG 2 0<|.nil
def Ca4 : Sts := zB 5 0<|zA 6 (zM 5)<|zA 7 (.bin .lss (.t 6) (zN 1))<|.nil
def Ca5 : Sts := zA 8 (.bad)<|.op none (.bad)<|.nil
def Ca6 : Sts := zB 9 0<|zA 10 (.iaddrS 1 (.t 9) (zN 0))<|zA 11 (zJ 10)<|zB 3 11<|.nil
def Ca7 : Sts := zG 4 1<|.nil
def Ca8 : Sts := zB 12 4<|zB 13 0<|zA 14 (zM 13)<|zA 15 (.bin .lss (.t 12) (.t 14))<|.nil
def Ca9 : Sts := zB 18 3<|zB 19 0<|zB 20 4<|zA 21 (zH 1 19 20)<|zA 22 (zJ 21)<|zA 23 (.maxi (.t 18) (.t 22))<|zB 3 23<|.nil
def Cb0 : Sts := zB 16 4<|zA 17 (.bin .add (.t 16) (zN 1))<|zB 4 17<|.nil
def Ap9 : RCode := (.seq (.seq (.reg Ca8) (.cond (.t 15) .skip (.exit 0))) (.seq (.block 1 (.reg Ca9)) (.reg Cb0)))
def Cb1 : Sts := zB 24 3<|zB 2 24<|.nil
def Eg7 : RFun := ⟨25, [0, 2, 3, 4], (.seq (.reg Ca3) (.seq (.seq (.reg Ca4) (.cond (.t 7) (.reg Ca5) .skip)) (.seq (.reg Ca6) (.seq (.seq (.reg Ca7) (.block 0 (.loop Ap9))) (.seq (.reg Cb1) .ret))))), [.tmp 2]⟩
theorem Q115_ok : Ai Tryz.prog [0, 2, 3, 4] [15, 20, 31, 71, 88, 41, 76, 86, 65, 83, 81, 114, 117, 119, 122, 68, 100, 103, 104, 105, 137, 138, 64, 72, 96, 99, 158, 159, 132, 56, 93, 94, 130, 131, 155, 62, 23, 170] 98 = some Eg7 := by kernel_rfl

def Cb2 : Sts := zA 4 (.mv (.c (.bool false)))<|.nil
def Cb3 : Sts := zB 5 0<|.nil
def Cb4 : Sts := zA 7 (.bin .eql (.t 5) (zN 0))<|zB 6 7<|.nil
def Cb5 : Sts := zB 8 1<|zA 9 (.bin .neq (.t 8) (zN 2))<|zB 10 9<|.cnd 10 true (zB 11 1<|zA 12 (.bin .neq (.t 11) (zN 3))<|.nil) 13 (.t 12)<|zB 4 13<|.nil
def Cb6 : Sts := zA 15 (.bin .eql (.t 5) (zN 1))<|zB 14 15<|.nil
def Cb7 : Sts := zB 16 1<|zA 17 (.bin .neq (.t 16) (zN 1))<|zB 18 17<|.cnd 18 true (zB 19 1<|zA 20 (.bin .neq (.t 19) (zN 3))<|.nil) 21 (.t 20)<|zB 4 21<|.nil
def Cb8 : Sts := zA 23 (.bin .eql (.t 5) (zN 5))<|zB 22 23<|.nil
def Cb9 : Sts := zB 24 1<|zA 25 (.bin .neq (.t 24) (zN 0))<|zB 4 25<|.nil
def Cc0 : Sts := zA 4 (.mv (.c (.bool true)))<|.nil
def Eg8 : RFun := ⟨26, [0, 1, 4, 5], (.seq (.reg Cb2) (.seq (.seq (.reg Cb3) (.block 0 (.seq (.reg Cb4) (.cond (.t 6) (.seq (.reg Cb5) .ret) (.seq (.reg Cb6) (.cond (.t 14) (.seq (.reg Cb7) .ret) (.seq (.reg Cb8) (.cond (.t 22) (.seq (.reg Cb9) .ret) .skip)))))))) (.seq (.reg Cc0) .ret))), [.tmp 4]⟩
theorem Q101_ok : Ai Tryz.prog [0, 1, 4, 5] [15, 20, 31, 71, 88, 41, 76, 86, 65, 83, 81, 114, 117, 119, 122, 68, 100, 103, 104, 105, 137, 138, 64, 72, 96, 99, 158, 159, 132, 56, 93, 94, 130, 131, 155, 62, 23, 170] 99 = some Eg8 := by kernel_rfl

def Eg9 : Sts := zA 2 (.mv (.c (.bool false)))<|.nil
def Eh0 : Sts := zB 3 0<|zA 4 (.bin .geq (.t 3) (zN 0))<|zB 5 4<|.cnd 5 true (zB 6 0<|zA 7 (.bin .leq (.t 6) (zN 9))<|.nil) 8 (.t 7)<|zB 2 8<|.nil
def Q54 : RFun := ⟨9, [0, 2], (.seq (.reg Eg9) (.seq (.reg Eh0) .ret)), [.tmp 2]⟩
theorem Q54_ok : Ai Tryz.prog [0, 2] [15, 20, 31, 71, 88, 41, 76, 86, 65, 83, 81, 114, 117, 119, 122, 68, 100, 103, 104, 105, 137, 138, 64, 72, 96, 99, 158, 159, 132, 56, 93, 94, 130, 131, 155, 62, 23, 170] 100 = some Q54 := by kernel_rfl

def Eh1 : Sts := zA 2 (.box 74 (.t 0))<|zA 3 (.box 45 (.t 1))<|zA 4 (.mv (.c (.bool false)))<|.nil
def Eh2 : Sts := zA 14 (zI 0 3)<|zA 15 (zK 14)<|zA 16 (zM 15)<|zA 17 (zK 2)<|zA 18 (zM 17)<|zA 19 (.bin .neq (.t 16) (.t 18))<|zB 20 19<|.cnd 20 false (zA 21 (zI 1 3)<|zA 22 (zK 21)<|zA 23 (zM 22)<|zA 24 (zK 2)<|zA 25 (zM 24)<|zA 26 (.bin .neq (.t 23) (.t 25))<|.nil) 27 (.t 26)<|zB 28 27<|.cnd 28 false (zA 29 (zI 2 3)<|zA 30 (zK 29)<|zA 31 (zM 30)<|zA 32 (.bin .neq (.t 31) (zN 3))<|.nil) 33 (.t 32)<|.nil
def Eh3 : Sts := zA 4 (.mv (.c (.bool false)))<|.nil
def Eh4 : Sts := zA 34 (zK 2)<|zA 35 (zM 34)<|zG 36 0<|.nil
def Eh5 : Sts := zA 37 (.bin .lss (.t 36) (.t 35))<|.nil
def Eh6 : Sts := zB 38 36<|zB 5 38<|.nil
def Eh7 : Sts := zA 39 (zK 2)<|zA 40 (.loadA 4 (.t 3))<|zB 41 5<|zA 42 (.call 133 [(.t 39), (.t 40), (.t 41)])<|zA 43 (.notb (.t 42))<|.nil
def Eh8 : Sts := zA 4 (.mv (.c (.bool false)))<|.nil
def Eh9 : Sts := zA 44 (.bin .add (.t 36) (zN 1))<|zB 36 44<|.nil
def Cc1 : RCode := (.seq (.reg Eh5) (.seq (.cond (.t 37) .skip (.exit 0)) (.seq (.block 1 (.seq (.reg Eh6) (.seq (.reg Eh7) (.cond (.t 43) (.seq (.reg Eh8) .ret) .skip)))) (.reg Eh9))))
def Ei0 : Sts := zA 46 (zK 2)<|zA 47 (.loadA 4 (.t 3))<|zA 48 (.call 85 [(.t 46), (.t 47)])<|zB 45 48<|zA 49 (.extract 0 (.t 45))<|zA 50 (.extract 1 (.t 45))<|zA 51 (.extract 2 (.t 45))<|zB 6 49<|zB 7 50<|zB 8 51<|.nil
def Cc2 : Sts := zA 52 (zK 2)<|zA 53 (zM 52)<|zG 54 0<|.nil
def Cc3 : Sts := zA 55 (.bin .lss (.t 54) (.t 53))<|.nil
def Cc4 : Sts := zB 56 54<|zA 57 (zH 6 52 54)<|zA 58 (.loadA 6 (.t 57))<|zA 10 (.alloc 121 [(.int .i64 0), (.int .i64 0), (.int .i64 0), (.int .i64 0), (.int .i64 0), (.int .i64 0)])<|zB 9 56<|.op none (.store 6 (.t 10) (.t 58))<|.nil
def Cc5 : Sts := zA 11 (.mv (.c (.bool true)))<|.nil
def Cc6 : Sts := zA 59 (zI 0 10)<|zA 60 (zI 0 59)<|zA 61 (zJ 60)<|.nil
def Cc7 : Sts := zA 63 (.bin .eql (.t 61) (zN 1))<|zB 62 63<|.nil
def Cc8 : Sts := zA 64 (.bin .eql (.t 61) (zN 2))<|zB 62 64<|.nil
def Cc9 : Sts := zA 65 (zI 1 3)<|zA 66 (zK 65)<|zB 67 9<|zA 68 (zH 1 66 67)<|zA 69 (.loadB (.t 68))<|zB 11 69<|.nil
def Cd0 : Sts := zA 71 (.bin .eql (.t 61) (zN 0))<|zB 70 71<|.nil
def Cd1 : Sts := zA 72 (.bin .eql (.t 61) (zN 5))<|zB 70 72<|.nil
def Cd2 : Sts := zA 73 (zI 1 3)<|zA 74 (zK 73)<|zB 75 9<|zA 76 (zH 1 74 75)<|zA 77 (.loadB (.t 76))<|zA 78 (.notb (.t 77))<|zB 11 78<|.nil
def Cd3 : Sts := zA 80 (.bin .eql (.t 61) (zN 3))<|zB 79 80<|.nil
def Ah3 : AT := .q (zD 0 81 8<|zD 1 82 9<|zC 2 83 (zH 1 81 82)<|zC 3 84 (.loadB (.t 83))<|zC 4 85 (.notb (.t 84))<|zD 5 86 85<|.g 86 false (zC 6 87 (zI 1 3)<|zC 7 88 (zK 87)<|zD 8 89 9<|zC 9 90 (zH 1 88 89)<|zC 10 91 (.loadB (.t 90))<|zD 11 92 6<|zD 12 93 9<|zC 13 94 (zH 1 92 93)<|zC 14 95 (zJ 94)<|zC 15 96 (zI 0 10)<|zC 16 97 (zI 2 96)<|zC 17 98 (zJ 97)<|zC 18 99 (.bin .eql (.t 95) (.t 98))<|zC 19 100 (.eqb false (.t 91) (.t 99))<|.nil) 20 101 (.t 100)<|zD 21 11 101<|.nil)<|.fin
def Cd4 : Sts := zA 103 (.bin .eql (.t 61) (zN 4))<|zB 102 103<|.nil
def Ah4 : AT := .q (zD 0 104 8<|zD 1 105 9<|zC 2 106 (zH 1 104 105)<|zC 3 107 (.loadB (.t 106))<|zC 4 108 (.notb (.t 107))<|zD 5 109 108<|.g 109 false (zC 6 110 (zI 1 3)<|zC 7 111 (zK 110)<|zD 8 112 9<|zC 9 113 (zH 1 111 112)<|zC 10 114 (.loadB (.t 113))<|zC 11 115 (.notb (.t 114))<|.nil) 12 116 (.t 115)<|zD 13 117 116<|.g 117 false (zD 14 118 6<|zD 15 119 9<|zC 16 120 (zH 1 118 119)<|zC 17 121 (zJ 120)<|zC 18 122 (zI 0 10)<|zC 19 123 (zI 2 122)<|zC 20 124 (zJ 123)<|zC 21 125 (.bin .eql (.t 121) (.t 124))<|.nil) 22 126 (.t 125)<|zD 23 11 126<|.nil)<|.fin
def Cd5 : Sts := zB 127 11<|zA 128 (.notb (.t 127))<|.nil
def Cd6 : Sts := zA 4 (.mv (.c (.bool false)))<|.nil
def Cd7 : Sts := zA 129 (.bin .add (.t 54) (zN 1))<|zB 54 129<|.nil
def Aq0 : RCode := (.seq (.reg Cc3) (.seq (.cond (.t 55) .skip (.exit 2)) (.seq (.block 3 (.seq (.reg Cc4) (.seq (.reg Cc5) (.seq (.seq (.reg Cc6) (.block 4 (.seq (.seq (.reg Cc7) (.cond (.t 62) .skip (.reg Cc8))) (.cond (.t 62) (.reg Cc9) (.seq (.seq (.reg Cd0) (.cond (.t 70) .skip (.reg Cd1))) (.cond (.t 70) (.reg Cd2) (.seq (.reg Cd3) (.cond (.t 79) (.any Ah3) (.seq (.reg Cd4) (.cond (.t 102) (.any Ah4) .skip)))))))))) (.seq (.reg Cd5) (.cond (.t 128) (.seq (.reg Cd6) .ret) .skip)))))) (.reg Cd7))))
def Cd8 : Sts := zA 130 (zI 2 3)<|zA 131 (zK 130)<|zA 132 (zM 131)<|zG 133 0<|.nil
def Cd9 : Sts := zA 134 (.bin .lss (.t 133) (.t 132))<|.nil
def Ce0 : Sts := zB 135 133<|zA 136 (zH 1 131 133)<|zA 137 (zK 136)<|zB 12 135<|zB 13 137<|.nil
def Ce1 : Sts := zB 138 13<|zA 139 (zK 2)<|zA 140 (zI 1 3)<|zA 141 (zK 140)<|zB 142 12<|zA 143 (.call 110 [(.t 139), (.t 141), (.t 142)])<|zA 144 (.call 134 [(.t 138), (.t 143)])<|zA 145 (.notb (.t 144))<|.nil
def Ce2 : Sts := zA 4 (.mv (.c (.bool false)))<|.nil
def Ce3 : Sts := zA 146 (.bin .add (.t 133) (zN 1))<|zB 133 146<|.nil
def Aq1 : RCode := (.seq (.reg Cd9) (.seq (.cond (.t 134) .skip (.exit 5)) (.seq (.block 6 (.seq (.reg Ce0) (.seq (.reg Ce1) (.cond (.t 145) (.seq (.reg Ce2) .ret) .skip)))) (.reg Ce3))))
def Ah5 : AT := .q (zC 0 147 (zI 3 3)<|zC 1 148 (zK 147)<|zC 2 149 (zK 2)<|zC 3 150 (.mkfn 135 [] [(.t 2)])<|.nil)<|zE 4 151 (.call 74 [(.t 149), (.t 150)]) false (zF<|zE 5 152 (.call 134 [(.t 148), (.t 151)]) true (.q (zD 6 4 152<|.nil)<|.fin)<|.no)<|.no
def Q22 : RFun := ⟨153, [0, 1, 2, 3, 4, 5, 6, 8, 9, 10, 11, 12, 13, 35, 36, 52, 53, 54, 61, 131, 132, 133], (.seq (.reg Eh1) (.seq (.seq (.reg Eh2) (.cond (.t 33) (.seq (.reg Eh3) .ret) .skip)) (.seq (.seq (.reg Eh4) (.block 0 (.loop Cc1))) (.seq (.reg Ei0) (.seq (.seq (.reg Cc2) (.block 2 (.loop Aq0))) (.seq (.seq (.reg Cd8) (.block 5 (.loop Aq1))) (.seq (.any Ah5) .ret))))))), [.tmp 4]⟩
theorem Q22_ok : Ai Tryz.prog [0, 1, 2, 3, 4, 5, 6, 8, 9, 10, 11, 12, 13, 35, 36, 52, 53, 54, 61, 131, 132, 133] [15, 20, 31, 71, 88, 41, 76, 86, 65, 83, 81, 114, 117, 119, 122, 68, 100, 103, 104, 105, 137, 138, 64, 72, 96, 99, 158, 159, 132, 56, 93, 94, 130, 131, 155, 62, 23, 170] 101 = some Q22 := by kernel_rfl

def Ei1 : Sts := zA 3 (.box 45 (.t 1))<|zA 4 (.mv (.c (.slice none 0 0)))<|.nil
def Ei2 : Sts := zB 8 0<|zA 9 (.call 136 [(.t 8)])<|zB 5 9<|.nil
def Ei3 : Sts := zG 6 1<|.nil
def Ei4 : Sts := zB 10 6<|zB 11 0<|zA 12 (zM 11)<|zA 13 (.bin .lss (.t 10) (.t 12))<|.nil
def Ei5 : AT := .q (zD 0 16 0<|zD 1 17 6<|zC 2 18 (zH 6 16 17)<|zC 3 19 (zI 5 18)<|zC 4 20 (zJ 19)<|zD 5 21 0<|zD 6 22 6<|zC 7 23 (.bin .sub (.t 22) (zN 1))<|zC 8 24 (zH 6 21 23)<|zC 9 25 (zI 5 24)<|zC 10 26 (zJ 25)<|zC 11 27 (.bin .eql (.t 20) (.t 26))<|.nil)<|.fin
def Ei6 : Sts := zB 28 5<|zB 29 6<|zA 30 (.bin .sub (.t 29) (zN 1))<|zB 31 6<|zA 32 (.call 121 [(.t 28), (.t 30), (.t 31)])<|.nil
def Ei7 : Sts := zB 14 6<|zA 15 (.bin .add (.t 14) (zN 1))<|zB 6 15<|.nil
def Ce4 : RCode := (.seq (.seq (.reg Ei4) (.cond (.t 13) .skip (.exit 0))) (.seq (.block 1 (.seq (.any Ei5) (.cond (.t 27) (.reg Ei6) .skip))) (.reg Ei7)))
def Ei8 : Sts := zG 7 1<|.nil
def Ei9 : Sts := zB 33 7<|zA 34 (zI 3 3)<|zA 35 (zK 34)<|zA 36 (zM 35)<|zA 37 (.bin .lss (.t 33) (.t 36))<|.nil
def Aq2 : AT := .q (zD 0 40 5<|zC 1 41 (zI 3 3)<|zC 2 42 (zK 41)<|zD 3 43 7<|zC 4 44 (.bin .sub (.t 43) (zN 1))<|zC 5 45 (zH 1 42 44)<|zC 6 46 (zJ 45)<|zC 7 47 (zI 3 3)<|zC 8 48 (zK 47)<|zD 9 49 7<|zC 10 50 (zH 1 48 49)<|zC 11 51 (zJ 50)<|.nil)<|zE 12 52 (.call 121 [(.t 40), (.t 46), (.t 51)]) true (zF<|.fin)<|.no
def Ce5 : Sts := zB 38 7<|zA 39 (.bin .add (.t 38) (zN 1))<|zB 7 39<|.nil
def Aq3 : RCode := (.seq (.seq (.reg Ei9) (.cond (.t 37) .skip (.exit 2))) (.seq (.block 3 (.any Aq2)) (.reg Ce5)))
def Ce6 : Sts := zB 53 5<|zB 4 53<|.nil
def Q39 : RFun := ⟨54, [0, 1, 3, 4, 5, 6, 7], (.seq (.reg Ei1) (.seq (.reg Ei2) (.seq (.seq (.reg Ei3) (.block 0 (.loop Ce4))) (.seq (.seq (.reg Ei8) (.block 2 (.loop Aq3))) (.seq (.reg Ce6) .ret))))), [.tmp 4]⟩
theorem Q39_ok : Ai Tryz.prog [0, 1, 3, 4, 5, 6, 7] [15, 20, 31, 71, 88, 41, 76, 86, 65, 83, 81, 114, 117, 119, 122, 68, 100, 103, 104, 105, 137, 138, 64, 72, 96, 99, 158, 159, 132, 56, 93, 94, 130, 131, 155, 62, 23, 170] 102 = some Q39 := by kernel_rfl

def Ce7 : Sts := zA 4 (.mv (.c (.int .u32 0)))<|.nil
def Ce8 : Sts := zA 5 (.mv (.c (.int .u32 0)))<|.nil
def Ej0 : Sts := zB 7 0<|zB 8 1<|zA 9 (zH 6 7 8)<|zA 10 (.loadA 6 (.t 9))<|zA 11 (.call 137 [(.t 10)])<|.nil
def Ej1 : Sts := zB 12 5<|zB 13 1<|zA 14 (.bin .shl (.c (.int .u32 1)) (.t 13))<|zA 15 (.bin .or (.t 12) (.t 14))<|zB 5 15<|.nil
def Ej2 : Sts := zB 16 1<|zA 17 (.bin .sub (.t 16) (zN 1))<|zB 6 17<|.nil
def Ej3 : AT := .q (zD 0 18 6<|zC 1 19 (.bin .geq (.t 18) (zN 0))<|zD 2 20 19<|.g 20 true (zD 3 21 0<|zD 4 22 6<|zC 5 23 (zH 6 21 22)<|zC 6 24 (zI 5 23)<|zC 7 25 (zJ 24)<|zD 8 26 0<|zD 9 27 1<|zC 10 28 (zH 6 26 27)<|zC 11 29 (zI 5 28)<|zC 12 30 (zJ 29)<|zC 13 31 (.bin .eql (.t 25) (.t 30))<|.nil) 14 32 (.t 31)<|.nil)<|.fin
def Ej4 : Sts := zB 35 0<|zB 36 6<|zA 37 (zH 6 35 36)<|zA 38 (zI 0 37)<|zA 39 (zI 0 38)<|zA 40 (zJ 39)<|zA 41 (.bin .eql (.t 40) (zN 5))<|zB 42 41<|.cnd 42 true (zB 43 0<|zB 44 6<|zA 45 (zH 6 43 44)<|zA 46 (.loadA 6 (.t 45))<|zA 47 (.call 137 [(.t 46)])<|.nil) 48 (.t 47)<|.nil
def Ej5 : Sts := zB 49 5<|zB 50 6<|zA 51 (.bin .shl (.c (.int .u32 1)) (.t 50))<|zA 52 (.bin .or (.t 49) (.t 51))<|zB 5 52<|.nil
def Ej6 : Sts := zB 33 6<|zA 34 (.bin .sub (.t 33) (zN 1))<|zB 6 34<|.nil
def Ce9 : RCode := (.seq (.seq (.any Ej3) (.cond (.t 32) .skip (.exit 0))) (.seq (.block 1 (.seq (.reg Ej4) (.cond (.t 48) (.reg Ej5) .skip))) (.reg Ej6)))
def Ej7 : Sts := zB 53 5<|zB 4 53<|.nil
def Q38 : RFun := ⟨54, [0, 1, 4, 5, 6], (.seq (.reg Ce7) (.seq (.reg Ce8) (.seq (.seq (.reg Ej0) (.cond (.t 11) (.reg Ej1) .skip)) (.seq (.seq (.reg Ej2) (.block 0 (.loop Ce9))) (.seq (.reg Ej7) .ret))))), [.tmp 4]⟩
theorem Q38_ok : Ai Tryz.prog [0, 1, 4, 5, 6] [15, 20, 31, 71, 88, 41, 76, 86, 65, 83, 81, 114, 117, 119, 122, 68, 100, 103, 104, 105, 137, 138, 64, 72, 96, 99, 158, 159, 132, 56, 93, 94, 130, 131, 155, 62, 23, 170] 103 = some Q38 := by kernel_rfl

def Ej8 : Sts := zA 4 (.box 45 (.t 1))<|zA 6 (.mv (.c (.bool false)))<|.nil
def Ej9 : Sts := zB 7 0<|zB 8 2<|zA 9 (zH 6 7 8)<|zA 10 (.loadA 6 (.t 9))<|zA 11 (.call 86 [(.t 10)])<|zB 12 11<|.cnd 12 true (zA 13 (zI 1 4)<|zA 14 (zK 13)<|zB 15 2<|zA 16 (zH 1 14 15)<|zA 17 (.loadB (.t 16))<|.nil) 18 (.t 17)<|zB 6 18<|.nil
def Q17 : RFun := ⟨19, [0, 1, 2, 4, 6], (.seq (.reg Ej8) (.seq (.reg Ej9) .ret)), [.tmp 6]⟩
theorem Q17_ok : Ai Tryz.prog [0, 1, 2, 4, 6] [15, 20, 31, 71, 88, 41, 76, 86, 65, 83, 81, 114, 117, 119, 122, 68, 100, 103, 104, 105, 137, 138, 64, 72, 96, 99, 158, 159, 132, 56, 93, 94, 130, 131, 155, 62, 23, 170] 104 = some Q17 := by kernel_rfl

def Cf0 : Sts := zA 4 (.mv (.c (.int .u32 0)))<|.nil
def Cf1 : Sts := zA 5 (.mv (.c (.int .u32 0)))<|.nil
def Ek0 : Sts := zB 7 0<|zB 8 1<|zA 9 (zH 6 7 8)<|zA 10 (.loadA 6 (.t 9))<|zA 11 (.call 138 [(.t 10)])<|.nil
def Ek1 : Sts := zB 12 5<|zB 13 1<|zA 14 (.bin .shl (.c (.int .u32 1)) (.t 13))<|zA 15 (.bin .or (.t 12) (.t 14))<|zB 5 15<|.nil
def Ek2 : Sts := zB 16 1<|zA 17 (.bin .add (.t 16) (zN 1))<|zB 6 17<|.nil
def Ek3 : AT := .q (zD 0 18 6<|zD 1 19 0<|zC 2 20 (zM 19)<|zC 3 21 (.bin .lss (.t 18) (.t 20))<|zD 4 22 21<|.g 22 true (zD 5 23 0<|zD 6 24 6<|zC 7 25 (zH 6 23 24)<|zC 8 26 (zI 5 25)<|zC 9 27 (zJ 26)<|zD 10 28 0<|zD 11 29 1<|zC 12 30 (zH 6 28 29)<|zC 13 31 (zI 5 30)<|zC 14 32 (zJ 31)<|zC 15 33 (.bin .eql (.t 27) (.t 32))<|.nil) 16 34 (.t 33)<|.nil)<|.fin
def Ek4 : Sts := zB 37 0<|zB 38 6<|zA 39 (zH 6 37 38)<|zA 40 (zI 0 39)<|zA 41 (zI 0 40)<|zA 42 (zJ 41)<|zA 43 (.bin .eql (.t 42) (zN 5))<|zB 44 43<|.cnd 44 true (zB 45 0<|zB 46 6<|zA 47 (zH 6 45 46)<|zA 48 (.loadA 6 (.t 47))<|zA 49 (.call 138 [(.t 48)])<|.nil) 50 (.t 49)<|.nil
def Ek5 : Sts := zB 51 5<|zB 52 6<|zA 53 (.bin .shl (.c (.int .u32 1)) (.t 52))<|zA 54 (.bin .or (.t 51) (.t 53))<|zB 5 54<|.nil
def Ek6 : Sts := zB 35 6<|zA 36 (.bin .add (.t 35) (zN 1))<|zB 6 36<|.nil
def Cf2 : RCode := (.seq (.seq (.any Ek3) (.cond (.t 34) .skip (.exit 0))) (.seq (.block 1 (.seq (.reg Ek4) (.cond (.t 50) (.reg Ek5) .skip))) (.reg Ek6)))
def Ek7 : Sts := zB 55 5<|zB 4 55<|.nil
def Q16 : RFun := ⟨56, [0, 1, 4, 5, 6], (.seq (.reg Cf0) (.seq (.reg Cf1) (.seq (.seq (.reg Ek0) (.cond (.t 11) (.reg Ek1) .skip)) (.seq (.seq (.reg Ek2) (.block 0 (.loop Cf2))) (.seq (.reg Ek7) .ret))))), [.tmp 4]⟩
theorem Q16_ok : Ai Tryz.prog [0, 1, 4, 5, 6] [15, 20, 31, 71, 88, 41, 76, 86, 65, 83, 81, 114, 117, 119, 122, 68, 100, 103, 104, 105, 137, 138, 64, 72, 96, 99, 158, 159, 132, 56, 93, 94, 130, 131, 155, 62, 23, 170] 105 = some Q16 := by kernel_rfl

def Ek8 : Sts := zA 2 (.mv (.c (.slice none 0 0)))<|.nil
def Ek9 : Sts := zB 5 0<|zA 6 (zM 5)<|zG 7 0<|.nil
def El0 : Sts := zA 8 (.bin .lss (.t 7) (.t 6))<|.nil
def El1 : Sts := zB 9 7<|zB 3 9<|.nil
def El2 : Sts := zB 10 0<|zA 11 (zM 10)<|zG 12 0<|.nil
def El3 : Sts := zA 13 (.bin .lss (.t 12) (.t 11))<|.nil
def El4 : Sts := zB 14 12<|zB 4 14<|.nil
def El5 : Sts := zB 15 0<|zB 16 4<|zB 17 3<|zA 18 (.call 68 [(.t 15), (.t 16), (.t 17)])<|.nil
def El6 : AT := .q (zD 0 19 0<|zD 1 20 4<|zC 2 21 (zH 1 19 20)<|zC 3 22 (.loadI .u32 (.t 21))<|zD 4 23 0<|zD 5 24 3<|zC 6 25 (zH 1 23 24)<|zC 7 26 (.loadI .u32 (.t 25))<|zC 8 27 (.bin .or (.t 22) (.t 26))<|zC 9 28 (zH 1 19 20)<|.nil)<|.s 10 none (.store 1 (.t 28) (.t 27)) true (zF<|.fin)<|.no
def El7 : Sts := zA 29 (.bin .add (.t 12) (zN 1))<|zB 12 29<|.nil
def Aq4 : RCode := (.seq (.reg El3) (.seq (.cond (.t 13) .skip (.exit 2)) (.seq (.block 3 (.seq (.reg El4) (.seq (.reg El5) (.cond (.t 18) (.any El6) .skip)))) (.reg El7))))
def Cf3 : Sts := zA 30 (.bin .add (.t 7) (zN 1))<|zB 7 30<|.nil
def Aq5 : RCode := (.seq (.reg El0) (.seq (.cond (.t 8) .skip (.exit 0)) (.seq (.block 1 (.seq (.reg El1) (.seq (.reg El2) (.block 2 (.loop Aq4))))) (.reg Cf3))))
def Cf4 : Sts := zB 31 0<|zB 2 31<|.nil
def Q44 : RFun := ⟨32, [0, 2, 3, 4, 6, 7, 11, 12], (.seq (.reg Ek8) (.seq (.seq (.reg Ek9) (.block 0 (.loop Aq5))) (.seq (.reg Cf4) .ret))), [.tmp 2]⟩
theorem Q44_ok : Ai Tryz.prog [0, 2, 3, 4, 6, 7, 11, 12] [15, 20, 31, 71, 88, 41, 76, 86, 65, 83, 81, 114, 117, 119, 122, 68, 100, 103, 104, 105, 137, 138, 64, 72, 96, 99, 158, 159, 132, 56, 93, 94, 130, 131, 155, 62, 23, 170] 106 = some Q44 := by kernel_rfl

def El8 : Sts := zA 10 (zK 1)<|zA 11 (.mkfn 108 [] [(.t 1)])<|zA 12 (.call 74 [(.t 10), (.t 11)])<|zB 3 12<|.nil
def El9 : Sts := zB 13 3<|zA 14 (zM 13)<|zA 15 (.bin .shl (zN 1) (.t 14))<|zG 16 0<|.nil
def Em0 : Sts := zA 17 (.bin .lss (.t 16) (.t 15))<|.nil
def Em1 : Sts := zB 18 16<|zB 4 18<|.nil
def Em2 : Sts := zA 19 (zK 1)<|zA 20 (zM 19)<|zA 21 (.makeSl 4 1 1 [(.bool false)] (.t 20) (.t 20))<|zB 5 21<|.nil
def Em3 : Sts := zA 22 (zK 1)<|zA 23 (zM 22)<|zG 24 0<|.nil
def Em4 : Sts := zA 25 (.bin .lss (.t 24) (.t 23))<|.nil
def Em5 : Sts := zB 26 24<|zA 27 (zH 6 22 24)<|zA 28 (.loadA 6 (.t 27))<|zA 7 (.alloc 121 [(.int .i64 0), (.int .i64 0), (.int .i64 0), (.int .i64 0), (.int .i64 0), (.int .i64 0)])<|zB 6 26<|.op none (.store 6 (.t 7) (.t 28))<|.nil
def Em6 : Sts := zB 29 5<|zB 30 6<|zA 31 (zI 0 7)<|zA 32 (zI 0 31)<|zA 33 (zJ 32)<|zA 34 (.bin .eql (.t 33) (zN 1))<|zB 35 34<|.cnd 35 false (zA 36 (zI 0 7)<|zA 37 (zI 0 36)<|zA 38 (zJ 37)<|zA 39 (.bin .eql (.t 38) (zN 2))<|.nil) 40 (.t 39)<|zA 41 (zH 1 29 30)<|.op none (.store 1 (.t 41) (.t 40))<|.nil
def Em7 : Sts := zA 42 (.bin .add (.t 24) (zN 1))<|zB 24 42<|.nil
def Aq6 : RCode := (.seq (.reg Em4) (.seq (.cond (.t 25) .skip (.exit 2)) (.seq (.block 3 (.seq (.reg Em5) (.reg Em6))) (.reg Em7))))
def Cf5 : Sts := zB 43 3<|zA 44 (zM 43)<|zG 45 0<|.nil
def Cf6 : Sts := zA 46 (.bin .lss (.t 45) (.t 44))<|.nil
def Cf7 : Sts := zB 47 45<|zA 48 (zH 1 43 45)<|zA 49 (zJ 48)<|zB 8 47<|zB 9 49<|.nil
def Cf8 : Sts := zB 50 5<|zB 51 9<|zB 52 4<|zB 53 8<|zA 54 (.bin .shr (.t 52) (.t 53))<|zA 55 (.bin .and (.t 54) (zN 1))<|zA 56 (.bin .eql (.t 55) (zN 1))<|zA 57 (zH 1 50 51)<|.op none (.store 1 (.t 57) (.t 56))<|.nil
def Cf9 : Sts := zA 58 (.bin .add (.t 45) (zN 1))<|zB 45 58<|.nil
def Aq7 : RCode := (.seq (.reg Cf6) (.seq (.cond (.t 46) .skip (.exit 4)) (.seq (.block 5 (.seq (.reg Cf7) (.reg Cf8))) (.reg Cf9))))
def Cg0 : Sts := zB 59 0<|zB 60 5<|zA 61 (.callv (.t 59) [(.t 60)])<|zA 62 (.notb (.t 61))<|.nil
def Cg1 : Sts := zA 63 (.bin .add (.t 16) (zN 1))<|zB 16 63<|.nil
def Aq8 : RCode := (.seq (.reg Em0) (.seq (.cond (.t 17) .skip (.exit 0)) (.seq (.block 1 (.seq (.reg Em1) (.seq (.reg Em2) (.seq (.seq (.reg Em3) (.block 2 (.loop Aq6))) (.seq (.seq (.reg Cf5) (.block 4 (.loop Aq7))) (.seq (.reg Cg0) (.cond (.t 62) .ret .skip))))))) (.reg Cg1))))
def Q14 : RFun := ⟨64, [0, 1, 3, 4, 5, 6, 7, 8, 9, 15, 16, 22, 23, 24, 43, 44, 45], (.seq (.reg El8) (.seq (.reg El9) (.block 0 (.loop Aq8)))), []⟩
theorem Q14_ok : Ai Tryz.prog [0, 1, 3, 4, 5, 6, 7, 8, 9, 15, 16, 22, 23, 24, 43, 44, 45] [15, 20, 31, 71, 88, 41, 76, 86, 65, 83, 81, 114, 117, 119, 122, 68, 100, 103, 104, 105, 137, 138, 64, 72, 96, 99, 158, 159, 132, 56, 93, 94, 130, 131, 155, 62, 23, 170] 107 = some Q14 := by kernel_rfl

def Em8 : Sts := zA 3 (.mv (.c (.bool false)))<|.nil
def Em9 : Sts := zA 4 (zK 1)<|zB 5 0<|zA 6 (zH 6 4 5)<|zA 7 (zI 0 6)<|zA 8 (zI 0 7)<|zA 9 (zJ 8)<|zA 10 (.bin .eql (.t 9) (zN 3))<|zB 11 10<|.cnd 11 false (zA 12 (zK 1)<|zB 13 0<|zA 14 (zH 6 12 13)<|zA 15 (zI 0 14)<|zA 16 (zI 0 15)<|zA 17 (zJ 16)<|zA 18 (.bin .eql (.t 17) (zN 4))<|.nil) 19 (.t 18)<|zB 3 19<|.nil
def Q15 : RFun := ⟨20, [0, 1, 3], (.seq (.reg Em8) (.seq (.reg Em9) .ret)), [.tmp 3]⟩
theorem Q15_ok : Ai Tryz.prog [0, 1, 3] [15, 20, 31, 71, 88, 41, 76, 86, 65, 83, 81, 114, 117, 119, 122, 68, 100, 103, 104, 105, 137, 138, 64, 72, 96, 99, 158, 159, 132, 56, 93, 94, 130, 131, 155, 62, 23, 170] 108 = some Q15 := by kernel_rfl

def Cg2 : Sts := zA 4 (.box 149 (.t 0))<|.nil
def En0 : Sts := zA 7 (zJ 1)<|zA 8 (.bin .eql (.t 7) (zN 3))<|.nil
def En1 : Sts := zA 9 (.loadX (.t 4))<|zA 10 (.callv (.t 9) [(.c (.slice none 0 0))])<|.nil
def Cg3 : AT := .q (zC 0 11 (zK 2)<|zC 1 12 (zK 2)<|zC 2 13 (zK 3)<|zC 3 14 (zJ 1)<|.nil)<|zE 4 15 (.call 110 [(.t 12), (.t 13), (.t 14)]) false (zF<|zE 5 16 (.call 82 [(.t 11), (.t 15)]) true (zF<|.fin)<|.no)<|.no
def Aq9 : Sts := zA 5 (.alloc 34 [(.slice none 0 0)])<|.op none (.store 1 (.t 5) (.t 17))<|.nil
def En2 : Sts := zA 18 (zK 2)<|zA 19 (zK 3)<|zA 20 (zJ 1)<|zA 21 (.bin .add (.t 20) (zN 1))<|zA 22 (.call 79 [(.t 18), (.t 19), (.t 21)])<|.nil
def Ar0 : Sts := zB 6 23<|.nil
def Cg4 : AT := .q (zC 0 24 (.loadX (.t 4))<|zC 1 25 (zK 5)<|zD 3 27 6<|.nil)<|zE 2 26 (.buildSl 34 1 [(.slice none 0 0)] [(0, 1, (.t 25))]) false (zF<|zE 4 28 (.append 34 1 24 [(.slice none 0 0)] (.t 26) (.t 27)) false (zF<|zE 5 29 (.callv (.t 24) [(.t 28)]) true (.q (zC 6 30 (.notb (.t 29))<|.nil)<|.fin)<|.no)<|.no)<|.no
def Er : RCode := (.reg Ar0)
def Es : RCode := (.block 3 (.seq (.any Cg4) (.cond (.t 30) .ret .skip)))
def Et : RCode := (.reg Aq9)
def Eu : RCode := (.block 1 (.seq (.reg En2) (.block 2 (.rangeF (.t 22) [23] Er Es))))
def Q32 : RFun := ⟨31, [0, 1, 2, 3, 4, 5, 6, 16, 17, 22, 23], (.seq (.reg Cg2) (.seq (.seq (.reg En0) (.cond (.t 8) (.seq (.reg En1) .ret) .skip)) (.seq (.any Cg3) (.block 0 (.rangeF (.t 16) [17] Et Eu))))), []⟩
theorem Q32_ok : Ai Tryz.prog [0, 1, 2, 3, 4, 5, 6, 16, 17, 22, 23] [15, 20, 31, 71, 88, 41, 76, 86, 65, 83, 81, 114, 117, 119, 122, 68, 100, 103, 104, 105, 137, 138, 64, 72, 96, 99, 158, 159, 132, 56, 93, 94, 130, 131, 155, 62, 23, 170] 109 = some Q32 := by kernel_rfl

def En3 : Sts := zA 3 (.box 74 (.t 0))<|zA 4 (.box 35 (.t 1))<|zA 5 (.box 3 (.t 2))<|zA 6 (.mv (.c (.slice none 0 0)))<|.nil
def En4 : Sts := zA 7 (zK 3)<|zA 8 (.mkfn 139 [] [(.t 3), (.t 4), (.t 5)])<|zA 9 (.call 74 [(.t 7), (.t 8)])<|zB 6 9<|.nil
def Q41 : RFun := ⟨10, [0, 1, 2, 3, 4, 5, 6], (.seq (.reg En3) (.seq (.reg En4) .ret)), [.tmp 6]⟩
theorem Q41_ok : Ai Tryz.prog [0, 1, 2, 3, 4, 5, 6] [15, 20, 31, 71, 88, 41, 76, 86, 65, 83, 81, 114, 117, 119, 122, 68, 100, 103, 104, 105, 137, 138, 64, 72, 96, 99, 158, 159, 132, 56, 93, 94, 130, 131, 155, 62, 23, 170] 110 = some Q41 := by kernel_rfl

def Cg5 : Sts := zA 4 (.box 151 (.t 0))<|.nil
def En5 : Sts := zA 7 (zK 1)<|zA 8 (zM 7)<|zA 9 (.makeSl 3 1 8 [(.int .i64 0)] (.t 8) (.t 8))<|zA 5 (.alloc 34 [(.slice none 0 0)])<|.op none (.store 1 (.t 5) (.t 9))<|.nil
def En6 : Sts := zA 6 (.alloc 123 [.nilFunc])<|.nil
def En7 : Sts := zA 10 (.mkfn 112 [] [(.t 1), (.t 4), (.t 5), (.t 6), (.t 2), (.t 3)])<|.op none (.store 1 (.t 6) (.t 10))<|.nil
def En8 : Sts := zA 11 (.loadX (.t 6))<|zA 12 (.callv (.t 11) [(zN 0)])<|.nil
def Q25 : RFun := ⟨13, [0, 1, 2, 3, 4, 5, 6], (.seq (.reg Cg5) (.seq (.reg En5) (.seq (.reg En6) (.seq (.reg En7) (.reg En8))))), []⟩
theorem Q25_ok : Ai Tryz.prog [0, 1, 2, 3, 4, 5, 6] [15, 20, 31, 71, 88, 41, 76, 86, 65, 83, 81, 114, 117, 119, 122, 68, 100, 103, 104, 105, 137, 138, 64, 72, 96, 99, 158, 159, 132, 56, 93, 94, 130, 131, 155, 62, 23, 170] 111 = some Q25 := by kernel_rfl

def En9 : Sts := zA 8 (.mv (.c (.bool false)))<|.nil
def Eo0 : Sts := zB 13 0<|zA 14 (zK 1)<|zA 15 (zM 14)<|zA 16 (.bin .eql (.t 13) (.t 15))<|.nil
def Cg6 : AT := .q (zC 0 17 (.loadX (.t 2))<|zC 1 18 (zK 3)<|.nil)<|zE 2 19 (.call 113 [(.t 18)]) false (zF<|zE 3 20 (.callv (.t 17) [(.t 19)]) true (.q (zD 4 8 20<|.nil)<|.fin)<|.no)<|.no
def Eo1 : Sts := zA 21 (zK 1)<|zB 22 0<|zA 23 (zH 6 21 22)<|zA 24 (.loadA 6 (.t 23))<|zA 25 (.call 86 [(.t 24)])<|zA 26 (.notb (.t 25))<|.nil
def Eo2 : Sts := zA 27 (zK 3)<|zB 28 0<|zA 29 (zH 1 27 28)<|.op none (.store 1 (.t 29) (.c (.int .i64 (-2))))<|.nil
def Eo3 : Sts := zA 30 (.loadX (.t 4))<|zB 31 0<|zA 32 (.bin .add (.t 31) (zN 1))<|zA 33 (.callv (.t 30) [(.t 32)])<|zB 8 33<|.nil
def Cg7 : AT := .q (zC 1 35 (zK 5)<|zC 2 36 (zK 1)<|zD 3 37 0<|zC 4 38 (zH 6 36 37)<|zC 5 39 (zI 0 38)<|zC 6 40 (zI 1 39)<|zC 7 41 (zJ 40)<|zC 8 42 (zH 1 35 41)<|zC 9 43 (zK 42)<|.nil)<|zE 0 34 (.buildSl 3 1 [(.int .i64 0)] [(0, 1, (.c (.int .i64 (-1))))]) false (zF<|zE 10 44 (.append 3 1 8 [(.int .i64 0)] (.t 34) (.t 43)) true (.q (zD 11 9 44<|.nil)<|.fin)<|.no)<|.no
def Eo4 : Sts := zA 45 (zK 6)<|zB 46 0<|zA 47 (zH 1 45 46)<|zA 48 (.loadB (.t 47))<|.nil
def Eo5 : Sts := zB 49 9<|zB 50 0<|zA 51 (.call 114 [(.t 49), (.t 50)])<|zB 10 51<|.nil
def Eo6 : Sts := zB 52 9<|zB 53 10<|zA 54 (.bin .sub (.t 53) (zN 1))<|zB 55 10<|zA 56 (.slS 1 (.t 52) (some (.t 54)) (some (.t 55)) none)<|zB 9 56<|.nil
def Cg8 : Sts := zB 57 9<|zA 58 (zM 57)<|zG 59 0<|.nil
def Cg9 : Sts := zA 60 (.bin .lss (.t 59) (.t 58))<|.nil
def Ch0 : Sts := zA 61 (zH 1 57 59)<|zA 62 (zJ 61)<|zB 12 62<|.nil
def Ch1 : Sts := zA 63 (zK 3)<|zB 64 0<|zB 65 12<|zA 66 (zH 1 63 64)<|.op none (.store 1 (.t 66) (.t 65))<|.nil
def Ch2 : Sts := zA 67 (.loadX (.t 4))<|zB 68 0<|zA 69 (.bin .add (.t 68) (zN 1))<|zA 70 (.callv (.t 67) [(.t 69)])<|zA 71 (.notb (.t 70))<|.nil
def Ch3 : Sts := zA 8 (.mv (.c (.bool false)))<|.nil
def Ch4 : Sts := zA 72 (.bin .add (.t 59) (zN 1))<|zB 59 72<|.nil
def Ar1 : RCode := (.seq (.reg Cg9) (.seq (.cond (.t 60) .skip (.exit 0)) (.seq (.block 1 (.seq (.reg Ch0) (.seq (.reg Ch1) (.seq (.reg Ch2) (.cond (.t 71) (.seq (.reg Ch3) .ret) .skip))))) (.reg Ch4))))
def Ch5 : Sts := zA 8 (.mv (.c (.bool true)))<|.nil
def Q26 : RFun := ⟨73, [0, 1, 2, 3, 4, 5, 6, 8, 9, 10, 12, 57, 58, 59], (.seq (.reg En9) (.seq (.seq (.reg Eo0) (.cond (.t 16) (.seq (.any Cg6) .ret) .skip)) (.seq (.seq (.reg Eo1) (.cond (.t 26) (.seq (.reg Eo2) (.seq (.reg Eo3) .ret)) .skip)) (.seq (.any Cg7) (.seq (.seq (.reg Eo4) (.cond (.t 48) (.seq (.reg Eo5) (.reg Eo6)) .skip)) (.seq (.seq (.reg Cg8) (.block 0 (.loop Ar1))) (.seq (.reg Ch5) .ret))))))), [.tmp 8]⟩
theorem Q26_ok : Ai Tryz.prog [0, 1, 2, 3, 4, 5, 6, 8, 9, 10, 12, 57, 58, 59] [15, 20, 31, 71, 88, 41, 76, 86, 65, 83, 81, 114, 117, 119, 122, 68, 100, 103, 104, 105, 137, 138, 64, 72, 96, 99, 158, 159, 132, 56, 93, 94, 130, 131, 155, 62, 23, 170] 112 = some Q26 := by kernel_rfl

def Ch6 : Sts := zA 2 (.mv (.c (.slice none 0 0)))<|.nil
def Ch7 : Sts := zB 3 0<|zA 4 (.eqS false (.t 3))<|.nil
def Ch8 : Sts := zA 2 (.mv (.c (.slice none 0 0)))<|.nil
def Ch9 : Sts := zA 5 (.buildSl 3 0 [] [])<|zB 6 0<|zA 7 (.append 3 1 8 [(.int .i64 0)] (.t 5) (.t 6))<|zB 2 7<|.nil
def Eo7 : RFun := ⟨8, [0, 2], (.seq (.reg Ch6) (.seq (.seq (.reg Ch7) (.cond (.t 4) (.seq (.reg Ch8) .ret) .skip)) (.seq (.reg Ch9) .ret))), [.tmp 2]⟩
theorem Q105_ok : Ai Tryz.prog [0, 2] [15, 20, 31, 71, 88, 41, 76, 86, 65, 83, 81, 114, 117, 119, 122, 68, 100, 103, 104, 105, 137, 138, 64, 72, 96, 99, 158, 159, 132, 56, 93, 94, 130, 131, 155, 62, 23, 170] 113 = some Eo7 := by kernel_rfl

def Ci0 : Sts := zG 4 0<|.nil
def Ci1 : Sts := zB 6 0<|zA 7 (zM 6)<|zG 8 0<|.nil
def Ci2 : Sts := zA 9 (.bin .lss (.t 8) (.t 7))<|.nil
def Ci3 : Sts := zB 10 8<|zB 5 10<|.nil
def Ci4 : Sts := zB 11 1<|zB 12 0<|zB 13 5<|zA 14 (zH 1 12 13)<|zA 15 (zJ 14)<|zA 16 (.bin .eql (.t 11) (.t 15))<|.nil
def Ci5 : Sts := zB 17 5<|zB 4 17<|.nil
def Ci6 : Sts := zA 18 (.bin .add (.t 8) (zN 1))<|zB 8 18<|.nil
def Ar2 : RCode := (.seq (.reg Ci2) (.seq (.cond (.t 9) .skip (.exit 0)) (.seq (.block 1 (.seq (.reg Ci3) (.seq (.reg Ci4) (.cond (.t 16) (.seq (.reg Ci5) .ret) .skip)))) (.reg Ci6))))
def Ci7 : Sts := zA 4 (.mv (.c (.int .i64 (-1))))<|.nil
def Eo8 : RFun := ⟨19, [0, 1, 4, 5, 7, 8], (.seq (.reg Ci0) (.seq (.seq (.reg Ci1) (.block 0 (.loop Ar2))) (.seq (.reg Ci7) .ret))), [.tmp 4]⟩
theorem Q114_ok : Ai Tryz.prog [0, 1, 4, 5, 7, 8] [15, 20, 31, 71, 88, 41, 76, 86, 65, 83, 81, 114, 117, 119, 122, 68, 100, 103, 104, 105, 137, 138, 64, 72, 96, 99, 158, 159, 132, 56, 93, 94, 130, 131, 155, 62, 23, 170] 114 = some Eo8 := by kernel_rfl

def Ci8 : Sts := zA 3 (.box 151 (.t 0))<|.nil
def Ci9 : Sts := zA 4 (.alloc 50 [.nilFunc])<|.nil
def Eo9 : Sts := zA 5 (.mkfn 116 [] [(.t 3), (.t 1), (.t 4)])<|.op none (.store 1 (.t 4) (.t 5))<|.nil
def Ep0 : Sts := zA 6 (.loadX (.t 4))<|zA 7 (zK 2)<|zA 8 (.callv (.t 6) [(.c (.slice none 0 0)), (.t 7)])<|.nil
def Q28 : RFun := ⟨9, [0, 1, 2, 3, 4], (.seq (.reg Ci8) (.seq (.reg Ci9) (.seq (.reg Eo9) (.reg Ep0)))), []⟩
theorem Q28_ok : Ai Tryz.prog [0, 1, 2, 3, 4] [15, 20, 31, 71, 88, 41, 76, 86, 65, 83, 81, 114, 117, 119, 122, 68, 100, 103, 104, 105, 137, 138, 64, 72, 96, 99, 158, 159, 132, 56, 93, 94, 130, 131, 155, 62, 23, 170] 115 = some Q28 := by kernel_rfl

def Ep1 : Sts := zA 7 (.mv (.c (.bool false)))<|.nil
def Ep2 : Sts := zB 11 1<|zA 12 (zM 11)<|zA 13 (.bin .eql (.t 12) (zN 0))<|.nil
def Ar3 : AT := .q (zC 0 14 (.loadX (.t 2))<|zD 1 15 0<|.nil)<|zE 2 16 (.call 113 [(.t 15)]) false (zF<|zE 3 17 (.callv (.t 14) [(.t 16)]) true (.q (zD 4 7 17<|.nil)<|.fin)<|.no)<|.no
def Ep3 : Sts := zB 18 1<|zA 19 (zM 18)<|zG 20 0<|.nil
def Ep4 : Sts := zA 21 (.bin .lss (.t 20) (.t 19))<|.nil
def Ep5 : Sts := zB 22 20<|zA 23 (zH 1 18 20)<|zA 24 (zJ 23)<|zA 9 (.alloc 3 [(.int .i64 0)])<|zB 8 22<|.op none (.store 1 (.t 9) (.t 24))<|.nil
def Ep6 : Sts := zB 25 1<|zB 26 8<|zA 27 (.slS 1 (.t 25) none (some (.t 26)) none)<|zA 28 (.mkfn 118 [] [(.t 3), (.t 9)])<|zA 29 (.call 117 [(.t 27), (.t 28)])<|zB 10 29<|.nil
def Ar4 : AT := .q (zD 0 30 10<|zC 1 31 (.notb (.t 30))<|zD 2 32 31<|.nil)<|.br 32 (zF<|.q (zC 3 33 (.loadX (.t 4))<|.nil)<|zF<|.q (zD 4 34 0<|.nil)<|zF<|.q (zC 5 35 (.call 119 [(.t 34)])<|.nil)<|zF<|.q (zC 6 36 (zJ 9)<|.nil)<|zF<|.q (zD 9 39 1<|.nil)<|zF<|.q (zD 10 40 8<|.nil)<|zF<|.q (zC 11 41 (.slS 1 (.t 39) none (some (.t 40)) none)<|.nil)<|zF<|.q (zD 12 42 1<|.nil)<|zF<|.q (zD 13 43 8<|.nil)<|zF<|.q (zC 14 44 (.bin .add (.t 43) (zN 1))<|.nil)<|zF<|.q (zC 15 45 (.slS 1 (.t 42) (some (.t 44)) none none)<|.nil)<|zF<|zE 7 37 (.buildSl 3 1 [(.int .i64 0)] [(0, 1, (.t 36))]) false (zF<|zE 8 38 (.append 3 1 8 [(.int .i64 0)] (.t 35) (.t 37)) false (zF<|zE 16 46 (.buildSl 34 2 [(.slice none 0 0), (.slice none 0 0)] [(0, 1, (.t 41)), (1, 1, (.t 45))]) false (zF<|zE 17 47 (.call 120 [(.t 46)]) false (zF<|zE 18 48 (.callv (.t 33) [(.t 38), (.t 47)]) true (.q (.g 32 true (zC 19 49 (.notb (.t 48))<|.nil) 20 50 (.t 49)<|.nil)<|.fin)<|.no)<|.no)<|.no)<|zE 16 46 (.buildSl 34 2 [(.slice none 0 0), (.slice none 0 0)] [(0, 1, (.t 41)), (1, 1, (.t 45))]) false (zF<|zE 8 38 (.append 3 1 8 [(.int .i64 0)] (.t 35) (.t 37)) false (zF<|zE 17 47 (.call 120 [(.t 46)]) false (zF<|zE 18 48 (.callv (.t 33) [(.t 38), (.t 47)]) true (.q (.g 32 true (zC 19 49 (.notb (.t 48))<|.nil) 20 50 (.t 49)<|.nil)<|.fin)<|.no)<|.no)<|.no)<|.no)<|zE 16 46 (.buildSl 34 2 [(.slice none 0 0), (.slice none 0 0)] [(0, 1, (.t 41)), (1, 1, (.t 45))]) false (zF<|zE 7 37 (.buildSl 3 1 [(.int .i64 0)] [(0, 1, (.t 36))]) false (zF<|zE 8 38 (.append 3 1 8 [(.int .i64 0)] (.t 35) (.t 37)) false (zF<|zE 17 47 (.call 120 [(.t 46)]) false (zF<|zE 18 48 (.callv (.t 33) [(.t 38), (.t 47)]) true (.q (.g 32 true (zC 19 49 (.notb (.t 48))<|.nil) 20 50 (.t 49)<|.nil)<|.fin)<|.no)<|.no)<|.no)<|.no)<|.no)<|zF<|zL 3 33<|zF<|zL 4 34<|zF<|zL 5 35<|zF<|zL 6 36<|zF<|zL 7 37<|zF<|zL 8 38<|zF<|zL 9 39<|zF<|zL 10 40<|zF<|zL 11 41<|zF<|zL 12 42<|zF<|zL 13 43<|zF<|zL 14 44<|zF<|zL 15 45<|zF<|zL 16 46<|zF<|zL 17 47<|zF<|zL 18 48<|.q (.g 32 true (zC 19 49 (.notb (.t 48))<|.nil) 20 50 (.t 49)<|.nil)<|.fin
def Ep7 : Sts := zA 7 (.mv (.c (.bool false)))<|.nil
def Ep8 : Sts := zA 51 (.bin .add (.t 20) (zN 1))<|zB 20 51<|.nil
def Ar5 : RCode := (.seq (.reg Ep4) (.seq (.cond (.t 21) .skip (.exit 0)) (.seq (.block 1 (.seq (.reg Ep5) (.seq (.reg Ep6) (.seq (.any Ar4) (.cond (.t 50) (.seq (.reg Ep7) .ret) .skip))))) (.reg Ep8))))
def Cj0 : Sts := zA 7 (.mv (.c (.bool true)))<|.nil
def Q29 : RFun := ⟨52, [0, 1, 2, 3, 4, 7, 8, 9, 10, 18, 19, 20], (.seq (.reg Ep1) (.seq (.seq (.reg Ep2) (.cond (.t 13) (.seq (.any Ar3) .ret) .skip)) (.seq (.seq (.reg Ep3) (.block 0 (.loop Ar5))) (.seq (.reg Cj0) .ret)))), [.tmp 7]⟩
theorem Q29_ok : Ai Tryz.prog [0, 1, 2, 3, 4, 7, 8, 9, 10, 18, 19, 20] [15, 20, 31, 71, 88, 41, 76, 86, 65, 83, 81, 114, 117, 119, 122, 68, 100, 103, 104, 105, 137, 138, 64, 72, 96, 99, 158, 159, 132, 56, 93, 94, 130, 131, 155, 62, 23, 170] 116 = some Q29 := by kernel_rfl

def Cj1 : Sts := zA 4 (.mv (.c (.bool false)))<|.nil
def Cj2 : Sts := zB 5 0<|zB 6 1<|zA 7 (.call 140 [(.t 5), (.t 6)])<|zA 8 (.bin .geq (.t 7) (zN 0))<|zB 4 8<|.nil
def Ep9 : RFun := ⟨9, [0, 1, 4], (.seq (.reg Cj1) (.seq (.reg Cj2) .ret)), [.tmp 4]⟩
theorem Q110_ok : Ai Tryz.prog [0, 1, 4] [15, 20, 31, 71, 88, 41, 76, 86, 65, 83, 81, 114, 117, 119, 122, 68, 100, 103, 104, 105, 137, 138, 64, 72, 96, 99, 158, 159, 132, 56, 93, 94, 130, 131, 155, 62, 23, 170] 117 = some Ep9 := by kernel_rfl

def Eq0 : Sts := zA 4 (.mv (.c (.bool false)))<|.nil
def Eq1 : AT := .q (zC 0 5 (zK 1)<|zD 1 6 0<|zC 2 7 (zH 6 5 6)<|zC 3 8 (zI 5 7)<|zC 4 9 (zJ 8)<|zC 5 10 (zK 1)<|zC 6 11 (zJ 2)<|zC 7 12 (zH 6 10 11)<|zC 8 13 (zI 5 12)<|zC 9 14 (zJ 13)<|zC 10 15 (.bin .eql (.t 9) (.t 14))<|zD 11 4 15<|.nil)<|.fin
def Q30 : RFun := ⟨16, [0, 1, 2, 4], (.seq (.reg Eq0) (.seq (.any Eq1) .ret)), [.tmp 4]⟩
theorem Q30_ok : Ai Tryz.prog [0, 1, 2, 4] [15, 20, 31, 71, 88, 41, 76, 86, 65, 83, 81, 114, 117, 119, 122, 68, 100, 103, 104, 105, 137, 138, 64, 72, 96, 99, 158, 159, 132, 56, 93, 94, 130, 131, 155, 62, 23, 170] 118 = some Q30 := by kernel_rfl

def Cj3 : Sts := zA 2 (.mv (.c (.slice none 0 0)))<|.nil
def Cj4 : Sts := zB 3 0<|zB 4 0<|zA 5 (zM 4)<|zB 6 0<|zA 7 (zM 6)<|zA 8 (.slS 1 (.t 3) none (some (.t 5)) (some (.t 7)))<|zB 2 8<|.nil
def Eq2 : RFun := ⟨9, [0, 2], (.seq (.reg Cj3) (.seq (.reg Cj4) .ret)), [.tmp 2]⟩
theorem Q103_ok : Ai Tryz.prog [0, 2] [15, 20, 31, 71, 88, 41, 76, 86, 65, 83, 81, 114, 117, 119, 122, 68, 100, 103, 104, 105, 137, 138, 64, 72, 96, 99, 158, 159, 132, 56, 93, 94, 130, 131, 155, 62, 23, 170] 119 = some Eq2 := by kernel_rfl

def Cj5 : Sts := zA 2 (.mv (.c (.slice none 0 0)))<|.nil
def Cj6 : Sts := zG 3 0<|.nil
def Cj7 : Sts := zB 9 0<|zA 10 (zM 9)<|zG 11 0<|.nil
def Cj8 : Sts := zA 12 (.bin .lss (.t 11) (.t 10))<|.nil
def Cj9 : Sts := zA 13 (zH 1 9 11)<|zA 14 (zK 13)<|zB 5 14<|.nil
def Ck0 : Sts := zB 15 3<|zB 16 5<|zA 17 (zM 16)<|zA 18 (.bin .add (.t 15) (.t 17))<|zB 3 18<|.nil
def Ck1 : Sts := zB 19 3<|zA 20 (.bin .lss (.t 19) (zN 0))<|.nil
def Ck2 : Sts := zA 21 (.bad)<|.op none (.bad)<|.nil
def Ck3 : Sts := zA 22 (.bin .add (.t 11) (zN 1))<|zB 11 22<|.nil
def Ar6 : RCode := (.seq (.reg Cj8) (.seq (.cond (.t 12) .skip (.exit 0)) (.seq (.block 1 (.seq (.reg Cj9) (.seq (.reg Ck0) (.seq (.reg Ck1) (.cond (.t 20) (.reg Ck2) .skip))))) (.reg Ck3))))
def Ck4 : Sts := zB 23 3<|zA 24 (.call 141 [(.c (.slice none 0 0)), (.t 23)])<|zB 6 24<|.nil
def Ar7 : Sts := zB 25 0<|zA 26 (zM 25)<|zG 27 0<|.nil
def Ar8 : Sts := zA 28 (.bin .lss (.t 27) (.t 26))<|.nil
def Ar9 : Sts := zA 29 (zH 1 25 27)<|zA 30 (zK 29)<|zB 8 30<|.nil
def As0 : Sts := zB 31 6<|zB 32 8<|zA 33 (.append 3 1 8 [(.int .i64 0)] (.t 31) (.t 32))<|zB 6 33<|.nil
def As1 : Sts := zA 34 (.bin .add (.t 27) (zN 1))<|zB 27 34<|.nil
def Ac9 : RCode := (.seq (.reg Ar8) (.seq (.cond (.t 28) .skip (.exit 2)) (.seq (.block 3 (.seq (.reg Ar9) (.reg As0))) (.reg As1))))
def As2 : Sts := zB 35 6<|zB 2 35<|.nil
def Eq3 : RFun := ⟨36, [0, 2, 3, 5, 6, 8, 9, 10, 11, 25, 26, 27], (.seq (.reg Cj5) (.seq (.reg Cj6) (.seq (.seq (.reg Cj7) (.block 0 (.loop Ar6))) (.seq (.reg Ck4) (.seq (.seq (.reg Ar7) (.block 2 (.loop Ac9))) (.seq (.reg As2) .ret)))))), [.tmp 2]⟩
theorem Q109_ok : Ai Tryz.prog [0, 2, 3, 5, 6, 8, 9, 10, 11, 25, 26, 27] [15, 20, 31, 71, 88, 41, 76, 86, 65, 83, 81, 114, 117, 119, 122, 68, 100, 103, 104, 105, 137, 138, 64, 72, 96, 99, 158, 159, 132, 56, 93, 94, 130, 131, 155, 62, 23, 170] 120 = some Eq3 := by kernel_rfl

def Eq4 : AT := .q (zD 0 6 0<|zD 1 7 1<|zC 2 8 (zH 1 6 7)<|zC 3 9 (.loadI .u32 (.t 8))<|zD 4 10 2<|zC 5 11 (.bin .shl (.c (.int .u32 1)) (.t 10))<|zC 6 12 (.bin .or (.t 9) (.t 11))<|zC 7 13 (zH 1 6 7)<|.nil)<|.s 8 none (.store 1 (.t 13) (.t 12)) true (zF<|.fin)<|.no
def Q46 : RFun := ⟨14, [0, 1, 2], (.any Eq4), []⟩
theorem Q46_ok : Ai Tryz.prog [0, 1, 2] [15, 20, 31, 71, 88, 41, 76, 86, 65, 83, 81, 114, 117, 119, 122, 68, 100, 103, 104, 105, 137, 138, 64, 72, 96, 99, 158, 159, 132, 56, 93, 94, 130, 131, 155, 62, 23, 170] 121 = some Q46 := by kernel_rfl

def Eq5 : Sts := zA 2 (.mv (.c (.bool false)))<|.nil
def Eq6 : Sts := zB 4 0<|zA 5 (zM 4)<|zG 6 0<|.nil
def Eq7 : Sts := zA 7 (.bin .lss (.t 6) (.t 5))<|.nil
def Eq8 : Sts := zB 8 6<|zB 3 8<|.nil
def Eq9 : Sts := zB 9 0<|zB 10 3<|zB 11 3<|zA 12 (.call 68 [(.t 9), (.t 10), (.t 11)])<|.nil
def Er0 : Sts := zA 2 (.mv (.c (.bool true)))<|.nil
def Er1 : Sts := zA 13 (.bin .add (.t 6) (zN 1))<|zB 6 13<|.nil
def Ck5 : RCode := (.seq (.reg Eq7) (.seq (.cond (.t 7) .skip (.exit 0)) (.seq (.block 1 (.seq (.reg Eq8) (.seq (.reg Eq9) (.cond (.t 12) (.seq (.reg Er0) .ret) .skip)))) (.reg Er1))))
def Er2 : Sts := zA 2 (.mv (.c (.bool false)))<|.nil
def Q43 : RFun := ⟨14, [0, 2, 3, 5, 6], (.seq (.reg Eq5) (.seq (.seq (.reg Eq6) (.block 0 (.loop Ck5))) (.seq (.reg Er2) .ret))), [.tmp 2]⟩
theorem Q43_ok : Ai Tryz.prog [0, 2, 3, 5, 6] [15, 20, 31, 71, 88, 41, 76, 86, 65, 83, 81, 114, 117, 119, 122, 68, 100, 103, 104, 105, 137, 138, 64, 72, 96, 99, 158, 159, 132, 56, 93, 94, 130, 131, 155, 62, 23, 170] 122 = some Q43 := by kernel_rfl

def Er3 : Sts := zA 3 (.box 45 (.t 1))<|zA 4 (.mv (.c (.slice none 0 0)))<|.nil
def Er4 : Sts := zB 17 0<|zA 18 (.call 136 [(.t 17)])<|zB 5 18<|.nil
def Er5 : Sts := zA 19 (zI 2 3)<|zA 20 (zK 19)<|zA 21 (zM 20)<|zG 22 0<|.nil
def Er6 : Sts := zA 23 (.bin .lss (.t 22) (.t 21))<|.nil
def Er7 : Sts := zA 24 (zH 1 20 22)<|zA 25 (zK 24)<|zB 7 25<|.nil
def Er8 : Sts := zB 26 7<|zA 27 (zM 26)<|zG 28 0<|.nil
def Er9 : Sts := zA 29 (.bin .lss (.t 28) (.t 27))<|.nil
def Es0 : Sts := zB 30 28<|zA 31 (zH 1 26 28)<|zA 32 (zJ 31)<|zB 8 30<|zB 9 32<|.nil
def Es1 : Sts := zB 33 7<|zB 34 8<|zA 35 (.bin .add (.t 34) (zN 1))<|zA 36 (.slS 1 (.t 33) (some (.t 35)) none none)<|zA 37 (zM 36)<|zG 38 0<|.nil
def Es2 : Sts := zA 39 (.bin .lss (.t 38) (.t 37))<|.nil
def Ck6 : Sts := zA 40 (zH 1 36 38)<|zA 41 (zJ 40)<|zB 11 41<|.nil
def Ck7 : Sts := zB 42 5<|zB 43 9<|zB 44 11<|zA 45 (.call 121 [(.t 42), (.t 43), (.t 44)])<|.nil
def Ck8 : Sts := zA 46 (.bin .add (.t 38) (zN 1))<|zB 38 46<|.nil
def As3 : RCode := (.seq (.reg Es2) (.seq (.cond (.t 39) .skip (.exit 4)) (.seq (.block 5 (.seq (.reg Ck6) (.reg Ck7))) (.reg Ck8))))
def Ck9 : Sts := zA 47 (.bin .add (.t 28) (zN 1))<|zB 28 47<|.nil
def As4 : RCode := (.seq (.reg Er9) (.seq (.cond (.t 29) .skip (.exit 2)) (.seq (.block 3 (.seq (.reg Es0) (.seq (.reg Es1) (.block 4 (.loop As3))))) (.reg Ck9))))
def Cl0 : Sts := zA 48 (.bin .add (.t 22) (zN 1))<|zB 22 48<|.nil
def As5 : RCode := (.seq (.reg Er6) (.seq (.cond (.t 23) .skip (.exit 0)) (.seq (.block 1 (.seq (.reg Er7) (.seq (.reg Er8) (.block 2 (.loop As4))))) (.reg Cl0))))
def Cl1 : Sts := zA 49 (zI 0 3)<|zA 50 (zK 49)<|zA 51 (zM 50)<|zG 52 0<|.nil
def Cl2 : Sts := zA 53 (.bin .lss (.t 52) (.t 51))<|.nil
def Cl3 : Sts := zB 54 52<|zA 55 (zH 1 50 52)<|zA 56 (zJ 55)<|zB 12 54<|zB 13 56<|.nil
def Cl4 : Sts := zB 57 0<|zB 58 12<|zA 59 (zH 6 57 58)<|zA 60 (.loadA 6 (.t 59))<|zA 61 (.call 86 [(.t 60)])<|zA 62 (.notb (.t 61))<|.nil
def Cl5 : Sts := zB 63 13<|zA 64 (.bin .geq (.t 63) (zN 0))<|.nil
def Cl6 : Sts := zB 65 5<|zB 66 13<|zB 67 12<|zA 68 (.call 121 [(.t 65), (.t 66), (.t 67)])<|.nil
def Cl7 : Sts := zB 69 13<|zA 70 (.bin .eql (.t 69) (.c (.int .i64 (-1))))<|zB 14 70<|.nil
def Cl8 : AT := .q (zC 0 71 (zI 2 3)<|zC 1 72 (zK 71)<|zD 2 73 0<|zD 3 74 12<|zC 4 75 (zH 6 73 74)<|zC 5 76 (zI 0 75)<|zC 6 77 (zI 1 76)<|zC 7 78 (zJ 77)<|zC 8 79 (zH 1 72 78)<|zC 9 80 (zK 79)<|zC 10 81 (zM 80)<|zC 11 82 (.mv (zN 0))<|.nil)<|.fin
def Cl9 : Sts := zA 83 (.bin .lss (.t 82) (.t 81))<|.nil
def Cm0 : Sts := zA 84 (zH 1 80 82)<|zA 85 (zJ 84)<|zB 16 85<|.nil
def Cm1 : Sts := zB 86 14<|zB 87 86<|.cnd 87 true (zB 88 16<|zB 89 12<|zA 90 (.bin .neq (.t 88) (.t 89))<|.nil) 91 (.t 90)<|.nil
def Cm2 : Sts := zB 92 5<|zB 93 12<|zB 94 16<|zA 95 (.call 121 [(.t 92), (.t 93), (.t 94)])<|.nil
def Cm3 : Sts := zB 96 14<|zB 97 96<|.cnd 97 false (zB 98 16<|zB 99 13<|zA 100 (.bin .eql (.t 98) (.t 99))<|.nil) 101 (.t 100)<|zB 14 101<|.nil
def Cm4 : Sts := zA 102 (.bin .add (.t 82) (zN 1))<|zB 82 102<|.nil
def As6 : RCode := (.seq (.reg Cl9) (.seq (.cond (.t 83) .skip (.exit 8)) (.seq (.block 9 (.seq (.reg Cm0) (.seq (.seq (.reg Cm1) (.cond (.t 91) (.reg Cm2) .skip)) (.reg Cm3)))) (.reg Cm4))))
def Cm5 : Sts := zA 103 (.bin .add (.t 52) (zN 1))<|zB 52 103<|.nil
def As7 : RCode := (.seq (.reg Cl2) (.seq (.cond (.t 53) .skip (.exit 6)) (.seq (.block 7 (.seq (.reg Cl3) (.seq (.seq (.reg Cl4) (.cond (.t 62) (.exit 7) .skip)) (.seq (.seq (.reg Cl5) (.cond (.t 64) (.reg Cl6) .skip)) (.seq (.reg Cl7) (.seq (.any Cl8) (.block 8 (.loop As6)))))))) (.reg Cm5))))
def Cm6 : Sts := zB 104 5<|zA 105 (.call 106 [(.t 104)])<|zB 4 105<|.nil
def Q12 : RFun := ⟨106, [0, 1, 3, 4, 5, 7, 8, 9, 11, 12, 13, 14, 16, 20, 21, 22, 26, 27, 28, 36, 37, 38, 50, 51, 52, 80, 81, 82], (.seq (.reg Er3) (.seq (.reg Er4) (.seq (.seq (.reg Er5) (.block 0 (.loop As5))) (.seq (.seq (.reg Cl1) (.block 6 (.loop As7))) (.seq (.reg Cm6) .ret))))), [.tmp 4]⟩
theorem Q12_ok : Ai Tryz.prog [0, 1, 3, 4, 5, 7, 8, 9, 11, 12, 13, 14, 16, 20, 21, 22, 26, 27, 28, 36, 37, 38, 50, 51, 52, 80, 81, 82] [15, 20, 31, 71, 88, 41, 76, 86, 65, 83, 81, 114, 117, 119, 122, 68, 100, 103, 104, 105, 137, 138, 64, 72, 96, 99, 158, 159, 132, 56, 93, 94, 130, 131, 155, 62, 23, 170] 123 = some Q12 := by kernel_rfl

def Cm7 : Sts := zA 2 (.mv (.c (.slice none 0 0)))<|.nil
def Cm8 : Sts := zB 3 0<|zA 4 (.eqS false (.t 3))<|.nil
def Cm9 : Sts := zA 2 (.mv (.c (.slice none 0 0)))<|.nil
def Cn0 : Sts := zA 5 (.buildSl 4 0 [] [])<|zB 6 0<|zA 7 (.append 4 1 1 [(.bool false)] (.t 5) (.t 6))<|zB 2 7<|.nil
def Es3 : RFun := ⟨8, [0, 2], (.seq (.reg Cm7) (.seq (.seq (.reg Cm8) (.cond (.t 4) (.seq (.reg Cm9) .ret) .skip)) (.seq (.reg Cn0) .ret))), [.tmp 2]⟩
theorem Q104_ok : Ai Tryz.prog [0, 2] [15, 20, 31, 71, 88, 41, 76, 86, 65, 83, 81, 114, 117, 119, 122, 68, 100, 103, 104, 105, 137, 138, 64, 72, 96, 99, 158, 159, 132, 56, 93, 94, 130, 131, 155, 62, 23, 170] 124 = some Es3 := by kernel_rfl

def Es4 : Sts := zG 4 0<|.nil
def Es5 : Sts := zB 7 0<|zA 8 (.call 152 [(.t 7)])<|zB 5 8<|.nil
def Es6 : Sts := zB 9 1<|zA 10 (.call 152 [(.t 9)])<|zB 6 10<|.nil
def Es7 : Sts := zB 11 5<|.nil
def Es8 : Sts := zB 12 6<|.nil
def Es9 : Sts := zG 4 0<|.nil
def Et0 : Sts := zA 4 (.mv (.c (.int .i64 (-1))))<|.nil
def Et1 : Sts := zB 13 6<|.nil
def Et2 : Sts := zG 4 1<|.nil
def Et3 : Sts := zB 14 0<|zB 15 1<|zA 16 (.bin .lss (.t 14) (.t 15))<|.nil
def Cn1 : Sts := zA 4 (.mv (.c (.int .i64 (-1))))<|.nil
def Cn2 : Sts := zB 17 0<|zB 18 1<|zA 19 (.bin .gtr (.t 17) (.t 18))<|.nil
def Cn3 : Sts := zG 4 1<|.nil
def Cn4 : Sts := zG 4 0<|.nil
def Q48 : RFun := ⟨20, [0, 1, 4, 5, 6], (.seq (.reg Es4) (.seq (.reg Es5) (.seq (.reg Es6) (.seq (.seq (.reg Es7) (.cond (.t 11) (.seq (.seq (.reg Es8) (.cond (.t 12) (.seq (.reg Es9) .ret) .skip)) (.seq (.reg Et0) .ret)) .skip)) (.seq (.seq (.reg Et1) (.cond (.t 13) (.seq (.reg Et2) .ret) .skip)) (.seq (.seq (.reg Et3) (.cond (.t 16) (.seq (.reg Cn1) .ret) .skip)) (.seq (.seq (.reg Cn2) (.cond (.t 19) (.seq (.reg Cn3) .ret) .skip)) (.seq (.reg Cn4) .ret)))))))), [.tmp 4]⟩
theorem Q48_ok : Ai Tryz.prog [0, 1, 4, 5, 6] [15, 20, 31, 71, 88, 41, 76, 86, 65, 83, 81, 114, 117, 119, 122, 68, 100, 103, 104, 105, 137, 138, 64, 72, 96, 99, 158, 159, 132, 56, 93, 94, 130, 131, 155, 62, 23, 170] 127 = some Q48 := by kernel_rfl

def Et4 : Sts := zA 1 (.box 83 (.t 0))<|zG 2 0<|.nil
def Et5 : Sts := zA 3 (zI 4 1)<|zA 4 (zJ 3)<|zA 5 (.bin .neq (.t 4) (zN 4))<|.nil
def Et6 : Sts := zA 6 (zI 4 1)<|zA 7 (zJ 6)<|zB 2 7<|.nil
def Et7 : Sts := zA 8 (zI 0 1)<|zA 9 (zJ 8)<|zA 10 (.bin .eql (.t 9) (zN 0))<|.nil
def Et8 : Sts := zG 2 1<|.nil
def Et9 : Sts := zA 11 (zI 0 1)<|zA 12 (zJ 11)<|zA 13 (.bin .eql (.t 12) (zN 1))<|.nil
def Eu0 : Sts := zG 2 2<|.nil
def Eu1 : Sts := zG 2 3<|.nil
def Q71 : RFun := ⟨14, [0, 1, 2], (.seq (.reg Et4) (.seq (.seq (.reg Et5) (.cond (.t 5) (.seq (.reg Et6) .ret) .skip)) (.seq (.seq (.reg Et7) (.cond (.t 10) (.seq (.reg Et8) .ret) .skip)) (.seq (.seq (.reg Et9) (.cond (.t 13) (.seq (.reg Eu0) .ret) .skip)) (.seq (.reg Eu1) .ret))))), [.tmp 2]⟩
theorem Q71_ok : Ai Tryz.prog [0, 1, 2] [15, 20, 31, 71, 88, 41, 76, 86, 65, 83, 81, 114, 117, 119, 122, 68, 100, 103, 104, 105, 137, 138, 64, 72, 96, 99, 158, 159, 132, 56, 93, 94, 130, 131, 155, 62, 23, 170] 128 = some Q71 := by kernel_rfl

def Eu2 : Sts := zA 2 (.mv (.c (.bool false)))<|.nil
def Eu3 : Sts := zB 3 0<|zA 4 (.call 155 [(.t 3)])<|zA 5 (.bin .and (.t 4) (zN 2))<|zA 6 (.bin .eql (.t 5) (zN 2))<|zB 2 6<|.nil
def Q65 : RFun := ⟨7, [0, 2], (.seq (.reg Eu2) (.seq (.reg Eu3) .ret)), [.tmp 2]⟩
theorem Q65_ok : Ai Tryz.prog [0, 2] [15, 20, 31, 71, 88, 41, 76, 86, 65, 83, 81, 114, 117, 119, 122, 68, 100, 103, 104, 105, 137, 138, 64, 72, 96, 99, 158, 159, 132, 56, 93, 94, 130, 131, 155, 62, 23, 170] 130 = some Q65 := by kernel_rfl

def Eu4 : Sts := zA 2 (.mv (.c (.bool false)))<|.nil
def Eu5 : Sts := zB 3 0<|zA 4 (.call 155 [(.t 3)])<|zA 5 (.bin .and (.t 4) (zN 1))<|zA 6 (.bin .eql (.t 5) (zN 1))<|zB 2 6<|.nil
def Q63 : RFun := ⟨7, [0, 2], (.seq (.reg Eu4) (.seq (.reg Eu5) .ret)), [.tmp 2]⟩
theorem Q63_ok : Ai Tryz.prog [0, 2] [15, 20, 31, 71, 88, 41, 76, 86, 65, 83, 81, 114, 117, 119, 122, 68, 100, 103, 104, 105, 137, 138, 64, 72, 96, 99, 158, 159, 132, 56, 93, 94, 130, 131, 155, 62, 23, 170] 131 = some Q63 := by kernel_rfl

def Eu6 : Sts := zG 2 0<|.nil
def Eu7 : Sts := zB 3 0<|zA 4 (.bin .eql (.t 3) (zN 4))<|.nil
def Eu8 : Sts := zG 2 7<|.nil
def Eu9 : Sts := zB 5 0<|zB 2 5<|.nil
def Q99 : RFun := ⟨6, [0, 2], (.seq (.reg Eu6) (.seq (.seq (.reg Eu7) (.cond (.t 4) (.seq (.reg Eu8) .ret) .skip)) (.seq (.reg Eu9) .ret))), [.tmp 2]⟩
theorem Q99_ok : Ai Tryz.prog [0, 2] [15, 20, 31, 71, 88, 41, 76, 86, 65, 83, 81, 114, 117, 119, 122, 68, 100, 103, 104, 105, 137, 138, 64, 72, 96, 99, 158, 159, 132, 56, 93, 94, 130, 131, 155, 62, 23, 170] 132 = some Q99 := by kernel_rfl

def Ev0 : Sts := zA 4 (.box 45 (.t 1))<|zA 6 (.mv (.c (.bool false)))<|.nil
def Ev1 : Sts := zA 8 (zI 0 4)<|zA 9 (zK 8)<|zB 10 2<|zA 11 (zH 1 9 10)<|zA 12 (zJ 11)<|zB 7 12<|.nil
def Ev2 : Sts := zB 13 0<|zB 14 2<|zA 15 (zH 6 13 14)<|zA 16 (.loadA 6 (.t 15))<|zA 17 (.call 86 [(.t 16)])<|zA 18 (.notb (.t 17))<|.nil
def Ev3 : Sts := zB 19 7<|zA 20 (.bin .eql (.t 19) (.c (.int .i64 (-2))))<|zB 6 20<|.nil
def Ev4 : Sts := zB 21 7<|zA 22 (.bin .eql (.t 21) (.c (.int .i64 (-1))))<|.nil
def Ev5 : Sts := zA 6 (.mv (.c (.bool true)))<|.nil
def Cn5 : AT := .q (zD 0 23 7<|zC 1 24 (.bin .geq (.t 23) (zN 0))<|zD 2 25 24<|.g 25 true (zD 3 26 7<|zD 4 27 0<|zC 5 28 (zM 27)<|zC 6 29 (.bin .lss (.t 26) (.t 28))<|.nil) 7 30 (.t 29)<|zD 8 31 30<|.g 31 true (zC 9 32 (zI 1 4)<|zC 10 33 (zK 32)<|zD 11 34 7<|zC 12 35 (zH 1 33 34)<|zC 13 36 (.loadB (.t 35))<|.nil) 14 37 (.t 36)<|zD 15 38 37<|.g 38 true (zD 16 39 0<|zD 17 40 7<|zC 18 41 (zH 6 39 40)<|zC 19 42 (zI 0 41)<|zC 20 43 (zI 0 42)<|zC 21 44 (zJ 43)<|zC 22 45 (.bin .neq (.t 44) (zN 5))<|.nil) 23 46 (.t 45)<|zD 24 47 46<|.g 47 true (zD 25 48 0<|zD 26 49 7<|zC 27 50 (zH 6 48 49)<|zC 28 51 (zI 0 50)<|zC 29 52 (zI 1 51)<|zC 30 53 (zJ 52)<|zD 31 54 0<|zD 32 55 2<|zC 33 56 (zH 6 54 55)<|zC 34 57 (zI 0 56)<|zC 35 58 (zI 1 57)<|zC 36 59 (zJ 58)<|zC 37 60 (.bin .eql (.t 53) (.t 59))<|.nil) 38 61 (.t 60)<|zD 39 6 61<|.nil)<|.fin
def Q37 : RFun := ⟨62, [0, 1, 2, 4, 6, 7], (.seq (.reg Ev0) (.seq (.reg Ev1) (.seq (.seq (.reg Ev2) (.cond (.t 18) (.seq (.reg Ev3) .ret) .skip)) (.seq (.seq (.reg Ev4) (.cond (.t 22) (.seq (.reg Ev5) .ret) .skip)) (.seq (.any Cn5) .ret))))), [.tmp 6]⟩
theorem Q37_ok : Ai Tryz.prog [0, 1, 2, 4, 6, 7] [15, 20, 31, 71, 88, 41, 76, 86, 65, 83, 81, 114, 117, 119, 122, 68, 100, 103, 104, 105, 137, 138, 64, 72, 96, 99, 158, 159, 132, 56, 93, 94, 130, 131, 155, 62, 23, 170] 133 = some Q37 := by kernel_rfl

def Ev6 : Sts := zA 4 (.mv (.c (.bool false)))<|.nil
def Ev7 : Sts := zB 5 0<|zA 6 (.call 157 [(.t 5)])<|zA 7 (.call 156 [(.t 6)])<|zB 8 1<|zA 9 (.call 41 [(.t 7), (.t 8)])<|zB 4 9<|.nil
def Q47 : RFun := ⟨10, [0, 1, 4], (.seq (.reg Ev6) (.seq (.reg Ev7) .ret)), [.tmp 4]⟩
theorem Q47_ok : Ai Tryz.prog [0, 1, 4] [15, 20, 31, 71, 88, 41, 76, 86, 65, 83, 81, 114, 117, 119, 122, 68, 100, 103, 104, 105, 137, 138, 64, 72, 96, 99, 158, 159, 132, 56, 93, 94, 130, 131, 155, 62, 23, 170] 134 = some Q47 := by kernel_rfl

def Ev8 : Sts := zA 3 (.mv (.c (.bool false)))<|.nil
def Ev9 : Sts := zA 4 (zK 1)<|zB 5 0<|zA 6 (zH 6 4 5)<|zA 7 (.loadA 6 (.t 6))<|zA 8 (.call 76 [(.t 7)])<|zB 3 8<|.nil
def Q23 : RFun := ⟨9, [0, 1, 3], (.seq (.reg Ev8) (.seq (.reg Ev9) .ret)), [.tmp 3]⟩
theorem Q23_ok : Ai Tryz.prog [0, 1, 3] [15, 20, 31, 71, 88, 41, 76, 86, 65, 83, 81, 114, 117, 119, 122, 68, 100, 103, 104, 105, 137, 138, 64, 72, 96, 99, 158, 159, 132, 56, 93, 94, 130, 131, 155, 62, 23, 170] 135 = some Q23 := by kernel_rfl

def Ew0 : Sts := zA 2 (.mv (.c (.slice none 0 0)))<|.nil
def Ew1 : Sts := zB 3 0<|zA 4 (zM 3)<|zA 5 (.makeSl 144 1 4 [(.int .u32 0)] (.t 4) (.t 4))<|zB 2 5<|.nil
def Q36 : RFun := ⟨6, [0, 2], (.seq (.reg Ew0) (.seq (.reg Ew1) .ret)), [.tmp 2]⟩
theorem Q36_ok : Ai Tryz.prog [0, 2] [15, 20, 31, 71, 88, 41, 76, 86, 65, 83, 81, 114, 117, 119, 122, 68, 100, 103, 104, 105, 137, 138, 64, 72, 96, 99, 158, 159, 132, 56, 93, 94, 130, 131, 155, 62, 23, 170] 136 = some Q36 := by kernel_rfl

def Fd7 : Sts := zA 1 (.box 121 (.t 0))<|zA 2 (.mv (.c (.bool false)))<|.nil
def Fd8 : Sts := zA 6 (zI 0 1)<|zA 7 (zI 4 6)<|zA 8 (zJ 7)<|zA 9 (.call 158 [(.t 8)])<|zB 5 9<|zA 10 (.extract 0 (.t 5))<|zA 11 (.extract 1 (.t 5))<|zB 3 10<|zB 4 11<|.nil
def Fd9 : Sts := zB 12 3<|zB 2 12<|.nil
def Q7 : RFun := ⟨13, [0, 1, 2, 3], (.seq (.reg Fd7) (.seq (.reg Fd8) (.seq (.reg Fd9) .ret))), [.tmp 2]⟩
theorem Q7_ok : Ai Tryz.prog [0, 1, 2, 3] [15, 20, 31, 71, 88, 41, 76, 86, 65, 83, 81, 114, 117, 119, 122, 68, 100, 103, 104, 105, 137, 138, 64, 72, 96, 99, 158, 159, 132, 56, 93, 94, 130, 131, 155, 62, 23, 170] 137 = some Q7 := by kernel_rfl

def Fe0 : Sts := zA 1 (.box 121 (.t 0))<|zA 2 (.mv (.c (.bool false)))<|.nil
def Fe1 : Sts := zA 6 (zI 0 1)<|zA 7 (zI 4 6)<|zA 8 (zJ 7)<|zA 9 (.call 159 [(.t 8)])<|zB 5 9<|zA 10 (.extract 0 (.t 5))<|zA 11 (.extract 1 (.t 5))<|zB 3 10<|zB 4 11<|.nil
def Fe2 : Sts := zB 12 3<|zB 2 12<|.nil
def Q5 : RFun := ⟨13, [0, 1, 2, 3], (.seq (.reg Fe0) (.seq (.reg Fe1) (.seq (.reg Fe2) .ret))), [.tmp 2]⟩
theorem Q5_ok : Ai Tryz.prog [0, 1, 2, 3] [15, 20, 31, 71, 88, 41, 76, 86, 65, 83, 81, 114, 117, 119, 122, 68, 100, 103, 104, 105, 137, 138, 64, 72, 96, 99, 158, 159, 132, 56, 93, 94, 130, 131, 155, 62, 23, 170] 138 = some Q5 := by kernel_rfl

def Ew2 : Sts := zA 5 (.mv (.c (.bool false)))<|.nil
def Ew3 : AT := .q (zC 0 6 (zK 1)<|zD 1 7 0<|zC 2 8 (zH 6 6 7)<|zC 3 9 (zI 0 8)<|zC 4 10 (zI 0 9)<|zC 5 11 (zJ 10)<|zC 6 12 (.bin .neq (.t 11) (zN 5))<|zD 7 13 12<|.g 13 true (zC 8 14 (zK 2)<|zD 9 15 0<|zC 10 16 (zH 1 14 15)<|zC 11 17 (.loadB (.t 16))<|.nil) 12 18 (.t 17)<|zD 13 19 18<|.g 19 true (zC 14 20 (zK 1)<|zD 15 21 0<|zC 16 22 (zH 6 20 21)<|zC 17 23 (zI 0 22)<|zC 18 24 (zI 1 23)<|zC 19 25 (zJ 24)<|zC 20 26 (zJ 3)<|zC 21 27 (.bin .eql (.t 25) (.t 26))<|.nil) 22 28 (.t 27)<|zD 23 5 28<|.nil)<|.fin
def Q42 : RFun := ⟨29, [0, 1, 2, 3, 5], (.seq (.reg Ew2) (.seq (.any Ew3) .ret)), [.tmp 5]⟩
theorem Q42_ok : Ai Tryz.prog [0, 1, 2, 3, 5] [15, 20, 31, 71, 88, 41, 76, 86, 65, 83, 81, 114, 117, 119, 122, 68, 100, 103, 104, 105, 137, 138, 64, 72, 96, 99, 158, 159, 132, 56, 93, 94, 130, 131, 155, 62, 23, 170] 139 = some Q42 := by kernel_rfl

def Cn6 : Sts := zG 4 0<|.nil
def Cn7 : Sts := zB 6 0<|zA 7 (zM 6)<|zG 8 0<|.nil
def Cn8 : Sts := zA 9 (.bin .lss (.t 8) (.t 7))<|.nil
def Cn9 : Sts := zB 10 8<|zB 5 10<|.nil
def Co0 : Sts := zB 11 1<|zB 12 0<|zB 13 5<|zA 14 (zH 1 12 13)<|zA 15 (zJ 14)<|zA 16 (.callv (.t 11) [(.t 15)])<|.nil
def Co2 : Sts := zB 17 5<|zB 4 17<|.nil
def Co3 : Sts := zA 18 (.bin .add (.t 8) (zN 1))<|zB 8 18<|.nil
def As8 : RCode := (.seq (.reg Cn8) (.seq (.cond (.t 9) .skip (.exit 0)) (.seq (.block 1 (.seq (.reg Cn9) (.seq (.reg Co0) (.cond (.t 16) (.seq (.reg Co2) .ret) .skip)))) (.reg Co3))))
def Co4 : Sts := zA 4 (.mv (.c (.int .i64 (-1))))<|.nil
def Ew4 : RFun := ⟨19, [0, 1, 4, 5, 7, 8], (.seq (.reg Cn6) (.seq (.seq (.reg Cn7) (.block 0 (.loop As8))) (.seq (.reg Co4) .ret))), [.tmp 4]⟩
theorem Q113_ok : Ai Tryz.prog [0, 1, 4, 5, 7, 8] [15, 20, 31, 71, 88, 41, 76, 86, 65, 83, 81, 114, 117, 119, 122, 68, 100, 103, 104, 105, 137, 138, 64, 72, 96, 99, 158, 159, 132, 56, 93, 94, 130, 131, 155, 62, 23, 170] 140 = some Ew4 := by kernel_rfl

def Co5 : Sts := zA 4 (.mv (.c (.slice none 0 0)))<|.nil
def Co6 : Sts := zB 5 1<|zA 6 (.bin .lss (.t 5) (zN 0))<|.nil
def Co7 : Sts := zA 7 (.bad)<|.op none (.bad)<|.nil
def Co8 : Sts := zB 8 1<|zB 9 0<|zA 10 (.cap (.t 9))<|zB 11 0<|zA 12 (zM 11)<|zA 13 (.bin .sub (.t 10) (.t 12))<|zA 14 (.bin .sub (.t 8) (.t 13))<|zB 1 14<|.nil
def Co9 : Sts := zB 15 1<|zA 16 (.bin .gtr (.t 15) (zN 0))<|.nil
def Cp0 : Sts := zB 17 0<|zB 18 0<|zA 19 (.cap (.t 18))<|zA 20 (.slS 1 (.t 17) none (some (.t 19)) none)<|zB 21 1<|zA 22 (.appendZ 3 1 8 [(.int .i64 0)] (.t 20) (.t 21))<|zB 23 0<|zA 24 (zM 23)<|zA 25 (.slS 1 (.t 22) none (some (.t 24)) none)<|zB 0 25<|.nil
def Cp1 : Sts := zB 26 0<|zB 4 26<|.nil
def Ew5 : RFun := ⟨27, [0, 1, 4], (.seq (.reg Co5) (.seq (.seq (.reg Co6) (.cond (.t 6) (.reg Co7) .skip)) (.seq (.seq (.reg Co8) (.seq (.reg Co9) (.cond (.t 16) (.reg Cp0) .skip))) (.seq (.reg Cp1) .ret)))), [.tmp 4]⟩
theorem Q112_ok : Ai Tryz.prog [0, 1, 4] [15, 20, 31, 71, 88, 41, 76, 86, 65, 83, 81, 114, 117, 119, 122, 68, 100, 103, 104, 105, 137, 138, 64, 72, 96, 99, 158, 159, 132, 56, 93, 94, 130, 131, 155, 62, 23, 170] 141 = some Ew5 := by kernel_rfl

def Ew6 : Sts := zA 2 (.mv (.c (.bool false)))<|.nil
def Ew7 : Sts := zB 3 0<|zB 4 0<|zA 5 (.bin .neq (.t 3) (.t 4))<|zB 2 5<|.nil
def Q49 : RFun := ⟨6, [0, 2], (.seq (.reg Ew6) (.seq (.reg Ew7) .ret)), [.tmp 2]⟩
theorem Q49_ok : Ai Tryz.prog [0, 2] [15, 20, 31, 71, 88, 41, 76, 86, 65, 83, 81, 114, 117, 119, 122, 68, 100, 103, 104, 105, 137, 138, 64, 72, 96, 99, 158, 159, 132, 56, 93, 94, 130, 131, 155, 62, 23, 170] 152 = some Q49 := by kernel_rfl

def Ew8 : Sts := zG 2 0<|.nil
def Ew9 : Sts := zA 3 (.buildSl 3 5 [(.int .i64 0), (.int .i64 0), (.int .i64 0), (.int .i64 0), (.int .i64 0)] [(0, 1, (zN 0)), (1, 1, (zN 1)), (2, 1, (zN 2)), (3, 1, (zN 3)), (4, 1, (zN 7))])<|zB 4 0<|zA 5 (zH 1 3 4)<|zA 6 (zJ 5)<|zB 2 6<|.nil
def Q64 : RFun := ⟨7, [0, 2], (.seq (.reg Ew8) (.seq (.reg Ew9) .ret)), [.tmp 2]⟩
theorem Q64_ok : Ai Tryz.prog [0, 2] [15, 20, 31, 71, 88, 41, 76, 86, 65, 83, 81, 114, 117, 119, 122, 68, 100, 103, 104, 105, 137, 138, 64, 72, 96, 99, 158, 159, 132, 56, 93, 94, 130, 131, 155, 62, 23, 170] 155 = some Q64 := by kernel_rfl

def Cp2 : Sts := zA 2 (.mv (.c (.slice none 0 0)))<|.nil
def Cp3 : Sts := zB 4 0<|zA 5 (.call 166 [(.t 4)])<|zB 3 5<|.nil
def Cp4 : Sts := zB 6 3<|zA 7 (.call 167 [(.t 6)])<|.nil
def Cp5 : Sts := zB 8 3<|zB 2 8<|.nil
def Ex0 : RFun := ⟨9, [0, 2, 3], (.seq (.reg Cp2) (.seq (.reg Cp3) (.seq (.reg Cp4) (.seq (.reg Cp5) .ret)))), [.tmp 2]⟩
theorem Q116_ok : Ai Tryz.prog [0, 2, 3] [15, 20, 31, 71, 88, 41, 76, 86, 65, 83, 81, 114, 117, 119, 122, 68, 100, 103, 104, 105, 137, 138, 64, 72, 96, 99, 158, 159, 132, 56, 93, 94, 130, 131, 155, 62, 23, 170] 156 = some Ex0 := by kernel_rfl

def Cp6 : Sts := zA 1 (.box 34 (.t 0))<|zA 2 (.mv (.c .nilFunc))<|.nil
def Cp7 : Sts := zA 3 (.mkfn 168 [] [(.t 1)])<|zB 2 3<|.nil
def Ex2 : RFun := ⟨4, [0, 1, 2], (.seq (.reg Cp6) (.seq (.reg Cp7) .ret)), [.tmp 2]⟩
theorem Q117_ok : Ai Tryz.prog [0, 1, 2] [15, 20, 31, 71, 88, 41, 76, 86, 65, 83, 81, 114, 117, 119, 122, 68, 100, 103, 104, 105, 137, 138, 64, 72, 96, 99, 158, 159, 132, 56, 93, 94, 130, 131, 155, 62, 23, 170] 157 = some Ex2 := by kernel_rfl

def Ex3 : Sts := zA 2 (.mv (.c (.bool false)))<|zG 3 0<|.nil
def Ex4 : Sts := zB 4 0<|zA 5 (.call 96 [(.t 4)])<|zA 6 (.notb (.t 5))<|.nil
def Ex5 : Sts := zA 2 (.mv (.c (.bool false)))<|zG 3 1<|.nil
def Ex6 : Sts := zB 7 0<|zA 8 (.call 132 [(.t 7)])<|zA 9 (.bin .and (.t 8) (zN 2))<|zA 10 (.bin .neq (.t 9) (zN 0))<|zB 2 10<|zG 3 0<|.nil
def Q98 : RFun := ⟨11, [0, 2, 3], (.seq (.reg Ex3) (.seq (.seq (.reg Ex4) (.cond (.t 6) (.seq (.reg Ex5) .ret) .skip)) (.seq (.reg Ex6) .ret))), [.tmp 2, .tmp 3]⟩
theorem Q98_ok : Ai Tryz.prog [0, 2, 3] [15, 20, 31, 71, 88, 41, 76, 86, 65, 83, 81, 114, 117, 119, 122, 68, 100, 103, 104, 105, 137, 138, 64, 72, 96, 99, 158, 159, 132, 56, 93, 94, 130, 131, 155, 62, 23, 170] 158 = some Q98 := by kernel_rfl

def Ex7 : Sts := zA 2 (.mv (.c (.bool false)))<|zG 3 0<|.nil
def Ex8 : Sts := zB 4 0<|zA 5 (.call 96 [(.t 4)])<|zA 6 (.notb (.t 5))<|.nil
def Ex9 : Sts := zA 2 (.mv (.c (.bool false)))<|zG 3 1<|.nil
def Ey0 : Sts := zB 7 0<|zA 8 (.call 132 [(.t 7)])<|zA 9 (.bin .and (.t 8) (zN 1))<|zA 10 (.bin .neq (.t 9) (zN 0))<|zB 2 10<|zG 3 0<|.nil
def Q95 : RFun := ⟨11, [0, 2, 3], (.seq (.reg Ex7) (.seq (.seq (.reg Ex8) (.cond (.t 6) (.seq (.reg Ex9) .ret) .skip)) (.seq (.reg Ey0) .ret))), [.tmp 2, .tmp 3]⟩
theorem Q95_ok : Ai Tryz.prog [0, 2, 3] [15, 20, 31, 71, 88, 41, 76, 86, 65, 83, 81, 114, 117, 119, 122, 68, 100, 103, 104, 105, 137, 138, 64, 72, 96, 99, 158, 159, 132, 56, 93, 94, 130, 131, 155, 62, 23, 170] 159 = some Q95 := by kernel_rfl

def Cp8 : Sts := zA 2 (.mv (.c (.slice none 0 0)))<|.nil
def Cp9 : Sts := zB 3 0<|zA 4 (.call 172 [(.c (.slice none 0 0)), (.t 3)])<|zB 2 4<|.nil
def Ey1 : RFun := ⟨5, [0, 2], (.seq (.reg Cp8) (.seq (.reg Cp9) .ret)), [.tmp 2]⟩
theorem Q106_ok : Ai Tryz.prog [0, 2] [15, 20, 31, 71, 88, 41, 76, 86, 65, 83, 81, 114, 117, 119, 122, 68, 100, 103, 104, 105, 137, 138, 64, 72, 96, 99, 158, 159, 132, 56, 93, 94, 130, 131, 155, 62, 23, 170] 166 = some Ey1 := by kernel_rfl

def Cq0 : Sts := zA 5 (zK 1)<|zA 6 (zM 5)<|zG 7 0<|.nil
def Cq1 : Sts := zA 8 (.bin .lss (.t 7) (.t 6))<|.nil
def Cq2 : Sts := zA 9 (zH 1 5 7)<|zA 10 (zJ 9)<|zB 4 10<|.nil
def Cq3 : Sts := zB 11 0<|zB 12 4<|zA 13 (.callv (.t 11) [(.t 12)])<|zA 14 (.notb (.t 13))<|.nil
def Cq4 : Sts := zA 15 (.bin .add (.t 7) (zN 1))<|zB 7 15<|.nil
def As9 : RCode := (.seq (.reg Cq1) (.seq (.cond (.t 8) .skip (.exit 0)) (.seq (.block 1 (.seq (.reg Cq2) (.seq (.reg Cq3) (.cond (.t 14) .ret .skip)))) (.reg Cq4))))
def Ct0 : RFun := ⟨16, [0, 1, 4, 5, 6, 7], (.seq (.reg Cq0) (.block 0 (.loop As9))), []⟩
theorem Q118_ok : Ai Tryz.prog [0, 1, 4, 5, 6, 7] [15, 20, 31, 71, 88, 41, 76, 86, 65, 83, 81, 114, 117, 119, 122, 68, 100, 103, 104, 105, 137, 138, 64, 72, 96, 99, 158, 159, 132, 56, 93, 94, 130, 131, 155, 62, 23, 170] 168 = some Ct0 := by kernel_rfl

def Cq5 : Sts := zA 2 (.box 34 (.t 0))<|zA 4 (.mv (.c (.slice none 0 0)))<|.nil
def Cq6 : Sts := zB 6 1<|.nil
def Cq7 : Sts := zB 5 7<|.nil
def Cq8 : Sts := zA 8 (zK 2)<|zB 9 5<|zA 10 (.buildSl 3 1 [(.int .i64 0)] [(0, 1, (.t 9))])<|zA 11 (.append 3 1 8 [(.int .i64 0)] (.t 8) (.t 10))<|.op none (.store 1 (.t 2) (.t 11))<|.nil
def Ea : RCode := (.reg Cq7)
def Eb : RCode := (.block 1 (.reg Cq8))
def Cq9 : Sts := zA 12 (zK 2)<|zB 4 12<|.nil
def Ct1 : RFun := ⟨13, [0, 1, 2, 4, 5, 6, 7], (.seq (.reg Cq5) (.seq (.seq (.reg Cq6) (.block 0 (.rangeF (.t 6) [7] Ea Eb))) (.seq (.reg Cq9) .ret))), [.tmp 4]⟩
theorem Q102_ok : Ai Tryz.prog [0, 1, 2, 4, 5, 6, 7] [15, 20, 31, 71, 88, 41, 76, 86, 65, 83, 81, 114, 117, 119, 122, 68, 100, 103, 104, 105, 137, 138, 64, 72, 96, 99, 158, 159, 132, 56, 93, 94, 130, 131, 155, 62, 23, 170] 172 = some Ct1 := by kernel_rfl

end Go.EV

namespace Go.EV
open Go.Proofs
abbrev vi (n : Int) : Value := .int .i64 n
abbrev vb (b : Bool) : Value := .bool b
def At0 (o : Int) : Int := if o = 4 then 7 else o
def Bs (o : Int) : Bool := decide (0 ≤ o) && decide (o < 5)
def Ah6 (k o : Int) : Bool :=
 if k = 0 then !decide (o = 2) && !decide (o = 3) else if k = 1 then !decide (o = 1) && !decide (o = 3) else if k = 5 then !decide (o = 0) else true
section
variable {M : Aa}
theorem Kw (o : Int) : Aq Tryz.prog 132 #[vi o] M (vi (At0 o)) := by
 refine Con.enter Q99_ok (args := [vi o]) (by simp [Q99]) fun w0 => ?_
 simp only [Q99, A5]
 repeat' first
   | refine EV.seq ?_
   | refine EV.skip ?_
   | refine rg ?_
   | (refine cX (fun h => ?_) (fun h => ?_) <;> try exact Ah h)
   | refine rt Q99_ok ?_
   | exact ⟨⟩
   | fail
 all_goals simp_all [At0]
theorem E8 (o : Int) : Aq Tryz.prog 96 #[vi o] M (vb (Bs o)) := by
 refine Con.enter Q100_ok (args := [vi o]) (by simp [Eg6]) fun w0 => ?_
 simp only [Eg6, A5]
 repeat' first
   | refine EV.seq ?_
   | refine rg ?_
   | with_reducible assumption
   | (refine A0.merge ?_ (fun hc K' hK => ?_) ?_; rotate_left)
   | refine rt Q100_ok ?_
   | exact ⟨⟩
   | fail
 all_goals simp_all [Bs]
theorem Uo (k o : Int) : Aq Tryz.prog 99 #[vi k, vi o] M (vb (Ah6 k o)) := by
 refine Con.enter Q101_ok (args := [vi k, vi o]) (by simp [Eg8]) fun w0 => ?_
 simp only [Eg8, A5]
 repeat' first
   | refine EV.seq ?_
   | refine EV.skip ?_
   | refine EV.block ?_
   | refine EV.inBlock ?_
   | refine rg ?_
   | with_reducible assumption
   | (refine A0.merge ?_ (fun hc K' hK => ?_) ?_; rotate_left)
   | (refine cX (fun h => ?_) (fun h => ?_) <;> try exact Ah h)
   | refine rt Q101_ok ?_
   | exact ⟨⟩
   | fail
 all_goals simp_all [Ah6]
def T4 (k o : Int) : Bool := decide (0 ≤ k) && decide (k < 6) && Bs o
theorem Mb (k o : Int) : Aq Tryz.prog 64 #[vi k, vi o] M (.tuple #[vb (T4 k o && Ah6 k o), vi (if T4 k o then 0 else 1)]) := by
 refine Con.enter Q96_ok (args := [vi k, vi o]) (by simp [Q96]) fun w0 => ?_
 simp only [Q96, A5]
 repeat' first
   | refine EV.seq ?_
   | refine EV.skip ?_
   | refine rg ?_
   | ((first | refine Aq.call (Uo _ _) ?_ | refine Aq.call (E8 _) ?_ | fail); try refine nx ?_)
   | with_reducible assumption
   | (refine A0.merge ?_ (fun hc K' hK => ?_) ?_; rotate_left)
   | (refine cX (fun h => ?_) (fun h => ?_) <;> try exact Ah h)
   | refine rt Q96_ok ?_
   | exact ⟨⟩
   | fail
 all_goals (simp [T4]; grind)
def Ct2 (o : Int) : Bool := decide (o = 1) || decide (o = 3) || decide (o = 4)
def Ct3 (o : Int) : Bool := decide (o = 2) || decide (o = 3) || decide (o = 4)
theorem Dk {o : Int} (h : Bs o = true) : o = 0 ∨ o = 1 ∨ o = 2 ∨ o = 3 ∨ o = 4 := by
 simp [Bs] at h; omega
theorem Lr (o : Int) (ho : Bs o = true) : Aq Tryz.prog 159 #[vi o] M (.tuple #[vb (Ct2 o), vi 0]) := by
 refine Con.enter Q95_ok (args := [vi o]) (by simp [Q95]) fun w0 => ?_
 simp only [Q95, A5]
 repeat' first
   | refine EV.seq ?_
   | refine EV.skip ?_
   | refine rg ?_
   | ((first | refine Aq.call (Kw _) ?_ | refine Aq.call (E8 _) ?_ | fail); try refine nx ?_)
   | (refine cX (fun h => ?_) (fun h => ?_) <;> try exact Ah h)
   | refine rt Q95_ok ?_
   | exact ⟨⟩
   | fail
 all_goals (first | (cases (ho.symm.trans h); done) | (rcases Dk ho with rfl | rfl | rfl | rfl | rfl <;> (congr 3 <;> decide)))
theorem Ls (o : Int) (ho : Bs o = true) : Aq Tryz.prog 158 #[vi o] M (.tuple #[vb (Ct3 o), vi 0]) := by
 refine Con.enter Q98_ok (args := [vi o]) (by simp [Q98]) fun w0 => ?_
 simp only [Q98, A5]
 repeat' first
   | refine EV.seq ?_
   | refine EV.skip ?_
   | refine rg ?_
   | ((first | refine Aq.call (Kw _) ?_ | refine Aq.call (E8 _) ?_ | fail); try refine nx ?_)
   | (refine cX (fun h => ?_) (fun h => ?_) <;> try exact Ah h)
   | refine rt Q98_ok ?_
   | exact ⟨⟩
   | fail
 all_goals (first | (cases (ho.symm.trans h); done) | (rcases Dk ho with rfl | rfl | rfl | rfl | rfl <;> (congr 3 <;> decide)))
def Iq (k o : Int) : Int := if o ≠ 4 then o else if k = 0 then 1 else if k = 1 then 2 else 3
theorem Qk (k o : Int) (hk : T4 k o = true) (hm : Ah6 k o = true) (h5 : k ≠ 5) : Aq Tryz.prog 72 #[vi k, vi o] M (.tuple #[vi (Iq k o), vi 0]) := by
 refine Con.enter Q97_ok (args := [vi k, vi o]) (by simp [Q97]) fun w0 => ?_
 simp only [Q97, A5]
 repeat' first
   | refine EV.seq ?_
   | refine EV.skip ?_
   | refine EV.block ?_
   | refine EV.inBlock ?_
   | refine rg ?_
   | (refine Aq.call (Mb _ _) ?_; try refine nx ?_)
   | with_reducible assumption
   | (refine A0.merge ?_ (fun hc K' hK => ?_) ?_; rotate_left)
   | (refine cX (fun h => ?_) (fun h => ?_) <;> try exact Ah h)
   | refine rt Q97_ok ?_
   | exact ⟨⟩
   | fail
 all_goals simp_all [Iq]
structure OpV where
 kind : Int
 loc : Int
 v : Int
 w : Int
 ord : Int
 deriving DecidableEq
abbrev Bc (o : OpV) : List Value := [vi o.kind, vi o.loc, vi o.v, vi o.w, vi o.ord]
abbrev vop (o : OpV) : Value := .agg #[vi o.kind, vi o.loc, vi o.v, vi o.w, vi o.ord]
def Pe (n : Int) : Bool := decide (0 ≤ n) && decide (n ≤ 9)
theorem On (n : Int) : Aq Tryz.prog 100 #[vi n] M (vb (Pe n)) := by
 refine Con.enter Q54_ok (args := [vi n]) (by simp [Q54]) fun w0 => ?_
 simp only [Q54, A5]
 repeat' first
   | refine EV.seq ?_
   | refine rg ?_
   | with_reducible assumption
   | (refine A0.merge ?_ (fun hc K' hK => ?_) ?_; rotate_left)
   | refine rt Q54_ok ?_
   | exact ⟨⟩
   | fail
 all_goals simp_all [Pe]
def Bj (o : OpV) : Bool := decide (0 ≤ o.kind) && decide (o.kind ≤ 4)
theorem E9 (o : OpV) : Aq Tryz.prog 71 #[vop o] M (vb (Bj o)) := by
 refine Con.enter Q53_ok (args := [vop o]) (by simp [Q53]) fun w0 => ?_
 simp only [Q53, A5]
 repeat' first
   | refine EV.seq ?_
   | refine rg ?_
   | with_reducible assumption
   | (refine A0.merge ?_ (fun hc K' hK => ?_) ?_; rotate_left)
   | refine rt Q53_ok ?_
   | ((first | with_reducible intro b | refine xiA rfl ?_ | fail); try refine nx ?_)
   | exact ⟨⟩
   | fail
 all_goals simp_all [Bj]
def W5 (o : OpV) : Bool :=
 decide (0 ≤ o.loc) && decide (o.loc < 3) &&
 (if o.kind = 0 then decide (o.v = 0) && decide (o.w = 0) else if o.kind = 1 then Pe o.v && decide (o.w = 0) else if o.kind = 2 then decide (-9 ≤ o.v) && decide (o.v ≤ 9) && decide (o.w = 0)
  else if o.kind = 3 ∨ o.kind = 4 then Pe o.v && Pe o.w else if o.kind = 5 then decide (o.loc = 0) && decide (o.v = 0) && decide (o.w = 0) else false)
theorem Ql (o : OpV) : Aq Tryz.prog 65 #[vop o] M (vb (W5 o)) := by
 refine Con.enter Q55_ok (args := [vop o]) (by simp [Q55]) fun w0 => ?_
 simp only [Q55, A5]
 repeat' first
   | refine EV.seq ?_
   | refine EV.skip ?_
   | refine EV.block ?_
   | refine EV.inBlock ?_
   | refine rg ?_
   | (refine Aq.call (On _) ?_; try refine nx ?_)
   | with_reducible assumption
   | (refine A0.merge ?_ (fun hc K' hK => ?_) ?_; rotate_left)
   | (refine cX (fun h => ?_) (fun h => ?_) <;> try exact Ah h)
   | refine rt Q55_ok ?_
   | ((first | with_reducible intro b | refine xiA rfl ?_ | fail); try refine nx ?_)
   | exact ⟨⟩
   | fail
 all_goals (simp [W5]; grind)
end
end Go.EV
