/- Part of the proof of a statement about executions of litmus programs: walks and laws. -/
import Derived.Test.YtmgnpoleilcjoaaGreatVPaa
import Derived.Test.YtmgnpoleilcjoaaGreatProg
set_option maxRecDepth 8000
set_option linter.unusedSimpArgs false
set_option linter.unusedVariables false
set_option linter.unusedSectionVars false
namespace Go.EV
variable {P : Program}
def Jc (ops : Array Oper) (s : Nat) (g : Option (Nat × Bool)) : Nat → Nat → Option Nat
 | _, 0 => none
 | i, n + 1 => match ops[i]? with
  | some o => if o.guard = g then (match o.op with
    | .pick (.tmp s') _ _ => if s' = s then some i else Jc ops s g (i + 1) n
    | _ => Jc ops s g (i + 1) n) else Jc ops s g (i + 1) n
  | none => none
def U1 (want : Bool) (s : Nat) : Op → Option Operand
 | .pick (.tmp s') x y => if s' = s then (if want then (match y with | .const (.bool false) => some x | _ => none) else (match x with | .const (.bool true) => some y | _ => none)) else none
 | _ => none
theorem pickOf_ok {want : Bool} {s : Nat} {op : Op} {x : Operand} (h : U1 want s op = some x) : op = if want then .pick (.tmp s) x (.const (.bool false)) else .pick (.tmp s) (.const (.bool true)) x := by
 unfold U1 at h
 split at h
 ·split at h
  ·rename_i e
   subst e
   split at h
   ·rename_i hw
    split at h
    ·cases h; simp [hw]
    ·cases h
   ·rename_i hw
    split at h
    ·cases h; simp [hw]
    ·cases h
  ·cases h
 ·cases h
def okG (g : Option (Nat × Bool)) (i : Nat) : Bool :=
 match g with
 | none => true
 | some p => decide (p.1 < i)
theorem okG_ok {g : Option (Nat × Bool)} {i : Nat} (h : okG g i = true) : ∀ p, g = some p → p.1 < i := by
 intro p e; subst e; simpa [okG] using h
def X8 : Op → Bool
 | .defer _ => true
 | _ => false
def Ab1 (d : Option Nat) (nt : Nat) : Bool :=
 match d with
 | none => true
 | some d => decide (d < nt)
def Es7 (g : Option (Nat × Bool)) (og : Oper) (i0 gi : Nat) : Bool :=
 match g with
 | none => true
 | some _ => decide (i0 ≤ gi) && decide (og.guard = g)
def Tt (P : Program) (ops : Array Oper) (nt : Nat) : Nat → Option (Nat × Bool) → Nat → Nat → Nat → Option Sts
 | 0, _, _, _, _ => none
 | fuel + 1, g, i0, i, j =>
  if i = j then some .nil else
  (ops[i]?).bind fun o =>
  if o.guard = g then
   (if (okG g i && Ab1 o.dst nt && !X8 o.op) = true then (Ai5 P o).bind fun r => (Tt P ops nt fuel g i0 (i + 1) j).bind fun rest => some (.op o.dst r rest) else none)
  else match o.guard with
   | none => none
   | some (gi, want) => (ops[gi]?).bind fun og => og.dst.bind fun s => (Jc ops s g i (j - i)).bind fun m => (ops[m]?).bind fun p => p.dst.bind fun d =>
     (U1 want s p.op).bind fun x => (cA x).bind fun last =>
     if (decide (gi < i) && Es7 g og i0 gi && okG g i && decide (p.guard = g) && decide (d < nt)) = true then
      (Tt P ops nt fuel (some (gi, want)) i i m).bind fun body => (Tt P ops nt fuel g i0 (m + 1) j).bind fun rest => some (.cnd s want body d last rest)
     else none
theorem compS_ok {ops : Array Oper} {nt : Nat} : ∀ {fuel : Nat} {g : Option (Nat × Bool)} {i0 i j : Nat} {sts : Sts}, Tt P ops nt fuel g i0 i j = some sts → CmpS P ops nt g i0 i j sts
 | 0, g, i0, i, j, sts, h => by simp [Tt] at h
 | fuel + 1, g, i0, i, j, sts, h => by
  unfold Tt at h
  split at h
  ·rename_i e; cases h; subst e; exact .nil
  ·simp only [Option.bind_eq_some_iff] at h
   obtain ⟨o, ho, h⟩ := h
   split at h
   ·rename_i hg
    split at h
    ·rename_i hc
     simp only [Bool.and_eq_true] at hc
     obtain ⟨⟨h1, h2⟩, h3⟩ := hc
     simp only [Option.bind_eq_some_iff] at h
     obtain ⟨r, hr, rest, hrest, e⟩ := h
     cases e
     refine .op ho hg (okG_ok h1) (comp_ok hr) ?_ ?_ (compS_ok hrest)
     ·intro c e; simp [X8, e] at h3
     ·intro d e; simpa [Ab1, e] using h2
    ·cases h
   ·split at h
    ·cases h
    ·rename_i gi want hgd
     simp only [Option.bind_eq_some_iff] at h
     obtain ⟨og, hog, s, hs, m, hm, p, hp, d, hd, x, hx, last, hl, h⟩ := h
     split at h
     ·rename_i hc
      simp only [Bool.and_eq_true, decide_eq_true_eq] at hc
      obtain ⟨⟨⟨⟨h1, h2⟩, h3⟩, h4⟩, h5⟩ := hc
      simp only [Option.bind_eq_some_iff] at h
      obtain ⟨body, hb, rest, hr, e⟩ := h
      cases e
      refine .cnd hog hs h1 ?_ (okG_ok h3) (compS_ok hb) hp h4 (pickOf_ok hx) hl hd h5 (compS_ok hr)
      intro hsome
      cases g with
      | none => simp at hsome
      | some q => simpa [Es7] using h2
     ·cases h
def Tu (ops : Array Oper) : Bool :=
 (List.range ops.size).all fun t => (List.range ops.size).all fun t' =>
  t == t' || (match (ops[t]?).bind (·.dst), (ops[t']?).bind (·.dst) with | some d, some d' => !(d == d') | _, _ => true)
theorem oneDst_ok {ops : Array Oper} (h : Tu ops = true) : Ov ops := by
 intro t t' o o' d ho ho' hd hd'
 have h1 : t < ops.size := (Array.getElem?_eq_some_iff.1 ho).1
 have h2 : t' < ops.size := (Array.getElem?_eq_some_iff.1 ho').1
 have h3 := List.all_eq_true.1 (List.all_eq_true.1 h t (List.mem_range.2 h1)) t' (List.mem_range.2 h2)
 simpa [ho, ho', hd, hd'] using h3
def X9 (ops : Array Oper) (V : List Nat) : Bool :=
 ops.toList.all fun o => match o.guard, o.dst with | some _, some d => !V.contains d | _, _ => true
theorem guardV_ok {ops : Array Oper} {V : List Nat} (h : X9 ops V = true) : ∀ (t : Nat) (o : Oper) (d : Nat), ops[t]? = some o → o.dst = some d → o.guard ≠ none → d ∉ V := by
 intro t o d ho hd hg hm
 have := List.all_eq_true.1 h o (by simpa using Array.mem_of_getElem? ho)
 cases hgg : o.guard with
 | none => exact hg hgg
 | some g => simp [hgg, hd, hm] at this
def Kh (o : Oper) (D : Nat) : Bool := o.after.toList.all fun e => !Region.binds .any e || bit D e.on
theorem depsIn_ok {ops : Array Oper} {i D : Nat} {o : Oper} (ho : ops[i]? = some o) (h : Kh o D = true) : ∀ p, dep ops p i → bit D p = true := by
 rintro p ⟨o', ho', e, he, hb, rfl⟩
 rw [ho] at ho'; cases ho'
 have := List.all_eq_true.1 h e he
 simpa [hb] using this
theorem Ya {ops : Array Oper} {i D : Nat} {o : Oper} (ho : ops[i]? = some o) (h : Kh o D = false) : ∃ p, dep ops p i ∧ bit D p = false := by
 simp only [Kh, List.all_eq_false] at h
 obtain ⟨e, he, h⟩ := h
 simp at h
 exact ⟨e.on, ⟨o, ho, e, he, h.1, rfl⟩, h.2⟩
def Ae3 (l : List Nat) (o : Oper) : Nat := o.after.toList.foldl (fun m e => if Region.binds .any e then m ||| (1 <<< e.on) ||| l.getD e.on 0 else m) 0
def ups (ops : Array Oper) : Nat → List Nat
 | 0 => []
 | n + 1 => let l := ups ops n; l ++ [match ops[n]? with | some o => Ae3 l o | none => 0]
theorem Ow (ops : Array Oper) : ∀ n, (ups ops n).length = n
 | 0 => rfl
 | n + 1 => by simp [ups, Ow ops n]
theorem upMask_ok {ops : Array Oper} {n : Nat} {o : Oper} (ho : ops[n]? = some o) {l : List Nat} (hl : ∀ i j, bit (l.getD j 0) i = true → Bef ops i j) {i : Nat} (h : bit (Ae3 l o) i = true) : Bef ops i n := by
 have key : ∀ (es : List Edge) (m : Nat), (∀ e ∈ es, e ∈ o.after.toList) → (bit m i = true → Bef ops i n) → bit (es.foldl (fun m e => if Region.binds .any e then m ||| (1 <<< e.on) ||| l.getD e.on 0 else m) m) i = true → Bef ops i n := by
  intro es
  induction es with
  | nil => intro m _ hm h; exact hm h
  | cons e es ih =>
   intro m hes hm h
   refine ih _ (fun e' he' => hes e' (by simp [he'])) ?_ h
   intro hb
   dsimp only at hb
   split at hb
   ·rename_i hbd
    simp only [bit, Nat.testBit_or, Nat.one_shiftLeft, Nat.testBit_two_pow, Bool.or_eq_true, decide_eq_true_eq] at hb
    have hd : dep ops e.on n := ⟨o, ho, e, hes e (by simp), hbd, rfl⟩
    rcases hb with (hb | hb) | hb
    ·exact hm hb
    ·subst hb; exact .one hd
    ·exact .step (hl _ _ hb) hd
   ·exact hm hb
 exact key o.after.toList 0 (fun e he => he) (fun h => by simp [bit] at h) h
theorem ups_ok {ops : Array Oper} : ∀ n i j, bit ((ups ops n).getD j 0) i = true → Bef ops i j := by
 intro n
 induction n with
 | zero => intro i j h; simp [ups, bit] at h
 | succ n ih =>
  intro i j h
  have hlen := Ow ops n
  simp only [ups, List.getD_eq_getElem?_getD] at h
  by_cases hj : j < n
  ·rw [List.getElem?_append_left (by omega)] at h
   exact ih i j (by rw [List.getD_eq_getElem?_getD]; exact h)
  ·by_cases e : j = n
   ·subst e
    rw [List.getElem?_append_right (by omega), hlen, Nat.sub_self] at h
    simp only [List.getElem?_cons_zero, Option.getD_some] at h
    split at h
    ·rename_i o ho; exact upMask_ok ho ih h
    ·simp [bit] at h
   ·rw [List.getElem?_eq_none (by simp [hlen]; omega)] at h
    simp [bit] at h
def Wi (md : Region.Mode) (ops : Array Oper) : List Nat → Nat → Bool
 | [], D => (List.range ops.size).all fun i => bit D i
 | i :: l, D => match ops[i]? with
  | some o => (o.after.toList.all fun e => !Region.binds md e || bit D e.on) && Wi md ops l (bset D i)
  | none => false
theorem liveB_ok {md : Region.Mode} {ops : Array Oper} {listed : Array Bool} (hsz : listed.size = ops.size) (hr : Region.ready md ops listed = []) : ∀ {l : List Nat} {D : Nat}, Wi md ops l D = true → (∀ i, bit D i = true → listed.getD i false = true) →
  ∀ i, i < ops.size → listed.getD i false = true
 | [], D, h, hD, i, hi => hD i (List.all_eq_true.1 h i (List.mem_range.2 hi))
 | x :: l, D, h, hD, i, hi => by
  simp only [Wi] at h
  split at h
  ·rename_i o ho
   simp only [Bool.and_eq_true] at h
   refine liveB_ok hsz hr h.2 ?_ i hi
   intro j hj
   rw [Ax] at hj
   rcases Ef hj with rfl | hj
   ·cases hl : listed.getD j false with
    | true => rfl
    | false =>
     exfalso
     have hlt : j < listed.size := by have := (Array.getElem?_eq_some_iff.1 ho).1; omega
     have := Aa8 (md := md) (listed := listed) ho (by simpa [Array.getD_eq_getD_getElem?, hlt] using hl) (fun e he hb => hD _ (by
      have := List.all_eq_true.1 h.1 e he
      simpa [hb] using this))
     rw [hr] at this; cases this
   ·exact hD j hj
  ·cases h
def Cm6 (md : Region.Mode) (ops : Array Oper) : Nat → Nat → List Nat
 | 0, _ => []
 | fuel + 1, D => match (List.range ops.size).find? fun i => !bit D i && (match ops[i]? with | some o => o.after.toList.all fun e => !Region.binds md e || bit D e.on | none => false) with
  | some i => i :: Cm6 md ops fuel (bset D i)
  | none => []
def Tv (ops : Array Oper) : Bool :=
 Wi .any ops (Cm6 .any ops ops.size 0) 0 && Wi .text ops (Cm6 .text ops ops.size 0) 0 && Wi .gc ops (Cm6 .gc ops ops.size 0) 0
theorem liveAll_ok {ops : Array Oper} (h : Tv ops = true) (md : Region.Mode) (listed : Array Bool) (hsz : listed.size = ops.size) (hr : Region.ready md ops listed = []) : ∀ i, i < ops.size → listed.getD i false = true := by
 simp only [Tv, Bool.and_eq_true] at h
 obtain ⟨⟨h1, h2⟩, h3⟩ := h
 cases md
 ·exact liveB_ok hsz hr h2 (by simp [bit])
 ·exact liveB_ok hsz hr h3 (by simp [bit])
 ·exact liveB_ok hsz hr h1 (by simp [bit])
def Ai6 (ops : Array Oper) (nt : Nat) (us : List Nat) : Bool :=
 Tu ops && Tv ops && (ops.toList.all fun o => Ab1 o.dst nt && (match o.op with | .select _ _ => false | .defer _ => false | _ => true)) &&
 (List.range ops.size).all fun i => match ops[i]? with
  | none => true
  | some o => (o.after.toList.all fun e => !Region.binds .any e || decide (e.on < i)) &&
   (o.looksAt ops).all fun t => (List.range ops.size).all fun j => match (ops[j]?).bind (·.dst) with
    | some d => !(d == t) || bit (us.getD i 0) j || bit (us.getD j 0) i
    | none => true
theorem planB_ok {ops : Array Oper} {nt n : Nat} (h : Ai6 ops nt (ups ops n) = true) : Plan ops nt := by
 simp only [Ai6, Bool.and_eq_true] at h
 obtain ⟨⟨⟨h1, hlive⟩, h2⟩, h3⟩ := h
 have hall : ∀ (i : Nat) (o : Oper), ops[i]? = some o → (∀ d, o.dst = some d → d < nt) ∧ (∀ cs b, o.op ≠ .select cs b) ∧ (∀ c, o.op ≠ .defer c) := by
  intro i o ho
  have := List.all_eq_true.1 h2 o (by simpa using Array.mem_of_getElem? ho)
  simp only [Bool.and_eq_true] at this
  refine ⟨fun d hd => by simpa [Ab1, hd] using this.1, fun cs b e => by simp [e] at this, fun c e => by simp [e] at this⟩
 have h3' : ∀ (i : Nat) (o : Oper), ops[i]? = some o → (∀ e ∈ o.after.toList, Region.binds .any e = true → e.on < i) ∧
   ∀ t ∈ o.looksAt ops, ∀ (j : Nat) (oj : Oper), ops[j]? = some oj → oj.dst = some t → Bef ops j i ∨ Bef ops i j := by
  intro i o ho
  have hi : i < ops.size := (Array.getElem?_eq_some_iff.1 ho).1
  have := List.all_eq_true.1 h3 i (List.mem_range.2 hi)
  simp only [ho, Bool.and_eq_true] at this
  refine ⟨fun e he hb => ?_, fun t ht j oj hj hd => ?_⟩
  ·have := List.all_eq_true.1 this.1 e he
   simpa [hb] using this
  ·have hj' : j < ops.size := (Array.getElem?_eq_some_iff.1 hj).1
   have := List.all_eq_true.1 (List.all_eq_true.1 this.2 t ht) j (List.mem_range.2 hj')
   simp only [hj, Option.bind_some, hd, beq_self_eq_true, Bool.not_true, Bool.false_or, Bool.or_eq_true] at this
   exact this.imp (ups_ok n _ _) (ups_ok n _ _)
 have hdown : ∀ i j, dep ops i j → i < j := by
  rintro i j ⟨o, ho, e, he, hb, rfl⟩
  exact (h3' j o ho).1 e he hb
 have hdown' : ∀ i j, Bef ops i j → i < j := by
  intro i j hb
  induction hb with
  | one h => exact hdown _ _ h
  | step _ hd ih => exact Nat.lt_trans ih (hdown _ _ hd)
 refine ⟨?_, fun i hb => by have := hdown' i i hb; omega, oneDst_ok h1, fun i o d ho hd => (hall i o ho).1 d hd, fun i o ho => (hall i o ho).2, liveAll_ok hlive⟩
 intro i j oi oj t hi hj hd ht
 exact (h3' i oi hi).2 t ht j oj hj hd
def Au9 (g : Option (Nat × Bool)) (og : Oper) (D0 gi : Nat) : Bool :=
 match g with
 | none => true
 | some _ => decide (og.guard = g) && !bit D0 gi
def Nz (P : Program) (ops : Array Oper) (Q : List Nat) : Nat → Option (Nat × Bool) → Bool → Nat → Nat → Nat → Nat → Option (QL × Nat)
 | 0, _, _, _, _, _, _ => none
 | fuel + 1, g, must, D0, i, j, D =>
  if j ≤ i then some (.nil, D) else
  if bit D i = true then Nz P ops Q fuel g must D0 (i + 1) j D else
  (ops[i]?).bind fun o =>
  if o.guard = g then
   (Ai5 P o).bind fun r =>
   if (Kh o D && Rn Q r) = true then (Nz P ops Q fuel g must D0 (i + 1) j (bset D i)).bind fun q => some (.op i o.dst r q.1, q.2)
   else if must = true then none else Nz P ops Q fuel g must D0 (i + 1) j D
  else match o.guard with
   | none => none
   | some (gi, want) => (ops[gi]?).bind fun og => og.dst.bind fun s => (Jc ops s g i (j - i)).bind fun m => (ops[m]?).bind fun p => p.dst.bind fun d =>
     (U1 want s p.op).bind fun x => (cA x).bind fun last =>
     match (if bit D gi = true then Nz P ops Q fuel (some (gi, want)) true D i m D else none) with
     | some q =>
      if (Au9 g og D0 gi && decide (p.guard = g) && !bit q.2 m && Kh p q.2) = true then
       (Nz P ops Q fuel g must D0 (m + 1) j (bset q.2 m)).bind fun q' => some (.g s want q.1 m d last q'.1, q'.2)
      else none
     | none => if must = true then none else Nz P ops Q fuel g must D0 (m + 1) j D
theorem takeQ_ok {ops : Array Oper} {nt : Nat} {Q : List Nat} : ∀ {fuel : Nat} {g : Option (Nat × Bool)} {must : Bool} {D0 i j D : Nat} {q : QL × Nat}, Nz P ops Q fuel g must D0 i j D = some q → CmpQL P ops nt Q g D0 D q.1 q.2
 | 0, g, must, D0, i, j, D, q, h => by simp [Nz] at h
 | fuel + 1, g, must, D0, i, j, D, q, h => by
  unfold Nz at h
  split at h
  ·cases h; exact .nil
  ·split at h
   ·exact takeQ_ok h
   ·rename_i hD
    simp only [Option.bind_eq_some_iff] at h
    obtain ⟨o, ho, h⟩ := h
    split at h
    ·rename_i hg
     simp only [Option.bind_eq_some_iff] at h
     obtain ⟨r, hr, h⟩ := h
     split at h
     ·rename_i hc
      simp only [Bool.and_eq_true] at hc
      simp only [Option.bind_eq_some_iff] at h
      obtain ⟨q', hq', e⟩ := h
      cases e
      exact .op ho hg (by simpa using hD) (depsIn_ok ho hc.1) (comp_ok hr) hc.2 (takeQ_ok hq')
     ·split at h
      ·cases h
      ·exact takeQ_ok h
    ·split at h
     ·cases h
     ·rename_i gi want hgd
      simp only [Option.bind_eq_some_iff] at h
      obtain ⟨og, hog, s, hs, m, hm, p, hp, d, hd, x, hx, last, hl, h⟩ := h
      split at h
      ·rename_i q1 hq1
       split at hq1
       ·rename_i hgi
        split at h
        ·rename_i hc
         simp only [Bool.and_eq_true, decide_eq_true_eq, Bool.not_eq_true'] at hc
         obtain ⟨⟨⟨h1, h2⟩, h3⟩, h4⟩ := hc
         simp only [Option.bind_eq_some_iff] at h
         obtain ⟨q', hq', e⟩ := h
         cases e
         refine .g hog hs hgi ?_ (takeQ_ok hq1) hp h2 h3 (depsIn_ok hp h4) (pickOf_ok hx) hl hd (takeQ_ok hq')
         intro hsome
         cases g with
         | none => simp at hsome
         | some q => simpa [Au9] using h1
        ·cases h
       ·cases hq1
      ·split at h
       ·cases h
       ·exact takeQ_ok h
def Av0 (P : Program) (Q : List Nat) (o : Oper) : Bool := match Ai5 P o with | some r => Rn Q r | none => false
def Av1 (P : Program) (ops : Array Oper) (Q : List Nat) (Γ : Gam) (D : Nat) : Option (Nat × Oper × Nat × Bool) :=
 (List.range ops.size).findSome? fun i => if bit D i = true then none else match ops[i]? with
  | some o => match o.guard with
   | some (gi, want) => if (Kh o D && bit D gi && (!Γ.contains (gi, some want) || Av0 P Q o)) = true then some (i, o, gi, want) else none
   | none => none
  | none => none
theorem nextG_ok {ops : Array Oper} {Q : List Nat} {Γ : Gam} {D : Nat} {i gi : Nat} {o : Oper} {want : Bool} (h : Av1 P ops Q Γ D = some (i, o, gi, want)) : ops[i]? = some o ∧ o.guard = some (gi, want) ∧ bit D i = false ∧ Kh o D = true ∧ bit D gi = true := by
 obtain ⟨j, _, h⟩ := List.exists_of_findSome?_eq_some h
 split at h
 ·cases h
 ·rename_i hD
  split at h
  ·rename_i o' ho
   split at h
   ·rename_i gi' want' hg
    split at h
    ·rename_i hc
     simp only [Bool.and_eq_true] at hc
     cases h
     exact ⟨ho, hg, by simpa using hD, hc.1.1, hc.1.2⟩
    ·cases h
   ·cases h
  ·cases h
def Tw (Γ : Gam) (g : Option (Nat × Bool)) : Bool :=
 match g with
 | none => true
 | some p => Γ.contains (p.1, some p.2)
theorem guardIn_ok {Γ : Gam} {g : Option (Nat × Bool)} (h : Tw Γ g = true) : ∀ p, g = some p → (p.1, some p.2) ∈ Γ := by
 intro p e
 subst e
 simpa [Tw] using h
def mkT (P : Program) (ops : Array Oper) (Q : List Nat) (us : List Nat) : Nat → Gam → Option Nat → Nat → Option AT
 | 0, _, _, _ => none
 | fuel + 1, Γ, none, D => (Nz P ops Q (ops.size + 1) none false D 0 ops.size D).bind fun q =>
   if ((List.range ops.size).all fun i => bit q.2 i) = true then some (.q q.1 .fin) else
   match Av1 P ops Q Γ q.2 with
   | some (i, o, gi, want) => match Γ.find? fun p => p.1 == gi with
    | some (gj, x) => if gj = gi ∧ (gj, x) ∈ Γ then
      (if x = some want then (Ai5 P o).bind fun r => if Rn Q r = true then (mkT P ops Q us fuel Γ none (bset q.2 i)).bind fun t => some (.q q.1 (.q (.op i o.dst r .nil) t))
        else (mkT P ops Q us fuel Γ (some 0) q.2).bind fun t => some (.q q.1 t)
       else (mkT P ops Q us fuel (if o.dst.isSome = true then (i, none) :: Γ else Γ) none (bset q.2 i)).bind fun t => some (.q q.1 (.sk i o.dst t)))
      else none
    | none => (ops[gi]?).bind fun og => og.dst.bind fun s => (mkT P ops Q us fuel ((gi, some true) :: Γ) none q.2).bind fun y => (mkT P ops Q us fuel ((gi, some false) :: Γ) none q.2).bind fun n => some (.q q.1 (.br s y n))
   | none => (mkT P ops Q us fuel Γ (some 0) q.2).bind fun t => some (.q q.1 t)
 | fuel + 1, Γ, some i, D =>
   if ops.size ≤ i then some .no else
   if bit D i = true then mkT P ops Q us fuel Γ (some (i + 1)) D else
   (ops[i]?).bind fun o =>
   if Kh o D = true then
    if Tw Γ o.guard = true then (Ai5 P o).bind fun r => (mkT P ops Q us fuel Γ none (bset D i)).bind fun t => (mkT P ops Q us fuel Γ (some (i + 1)) D).bind fun more =>
     some (.s i o.dst r (Nat.land D (us.getD i 0) == D) t more) else none
   else mkT P ops Q us fuel Γ (some (i + 1)) D
theorem mkT_ok {ops : Array Oper} {nt n : Nat} {Q : List Nat} : ∀ {fuel : Nat} {Γ : Gam} {mode : Option Nat} {D : Nat} {t : AT}, mkT P ops Q (ups ops n) fuel Γ mode D = some t → CmpA P ops nt Q Γ mode D t
 | 0, Γ, mode, D, t, h => by simp [mkT] at h
 | fuel + 1, Γ, none, D, t, h => by
  simp only [mkT, Option.bind_eq_some_iff] at h
  obtain ⟨q, hq, h⟩ := h
  have hnone : ∀ p : Nat × Bool, (none : Option (Nat × Bool)) = some p → (p.1, some p.2) ∈ Γ := fun p e => by cases e
  split at h
  ·rename_i hall
   cases h
   exact .q hnone (takeQ_ok hq) (.fin fun i hi => List.all_eq_true.1 hall i (List.mem_range.2 hi))
  ·rename_i hall
   have hne : ∃ i, i < ops.size ∧ bit q.2 i = false := by
    have hall : ((List.range ops.size).all fun i => bit q.2 i) = false := by simpa using hall
    obtain ⟨i, hi, hb⟩ := List.all_eq_false.1 hall
    exact ⟨i, List.mem_range.1 hi, by simpa using hb⟩
   split at h
   ·rename_i i o gi want hn
    obtain ⟨ho, hg, hD, hdep, hgD⟩ := nextG_ok hn
    split at h
    ·rename_i gj x _
     split at h
     ·rename_i hc
      obtain ⟨rfl, hmem⟩ := hc
      split at h
      ·rename_i hx
       subst hx
       simp only [Option.bind_eq_some_iff] at h
       obtain ⟨r, hr, h⟩ := h
       split at h
       ·rename_i hqr
        simp only [Option.bind_eq_some_iff] at h
        obtain ⟨t', ht', e⟩ := h
        cases e
        refine .q hnone (takeQ_ok hq) (.q (g := some (gj, want)) (fun p e => by cases e; exact hmem) (.op ho hg hD (depsIn_ok ho hdep) (comp_ok hr) hqr .nil) (mkT_ok ht'))
       ·simp only [Option.bind_eq_some_iff] at h
        obtain ⟨t', ht', e⟩ := h
        cases e
        exact .q hnone (takeQ_ok hq) (.alts hne (mkT_ok ht'))
      ·rename_i hx
       simp only [Option.bind_eq_some_iff] at h
       obtain ⟨t', ht', e⟩ := h
       cases e
       refine .q hnone (takeQ_ok hq) (.sk ho hg hmem hx hD (depsIn_ok ho hdep) ?_ (mkT_ok ht'))
       intro y hy
       split at hy
       ·rename_i hs
        rcases List.mem_cons.1 hy with e | hy
        ·exact .inr ⟨e, Option.isSome_iff_exists.1 hs⟩
        ·exact .inl hy
       ·exact .inl hy
     ·cases h
    ·simp only [Option.bind_eq_some_iff] at h
     obtain ⟨og, hog, s, hs, y, hy, n', hn', e⟩ := h
     cases e
     exact .q hnone (takeQ_ok hq) (.br hog hs hgD (mkT_ok hy) (mkT_ok hn'))
   ·simp only [Option.bind_eq_some_iff] at h
    obtain ⟨t', ht', e⟩ := h
    cases e
    exact .q hnone (takeQ_ok hq) (.alts hne (mkT_ok ht'))
 | fuel + 1, Γ, some i, D, t, h => by
  simp only [mkT] at h
  split at h
  ·rename_i hi; cases h; exact .no hi
  ·split at h
   ·rename_i hD; exact .pass (.inl hD) (mkT_ok h)
   ·rename_i hD
    simp only [Option.bind_eq_some_iff] at h
    obtain ⟨o, ho, h⟩ := h
    split at h
    ·split at h
     ·rename_i hg
      simp only [Option.bind_eq_some_iff] at h
      obtain ⟨r, hr, t', ht', more, hm, e⟩ := h
      cases e
      refine .s ho (guardIn_ok hg) (by simpa using hD) (comp_ok hr) ?_ (mkT_ok ht') (mkT_ok hm)
      intro hre j hj
      have e : Nat.land D ((ups ops n).getD i 0) = D := by simpa using hre
      refine ups_ok n _ _ ?_
      have : bit (Nat.land D ((ups ops n).getD i 0)) j = true := by rw [e]; exact hj
      have h2 : bit (D &&& ((ups ops n).getD i 0)) j = true := this
      rw [bit, Nat.testBit_and, Bool.and_eq_true] at h2
      exact h2.2
     ·cases h
    ·rename_i hd
     exact .pass (.inr (Ya ho (by simpa using hd))) (mkT_ok h)
def Gy (P : Program) (nt : Nat) (V Q : List Nat) : Code → Option RCode
 | .skip => some .skip
 | .region _ ops false => if (Tu ops && X9 ops V) = true then (Tt P ops nt (ops.size + 1) none 0 0 ops.size).bind fun s => some (.reg s) else none
 | .region _ ops true => if (Ai6 ops nt (ups ops ops.size) && X9 ops V) = true then (mkT P ops Q (ups ops ops.size) ((ops.size + 2) * (ops.size + 2)) [] none 0).bind fun t => some (.any t) else none
 | .seq a b => (Gy P nt V Q a).bind fun a' => (Gy P nt V Q b).bind fun b' => some (.seq a' b')
 | .cond c a b => (cA c).bind fun c' => (Gy P nt V Q a).bind fun a' => (Gy P nt V Q b).bind fun b' => some (.cond c' a' b')
 | .block id c => (Gy P nt V Q c).bind fun c' => some (.block id c')
 | .loop c => (Gy P nt V Q c).bind fun c' => some (.loop c')
 | .exit id => some (.exit id)
 | .ret => some .ret
 | .rangeFunc f ps a b => (cA f).bind fun f' => (Gy P nt V Q a).bind fun a' => (Gy P nt V Q b).bind fun b' => if (ps.toList.all fun t => decide (t < nt)) = true then some (.rangeF f' ps.toList a' b') else none
 | _ => none
theorem compC_ok {nt : Nat} {V Q : List Nat} : ∀ {c : Code} {r : RCode}, Gy P nt V Q c = some r → CmpC P nt V c r := by
 intro c
 induction c with
 | skip => intro r h; cases h; exact .skip
 | region id ops draw =>
  intro r h
  cases draw with
  | true =>
   simp only [Gy] at h
   split at h
   ·rename_i hc
    simp only [Bool.and_eq_true] at hc
    simp only [Option.bind_eq_some_iff] at h
    obtain ⟨t, ht, e⟩ := h
    cases e
    exact .any (planB_ok hc.1) (mkT_ok ht) (guardV_ok hc.2)
   ·cases h
  | false =>
   simp only [Gy] at h
   split at h
   ·rename_i hc
    simp only [Bool.and_eq_true] at hc
    simp only [Option.bind_eq_some_iff] at h
    obtain ⟨s, hs, e⟩ := h
    cases e
    exact .reg (compS_ok hs) (oneDst_ok hc.1) (guardV_ok hc.2)
   ·cases h
 | seq a b iha ihb =>
  intro r h
  simp only [Gy, Option.bind_eq_some_iff] at h
  obtain ⟨a', ha, b', hb, e⟩ := h
  cases e; exact .seq (iha ha) (ihb hb)
 | cond c a b iha ihb =>
  intro r h
  simp only [Gy, Option.bind_eq_some_iff] at h
  obtain ⟨c', hc, a', ha, b', hb, e⟩ := h
  cases e; exact .cond hc (iha ha) (ihb hb)
 | block id c ih =>
  intro r h
  simp only [Gy, Option.bind_eq_some_iff] at h
  obtain ⟨c', hc, e⟩ := h
  cases e; exact .block (ih hc)
 | loop c ih =>
  intro r h
  simp only [Gy, Option.bind_eq_some_iff] at h
  obtain ⟨c', hc, e⟩ := h
  cases e; exact .loop (ih hc)
 | exit id => intro r h; cases h; exact .exit
 | ret => intro r h; cases h; exact .ret
 | rangeFunc f ps a b iha ihb =>
  intro r h
  simp only [Gy, Option.bind_eq_some_iff] at h
  obtain ⟨f', hf, a', ha, b', hb, e⟩ := h
  split at e
  ·rename_i hps
   cases e; exact .rangeF hf (fun t ht => by simpa using List.all_eq_true.1 hps t ht) (iha ha) (ihb hb)
  ·cases e
 | _ => intro r h; cases h
def Ai7 (P : Program) : ResultVar → Option RRes
 | .tmp t => some (.tmp t)
 | .cell t T => match Lu P T with
  | some true => (szP P T).bind fun sz => some (.cellA t sz)
  | some false => some (.cell1 t)
  | none => none
theorem compR_ok {x : ResultVar} {y : RRes} (h : Ai7 P x = some y) : CmpR P x y := by
 cases x with
 | tmp t => cases h; exact .tmp
 | cell t T =>
  simp only [Ai7] at h
  split at h
  ·rename_i ha
   simp only [Option.bind_eq_some_iff] at h
   obtain ⟨sz, hs, e⟩ := h
   cases e; exact .cellA ha hs
  ·rename_i ha; cases h; exact .cell1 ha
  ·cases h
def U2 (P : Program) : List ResultVar → Option (List RRes)
 | [] => some []
 | x :: l => (Ai7 P x).bind fun y => (U2 P l).bind fun m => some (y :: m)
theorem compRs_ok : ∀ {l : List ResultVar} {m : List RRes}, U2 P l = some m → CmpRs P l m
 | [], m, h => by cases h; exact .nil
 | x :: l, m, h => by
  simp only [U2, Option.bind_eq_some_iff] at h
  obtain ⟨y, hy, m', hm, e⟩ := h
  cases e; exact .cons (compR_ok hy) (compRs_ok hm)
structure RFun where
 nt : Nat
 V : List Nat
 body : RCode
 res : List RRes
def Aj (P : Program) (V Q : List Nat) (f : FuncId) : Option RFun :=
 if Xo P f = true then
  (P.funcs[f]?).bind fun fn => fn.body.bind fun c => (Gy P fn.ntmps V Q c).bind fun r => (U2 P fn.results.toList).bind fun res => some ⟨fn.ntmps, V, r, res⟩
 else none
def Cx.fn (P : Program) (f : FuncId) (nt : Nat) (w0 : World) (F : List Nat) (M0 : Aa) (Φ : Value → Aa → Own → Prop) : Cx P where
 b := { (default : Frame) with fn := f, kind := .normal, roundOf := none }
 T := fun cs m => ∃ e w' fr, (∃ v, e = Ending.returned v ∧ ∃ M' G', EV.St w0 F M0 M' G' w' ∧ Φ v M' G') ∧ Comes P m (lone fr cs w') e ∧ fr.fn = f ∧ fr.leaving P w' e
 back := by
  rintro cs m m' hs ⟨e, w', fr, h1, h2, h3, h4⟩
  exact ⟨e, w', fr, h1, Comes.of_steps (.one hs) h2, h3, h4⟩
 nt := nt
 ds := []
 w0 := w0
 F := F
 M0 := M0
def A3 : Nat → List Value → Env
 | _, [] => []
 | i, v :: l => (i, v) :: A3 (i + 1) l
theorem Ab2 {l : List Value} : ∀ {i t : Nat} {v : Value}, get (A3 i l) t = some v → i ≤ t ∧ l[t - i]? = some v := by
 induction l with
 | nil => intro i t v h; simp [A3, get] at h
 | cons u l ih =>
  intro i t v h
  simp only [A3, get] at h
  split at h
  ·rename_i e; subst e; cases h; simp
  ·rename_i e
   obtain ⟨h1, h2⟩ := ih h
   refine ⟨by omega, ?_⟩
   have : t - i = (t - (i + 1)) + 1 := by omega
   rw [this]; simpa using h2
theorem Con.enter {f : FuncId} {V Q : List Nat} {R : RFun} (hR : Aj P V Q f = some R) {args : List Value} (hlen : args.length ≤ R.nt) {M : Aa} {G : Own} {Φ : Value → Aa → Own → Prop}
  (h : ∀ w0, EV (Cx.fn P f R.nt w0 (G.map (·.1)) M Φ) R.V [.code R.body] (A3 0 args) M G) : Con P f args.toArray M G Φ := by
 unfold Aj at hR
 split at hR
 ·rename_i hgo
  simp only [Option.bind_eq_some_iff] at hR
  obtain ⟨fn, hfn, c, hc, r, hr, res, hres, e⟩ := hR
  cases e
  refine ⟨hgo, ?_⟩
  intro w hs cs
  have hE := h w [.code c] (.cons (.code (compC_ok hr)) .nil) { tmps := args.toArray ++ Array.replicate (fn.ntmps - args.toArray.size) undef, defers := [] } w
  have hfit : Ee fn.ntmps (A3 0 args) { tmps := args.toArray ++ Array.replicate (fn.ntmps - args.toArray.size) undef, defers := [] } := by
   refine ⟨?_, ?_⟩
   ·simp only [Array.size_append, Array.size_replicate, List.size_toArray]
    dsimp only at hlen
    omega
   ·intro t v ht
    obtain ⟨_, h2⟩ := Ab2 ht
    simp only [Nat.sub_zero] at h2
    obtain ⟨hlt, _⟩ := List.getElem?_eq_some_iff.1 h2
    rw [Array.getElem?_append_left (by simpa using hlt)]
    simpa using h2
  have := hE hfit rfl hs cs
  have hframe : Frame.enter P f args.toArray .normal = (Cx.fn P f fn.ntmps w (G.map (·.1)) M Φ).b.atR { tmps := args.toArray ++ Array.replicate (fn.ntmps - args.toArray.size) undef, defers := [] } [.code c] := by
   simp only [Frame.enter, Frame.atR, Cx.fn, hfn, Option.map_some, Option.getD_some, Option.bind_some, hc]
  rw [hframe]
  exact this
 ·cases hR
section
variable {f : FuncId} {w0 : World} {F : List Nat} {M0 M : Aa} {G : Own} {Φ : Value → Aa → Own → Prop} {V Q : List Nat} {k : List RItem} {ρ : Env}
def Au3 (R : RFun) (ρ : Env) (M : Aa) (G : Own) (Φ : Value → Aa → Own → Prop) : Prop := Z6 ρ (M.add G) R.res fun vs => Φ (Au8 vs) M G
theorem EV.ret {R : RFun} (hR : Aj P V Q f = some R) (h : Au3 R ρ M G Φ) : EV (Cx.fn P f R.nt w0 F M0 Φ) R.V (.code .ret :: k) ρ M G := by
 unfold Aj at hR
 split at hR
 ·rename_i hgo
  simp only [Option.bind_eq_some_iff] at hR
  obtain ⟨fn, hfn, c, hc, r, hr, res, hres, e⟩ := hR
  cases e
  intro k' hk a w hf hd hs cs
  cases hk with
  | cons hx hk => cases hx with
   | code hc => cases hc with
    | ret =>
     obtain ⟨v, hv, hΦ⟩ := Gc (P := P) (fn := fn) (Q := fun v => Φ v M G) hf (fun b o hb => hs.agreeAdd hb) (compRs_ok hres) h
     refine ⟨.returned v, w, { (Cx.fn P f fn.ntmps w0 F M0 Φ).b.atR a (.code .ret :: _) with mode := .returning }, ⟨v, rfl, M, G, hs, hΦ⟩, .one (stepR_ret rfl), rfl, ?_⟩
     exact ⟨rfl, hd, rfl, fn, hfn, hv⟩
 ·cases hR
theorem EV.done {R : RFun} (hR : Aj P V Q f = some R) (h : Au3 R ρ M G Φ) : EV (Cx.fn P f R.nt w0 F M0 Φ) R.V [] ρ M G := by
 unfold Aj at hR
 split at hR
 ·rename_i hgo
  simp only [Option.bind_eq_some_iff] at hR
  obtain ⟨fn, hfn, c, hc, r, hr, res, hres, e⟩ := hR
  cases e
  intro k' hk a w hf hd hs cs
  cases hk with
  | nil =>
   obtain ⟨v, hv, hΦ⟩ := Gc (P := P) (fn := fn) (Q := fun v => Φ v M G) hf (fun b o hb => hs.agreeAdd hb) (compRs_ok hres) h
   refine ⟨.returned v, w, { (Cx.fn P f fn.ntmps w0 F M0 Φ).b.atR a [] with mode := .returning }, ⟨v, rfl, M, G, hs, hΦ⟩, .one (stepR_end rfl), rfl, ?_⟩
   exact ⟨rfl, hd, rfl, fn, hfn, hv⟩
 ·cases hR
end
end Go.EV

namespace Go.EV
theorem As (i : Nat) : get [] i = none := rfl
theorem Al (j : Nat) (v : Value) (ρ : Env) (i : Nat) : get ((j, v) :: ρ) i = if i = j then some v else get ρ i := rfl
theorem Au (ρ : Env) : Td [] ρ = [] := rfl
theorem Am (i : Nat) (V : List Nat) (ρ : Env) : Td (i :: V) ρ = match get ρ i with | some v => (i, v) :: Td V ρ | none => Td V ρ := rfl
attribute [push_cast] U0 qW opW Ch Aa1 ev evs evp evo As Al Au Am putE A3 Au5 Cn3 shV Cn4 Th Cm3 sl? Nx Im Aa2 Cm4 fn? Ny Gx eqL Oo Value.cells Aa3 Ht Xp Fo Z6 Au8 Au3
 List.length_cons List.length_nil List.getElem?_cons_zero List.getElem?_cons_succ List.take_succ_cons List.take_zero List.drop_succ_cons List.drop_zero List.nil_append List.cons_append List.take_nil List.drop_nil List.replicate_succ List.replicate_zero List.flatten_cons List.flatten_nil
attribute [push_cast] List.set_cons_zero List.set_cons_succ or_self or_false false_or and_self true_and and_true Nat.zero_add Nat.mul_one Nat.add_zero Bool.false_xor Bool.true_xor if_true if_false Int.toNat_natCast Int.cast_ofNat_Int Int.toNat_zero ne_eq not_true_eq_false not_false_eq_true Value.oneCell' List.size_toArray List.append_assoc List.append_nil Array.append_empty Array.empty_append Nat.le_refl exists_eq_left exists_and_left Nat.zero_le Nat.sub_zero
end Go.EV

namespace Go.EV
variable {P : Program}
theorem w64 {x : Int} (h1 : -9223372036854775808 ≤ x) (h2 : x < 9223372036854775808) : IntKind.i64.wrap x = x := by
 have e : (2 : Int) ^ IntKind.i64.bits = 18446744073709551616 := rfl
 have e2 : (2 : Int) ^ (IntKind.i64.bits - 1) = 9223372036854775808 := rfl
 have e3 : IntKind.i64.signed = true := rfl
 simp only [IntKind.wrap, e, e2, e3, Bool.true_and, decide_eq_true_eq]
 split <;> omega
theorem C7 : ok1 [] ↔ True := by simp [ok1]
theorem B6 (v : Value) (l : List Value) : ok1 (v :: l) ↔ v.oneCell' = true ∧ ok1 l := by simp [ok1]
theorem Wj {ρ : Env} {t : Nat} {v : Value} (h : get ρ t = some v) : (t, v) ∈ ρ := by
 induction ρ with
 | nil => simp [get] at h
 | cons p ρ ih =>
  obtain ⟨j, u⟩ := p
  simp only [get] at h
  split at h
  ·rename_i e; subst e; cases h; simp
  ·exact List.mem_cons_of_mem _ (ih h)
section
variable {C : Cx P} {V : List Nat} {k : List RItem} {ρ ρ' : Env} {M : Aa} {G G' : Own}
theorem EV.to (h : EV C V k ρ' M G') (hρ : ∀ p ∈ ρ', get ρ p.1 = some p.2) (hG : G'.Sublist G) : EV C V k ρ M G :=
 h.weaken (fun t v ht => hρ (t, v) (Wj ht)) hG
theorem Ae4 {b off n : Nat} {T : TypeId} {cs : List Value} (i : Nat) (h : G[i]? = some (b, Cl T cs)) (hl : off + n ≤ cs.length) : rd (M.add G) b off n ((cs.drop off).take n) :=
 ⟨cs.toArray, T, (0, 0), .inr (List.mem_of_getElem? h), by simpa using hl, by simp⟩
theorem An {b off n : Nat} {T : TypeId} {cs out : List Value} (i : Nat) (h : G[i]? = some (b, Cl T cs)) (e : (cs.drop off).take n = out) (hl : off + n ≤ cs.length) : rd (M.add G) b off n out :=
 e ▸ Ae4 i h hl
theorem Ai8 {b off n : Nat} {cs : List Value} (h : rd M b off n cs) : rd (M.add G) b off n cs := h.mono (Aa.le_add _ _)
theorem Yb {sz n : Nat} {a : Option Addr} {cs : List Value} (h : rdS M sz a n cs) : rdS (M.add G) sz a n cs :=
 h.imp id fun ⟨b, off, e, h⟩ => ⟨b, off, e, Ai8 h⟩
theorem rdS.mono {H H' : Aa} (h : H.le H') {sz n : Nat} {a : Option Addr} {cs : List Value} (k : rdS H sz a n cs) : rdS H' sz a n cs :=
 k.imp id fun ⟨b, off, e, k⟩ => ⟨b, off, e, k.mono h⟩
theorem rd.part {H : Aa} {b off n i m : Nat} {cs : List Value} (h : rd H b off n cs) (hm : i + m ≤ n) : rd H b (off + i) m ((cs.drop i).take m) := by
 obtain ⟨c, T, fz, h1, h2, h3⟩ := h
 refine ⟨c, T, fz, h1, by omega, ?_⟩
 rw [h3, List.drop_take, List.drop_drop, List.take_take, Nat.min_eq_left (by omega)]
end
def Sl {α : Type} (H : Aa) (sz : Nat) (enc : α → List Value) (v : Value) (xs : List α) : Prop :=
 ∃ a c, v = .slice a xs.length c ∧ rdS H sz a xs.length (xs.flatMap enc)
theorem Ki {α : Type} {sz : Nat} {enc : α → List Value} (henc : ∀ x, (enc x).length = sz) : ∀ {xs : List α} {i : Nat} (h : i < xs.length), ((xs.flatMap enc).drop (i * sz)).take sz = enc xs[i]
 | x :: xs, 0, _ => by simp [List.flatMap_cons, ← henc x]
 | x :: xs, i + 1, h => by
  have h' : i < xs.length := by simpa using h
  have := Ki henc h'
  simp only [List.flatMap_cons, List.getElem_cons_succ]
  rw [← this, List.drop_append, List.drop_eq_nil_of_le (by rw [henc, Nat.succ_mul]; omega), List.nil_append, henc, Nat.succ_mul, Nat.add_sub_cancel]
theorem Ff {α : Type} {sz : Nat} {enc : α → List Value} (henc : ∀ x, (enc x).length = sz) : ∀ (xs : List α), (xs.flatMap enc).length = xs.length * sz
 | [] => by simp
 | x :: xs => by simp [List.flatMap_cons, Ff henc xs, henc, Nat.succ_mul, Nat.add_comm]
theorem Sl.at {α : Type} {H : Aa} {sz : Nat} {enc : α → List Value} (henc : ∀ x, (enc x).length = sz) (hpos : 0 < sz) {a : Option Addr} {xs : List α} (h : rdS H sz a xs.length (xs.flatMap enc)) (hn : 0 < xs.length) :
  ∃ b off, a = some ⟨b, off, none⟩ ∧ ∀ i (hi : i < xs.length), rd H b (off + i * sz) sz (enc xs[i]) := by
 rcases h with ⟨h0, _⟩ | ⟨b, off, e, h⟩
 ·exfalso
  rcases Nat.mul_eq_zero.1 h0 with h0 | h0
  ·rw [h0] at hn; exact absurd hn (by simp)
  ·omega
 ·refine ⟨b, off, e, fun i hi => ?_⟩
  have := h.part (i := i * sz) (m := sz) (by
   have : (i + 1) * sz ≤ xs.length * sz := Nat.mul_le_mul_right _ hi
   rw [Nat.succ_mul] at this; exact this)
  rwa [Ki henc hi] at this
theorem Sl.mono {α : Type} {H H' : Aa} (hh : H.le H') {sz : Nat} {enc : α → List Value} {v : Value} {xs : List α} (h : Sl H sz enc v xs) : Sl H' sz enc v xs :=
 let ⟨a, c, e, h⟩ := h; ⟨a, c, e, h.mono hh⟩
def Gw {α : Type} (H : Aa) (sz : Nat) (enc : α → List Value) (v : Value) (xss : List (List α)) : Prop :=
 ∃ a c vs, v = .slice a xss.length c ∧ vs.length = xss.length ∧ rdS H 1 a xss.length vs ∧ ∀ i (h : i < vs.length) (h' : i < xss.length), Sl H sz enc vs[i] xss[i]
theorem Gw.mono {α : Type} {H H' : Aa} (hh : H.le H') {sz : Nat} {enc : α → List Value} {v : Value} {xss : List (List α)} (h : Gw H sz enc v xss) : Gw H' sz enc v xss :=
 let ⟨a, c, vs, e, hl, h, k⟩ := h; ⟨a, c, vs, e, hl, h.mono hh, fun i h h' => (k i h h').mono hh⟩
theorem Ic (vs : List Value) : vs.flatMap (fun v => [v]) = vs := by simp [List.flatMap_singleton']
theorem Gw.at {α : Type} {H : Aa} {sz : Nat} {enc : α → List Value} {a : Option Addr} {vs : List Value} {xss : List (List α)} (h : rdS H 1 a xss.length vs) (hl : vs.length = xss.length) (hk : ∀ i (h : i < vs.length) (h' : i < xss.length), Sl H sz enc vs[i] xss[i]) (hn : 0 < xss.length) :
  ∃ b off, a = some ⟨b, off, none⟩ ∧ ∀ i (hi : i < xss.length), ∃ a' c', rd H b (off + i * 1) 1 [.slice a' xss[i].length c'] ∧ rdS H sz a' xss[i].length (xss[i].flatMap enc) := by
 have h1 : rdS H 1 a vs.length (vs.flatMap fun v => [v]) := by rw [Ic, hl]; exact h
 obtain ⟨b, off, e, hr⟩ := Sl.at (sz := 1) (enc := fun v => [v]) (fun _ => rfl) (by omega) h1 (by omega)
 refine ⟨b, off, e, fun i hi => ?_⟩
 have hr' := hr i (by omega)
 obtain ⟨a', c', e', h'⟩ := hk i (by omega) hi
 rw [e'] at hr'
 exact ⟨a', c', hr', h'⟩
attribute [push_cast] C7 B6
theorem Av2 {M : Aa} {G : Own} {b off n : Nat} {T : TypeId} {cs : List Value} (h : (b, Cl T cs) ∈ G) (hl : off + n ≤ cs.length) : rd (M.add G) b off n ((cs.drop off).take n) := by
 obtain ⟨i, hi⟩ := List.mem_iff_getElem?.1 h
 exact Ae4 i hi hl
theorem Bz {M : Aa} {G : Own} {b off n : Nat} {T : TypeId} {cs out : List Value} (h : (b, Cl T cs) ∈ G) (e : (cs.drop off).take n = out) (hl : off + n ≤ cs.length) : rd (M.add G) b off n out := e ▸ Av2 h hl
theorem D7 {M : Aa} {G : Own} {sz n : Nat} {T : TypeId} {ov : Vec} {xs : List Value} (hok : E7 sz ov n xs) (hM : ∀ p ∈ osg T ov xs, p ∈ G) : rdS (M.add G) sz (oad ov) n xs := by
 cases ov with
 | none =>
  obtain ⟨rfl, rfl⟩ := hok
  exact .inl ⟨by simp, rfl⟩
 | some p =>
  obtain ⟨b, cap, sp⟩ := p
  obtain ⟨h1, h2, h3, h4⟩ := hok
  refine .inr ⟨b, 0, rfl, (xs ++ sp).toArray, T, (0, 0), .inr (hM _ (by simp [osg])), ?_, ?_⟩
  ·simp at h2 ⊢; omega
  ·simp [← h1]
def cat {α : Type} : List (List α) → List α
 | [] => []
 | [x] => x
 | x :: y :: l => x ++ cat (y :: l)
theorem U3 {α : Type} (x : List α) : ∀ l : List (List α), cat (x :: l) = x ++ cat l
 | [] => by simp [cat]
 | _ :: _ => rfl
theorem B7 {α : Type} : ∀ (l : List (List α)) (i : Nat) (h : i < l.length), (cat l).Perm (l[i] ++ cat (l.eraseIdx i))
 | x :: l, 0, _ => by simp [U3]
 | x :: l, i + 1, h => by
  have := B7 l i (by simpa using h)
  simp only [U3, List.getElem_cons_succ, List.eraseIdx_cons_succ]
  refine (List.Perm.append_left x this).trans ?_
  rw [← List.append_assoc, ← List.append_assoc]
  exact List.Perm.append_right _ List.perm_append_comm
theorem Dt {α : Type} : cat ([] : List (List α)) = [] := rfl
theorem Dv {α : Type} (x : List α) : cat [x] = x := rfl
theorem Dw {α : Type} (x y : List α) (l : List (List α)) : cat (x :: y :: l) = x ++ cat (y :: l) := rfl
theorem Px.mk {c want : Bool} {A : (Bool → Prop) → Prop} {K : Bool → Prop} (e : Bool) (h : c = want → A fun u => u = e) (hk : K (if want then c && e else c || e)) : Px c want A K := ⟨e, h, hk⟩
theorem Az.intro {c want : Bool} {M : Aa} {G : Own} {A : (Bool → Aa → Own → Prop) → Prop} {K : Bool → Aa → Own → Prop} (h : c = want → A K) (h2 : c ≠ want → K c M G) : Az c want M G A K := ⟨h, h2⟩
theorem Ba {G G' : Own} (h : G.Sublist G') : ∀ p, p ∈ G → p ∈ G' := fun _ hp => h.subset hp
theorem Yc {ρ : Env} {t : Nat} {x y : Int} (h : get ρ t = some (.int .i64 (IntKind.i64.wrap x))) (e : x = y) (h1 : -9223372036854775808 ≤ y) (h2 : y < 9223372036854775808) : get ρ t = some (.int .i64 y) := by
 subst e; rw [h, w64 h1 h2]
class At (G : Own) (b : Nat) (T : outParam TypeId) (cs : outParam (List Value)) : Prop where
 mem : (b, Cl T cs) ∈ G
instance At.here {G : Own} {b : Nat} {T : TypeId} {cs : List Value} : At ((b, Cl T cs) :: G) b T cs := ⟨List.mem_cons_self ..⟩
instance (priority := low) At.there {G : Own} {p : Nat × Obj} {b : Nat} {T : TypeId} {cs : List Value} [h : At G b T cs] : At (p :: G) b T cs := ⟨List.mem_cons_of_mem _ h.mem⟩
class Split (G : Own) (b : Nat) (T : outParam TypeId) (cs : outParam (List Value)) (Ga Gb : outParam Own) : Prop where
 eq : G = Ga ++ (b, Cl T cs) :: Gb
instance Split.here {G : Own} {b : Nat} {T : TypeId} {cs : List Value} : Split ((b, Cl T cs) :: G) b T cs [] G := ⟨rfl⟩
instance (priority := low) Split.there {G : Own} {p : Nat × Obj} {b : Nat} {T : TypeId} {cs : List Value} {Ga Gb : Own} [h : Split G b T cs Ga Gb] : Split (p :: G) b T cs (p :: Ga) Gb := ⟨by rw [h.eq]; rfl⟩
theorem xr {M : Aa} {G : Own} {b off n : Nat} {T : TypeId} {cs out : List Value} {K : List Value → Prop} [h : At G b T cs] (e : (cs.drop off).take n = out) (hl : off + n ≤ cs.length) (k : K out) : ∃ cs, rd (M.add G) b off n cs ∧ K cs := ⟨out, Bz h.mem e hl, k⟩
theorem xi {M : Aa} {G : Own} {b off : Nat} {T : TypeId} {cs : List Value} {α : Type} {f : α → Value} {x : α} {K : α → Prop} [h : At G b T cs] (e : (cs.drop off).take 1 = [f x]) (hl : off + 1 ≤ cs.length) (k : K x) : ∃ n, rd (M.add G) b off 1 [f n] ∧ K n := ⟨x, Bz h.mem e hl, k⟩
theorem xs {M : Aa} {G : Own} {b off : Nat} {T : TypeId} {cs : List Value} {a : Option Addr} {n c : Nat} {K : Option Addr → Nat → Nat → Prop} [h : At G b T cs] (e : (cs.drop off).take 1 = [.slice a n c]) (hl : off + 1 ≤ cs.length) (k : K a n c) : ∃ a n c, rd (M.add G) b off 1 [.slice a n c] ∧ K a n c := ⟨a, n, c, Bz h.mem e hl, k⟩
theorem xw {G Ga Gb : Own} {b : Nat} {T : TypeId} {cs : List Value} {K : TypeId → List Value → Own → Own → Prop} [h : Split G b T cs Ga Gb] (k : K T cs Ga Gb) : ∃ T cs Ga Gb, G = Ga ++ (b, Cl T cs) :: Gb ∧ K T cs Ga Gb := ⟨T, cs, Ga, Gb, h.eq, k⟩
theorem nx {A B : Prop} (h : B) (e : A = B := by simp only [wpS, wpA, Lc, push_cast, Int.cast_ofNat_Int, reduceIte, Nat.reduceEqDiff, reduceCtorEq, Nat.reduceAdd, Nat.reduceSub, Nat.reduceMul, Int.reduceToNat, Nat.reduceLeDiff]; exact rfl) : A := Eq.mpr e h
theorem nz {A B : Prop} (h : B) (e : A = B := by simp only [push_cast, Int.cast_ofNat_Int, reduceIte, Nat.reduceEqDiff, reduceCtorEq, Nat.reduceAdd, Nat.reduceSub, Nat.reduceMul, Int.reduceToNat, Nat.reduceLeDiff]; exact rfl) : A := Eq.mpr e h
theorem Ah {A B : Prop} (h : A) (e : A → False := by intro h; first | exact h | exact h True.intro | omega | (simp only [not_true_eq_false, false_or, or_false] at h; omega)) : B := (e h).elim
theorem EV.condX {C : Cx P} {V : List Nat} {k : List RItem} {ρ : Env} {M : Aa} {G : Own} {c : A} {b : Bool} {x y : RCode} {p q : Prop} (hc : ev ρ c = some (.bool b)) (h1 : p → EV C V (.code x :: k) ρ M G) (h2 : q → EV C V (.code y :: k) ρ M G)
  (e1 : (b = true) = p := by first | (simp only [reduceCtorEq, reduceIte, if_true, if_false, Bool.not_eq_true', Bool.not_eq_false', decide_eq_true_eq, decide_eq_false_iff_not, Bool.and_eq_true, Bool.or_eq_true, Bool.and_eq_false_iff, Bool.or_eq_false_iff, false_and, and_false, true_and, and_true, false_or, or_false, true_or, or_true]; exact rfl) | exact rfl)
  (e2 : (b = false) = q := by first | (simp only [reduceCtorEq, reduceIte, if_true, if_false, Bool.not_eq_true', Bool.not_eq_false', decide_eq_true_eq, decide_eq_false_iff_not, Bool.and_eq_true, Bool.or_eq_true, Bool.and_eq_false_iff, Bool.or_eq_false_iff, false_and, and_false, true_and, and_true, false_or, or_false, true_or, or_true]; exact rfl) | exact rfl) : EV C V (.code (.cond c x y) :: k) ρ M G :=
 EV.cond hc (fun h => h1 (e1 ▸ h)) (fun h => h2 (e2 ▸ h))
theorem xrA {M : Aa} {G : Own} {b off n : Nat} {T : TypeId} {cs out : List Value} {K : List Value → Prop} [h : At G b T cs] (e : (cs.drop off).take n = out) (k : K out) (hl : off + n ≤ cs.length := by simp only [List.length_cons, List.length_nil]; omega) : ∃ cs, rd (M.add G) b off n cs ∧ K cs := xr e hl k
theorem xiA {M : Aa} {G : Own} {b off : Nat} {T : TypeId} {cs : List Value} {α : Type} {f : α → Value} {x : α} {K : α → Prop} [h : At G b T cs] (e : (cs.drop off).take 1 = [f x]) (k : K x) (hl : off + 1 ≤ cs.length := by simp only [List.length_cons, List.length_nil]; omega) : ∃ n, rd (M.add G) b off 1 [f n] ∧ K n := xi e hl k
theorem xsA {M : Aa} {G : Own} {b off : Nat} {T : TypeId} {cs : List Value} {a : Option Addr} {n c : Nat} {K : Option Addr → Nat → Nat → Prop} [h : At G b T cs] (e : (cs.drop off).take 1 = [.slice a n c]) (k : K a n c) (hl : off + 1 ≤ cs.length := by simp only [List.length_cons, List.length_nil]; omega) : ∃ a n c, rd (M.add G) b off 1 [.slice a n c] ∧ K a n c := xs e hl k
end Go.EV

namespace Go.EV
def Qq (A B : Prop) : Prop := A = B
theorem qqr {A : Prop} : Qq A A := rfl
theorem rg {P : Program} {C : Cx P} {V : List Nat} {k : List RItem} {ρ : Env} {M : Aa} {G : Own} {sts : Sts} {B : Prop} (h : B) (e : Qq (wpS C sts (Td V ρ) M G (fun ρ' M' G' => EV C V k ρ' M' G')) B := by (conv => (arg 1; arg 2; whnf)); simp only [wpS, wpA, Lc, push_cast, Int.cast_ofNat_Int, reduceIte, Nat.reduceEqDiff, reduceCtorEq, Nat.reduceAdd, Nat.reduceSub, Nat.reduceMul, Int.reduceToNat, Nat.reduceLeDiff]; exact qqr) : EV C V (.code (.reg sts) :: k) ρ M G := EV.reg (Eq.mpr e h)
theorem rt {P : Program} {f : Nat} {Q : List Nat} {w0 : World} {F : List Nat} {M0 : Aa} {k : List RItem} {ρ : Env} {M : Aa} {G : Own} {Φ : Value → Aa → Own → Prop} {R : RFun} {B : Prop} {V : List Nat} (hR : Aj P V Q f = some R) (h : B) (e : Qq (Au3 R ρ M G Φ) B := by (conv => (arg 1; arg 1; whnf)); simp only [wpS, wpA, Lc, push_cast, Int.cast_ofNat_Int, reduceIte, Nat.reduceEqDiff, reduceCtorEq, Nat.reduceAdd, Nat.reduceSub, Nat.reduceMul, Int.reduceToNat, Nat.reduceLeDiff]; exact qqr) : EV (Cx.fn P f R.nt w0 F M0 Φ) R.V (.code .ret :: k) ρ M G := EV.ret hR (Eq.mpr e h)
theorem cX {P : Program} {C : Cx P} {V : List Nat} {k : List RItem} {ρ : Env} {M : Aa} {G : Own} {c : A} {b : Bool} {x y : RCode} {p q : Prop} (h1 : p → EV C V (.code x :: k) ρ M G) (h2 : q → EV C V (.code y :: k) ρ M G) (hc : ev ρ c = some (.bool b) := by rfl)
 (e1 : (b = true) = p := by first | (simp only [reduceCtorEq, reduceIte, if_true, if_false, Bool.not_eq_true', Bool.not_eq_false', decide_eq_true_eq, decide_eq_false_iff_not, Bool.and_eq_true, Bool.or_eq_true, Bool.and_eq_false_iff, Bool.or_eq_false_iff, false_and, and_false, true_and, and_true, false_or, or_false, true_or, or_true]; exact rfl) | exact rfl)
 (e2 : (b = false) = q := by first | (simp only [reduceCtorEq, reduceIte, if_true, if_false, Bool.not_eq_true', Bool.not_eq_false', decide_eq_true_eq, decide_eq_false_iff_not, Bool.and_eq_true, Bool.or_eq_true, Bool.and_eq_false_iff, Bool.or_eq_false_iff, false_and, and_false, true_and, and_true, false_or, or_false, true_or, or_true]; exact rfl) | exact rfl) : EV C V (.code (.cond c x y) :: k) ρ M G :=
 EV.cond hc (fun h => h1 (e1 ▸ h)) (fun h => h2 (e2 ▸ h))
theorem xm {α : Type} {M : Aa} {G : Own} {b o m : Nat} {f : α → List Value} {x : α} {K : α → Prop} (k : K x) (h : rd M b o m (f x) := by assumption) : ∃ n, rd (M.add G) b o m (f n) ∧ K n := ⟨x, Ai8 h, k⟩
theorem xn {M : Aa} {G : Own} {b o m n c : Nat} {a : Option Addr} {K : Option Addr → Nat → Nat → Prop} (k : K a n c) (h : rd M b o m [.slice a n c] := by assumption) : ∃ a n c, rd (M.add G) b o m [.slice a n c] ∧ K a n c := ⟨a, n, c, Ai8 h, k⟩
attribute [push_cast] Int.cast_ofNat_Int
theorem eE {P : Prop} (h : P := by (repeat' first | (refine List.forall_mem_cons.2 (And.intro ?_ ?_)) | (intro _ hnil; cases hnil; done) | rfl | (refine Yc rfl (by first | rfl | (push_cast; first | rfl | omega)) (by omega) (by omega); done))) : P := h
theorem eS {P : Prop} (h : P := by (repeat' first | exact List.Sublist.refl _ | exact List.nil_sublist _ | exact List.sublist_append_left _ _ | refine List.Sublist.cons_cons _ ?_ | refine List.Sublist.append_left ?_ _ | refine List.sublist_append_of_sublist_right ?_ | refine List.Sublist.cons _ ?_)) : P := h
end Go.EV

namespace Go.EV
open Go.Proofs

abbrev zA (d : Nat) (r : ROp) (k : Sts) : Sts := .op (some d) r k
abbrev zB (d n : Nat) (k : Sts) : Sts := .op (some d) (.mv (.t n)) k
abbrev zC (i d : Nat) (r : ROp) (k : QL) : QL := .op i (some d) r k
abbrev zD (i d n : Nat) (k : QL) : QL := .op i (some d) (.mv (.t n)) k
abbrev zE (i d : Nat) (r : ROp) (re : Bool) (k m : AT) : AT := .s i (some d) r re k m
abbrev zF (k : AT) : AT := .q .nil k
abbrev zG (d : Nat) (n : Int) (k : Sts) : Sts := .op (some d) (.mv (.c (.int .i64 n))) k
abbrev zH (k n d : Nat) : ROp := .iaddrS k (.t n) (.t d)
abbrev zI (k n : Nat) : ROp := .faddr k (.t n)
abbrev zJ (n : Nat) : ROp := .loadI .i64 (.t n)
abbrev zK (n : Nat) : ROp := .loadS (.t n)
abbrev zL (i d : Nat) (k : AT) : AT := .sk i (some d) k
abbrev zM (n : Nat) : ROp := .len (.t n)
abbrev zN (n : Nat) : A := .c (.int .i64 n)

def Cn9 : Sts := zA 2 (.box 24 (.t 0))<|zA 3 (.box 45 (.t 1))<|zA 4 (.mv (.c (.bool false)))<|.nil
def Co0 : Sts := zA 8 (.call 10 [])<|zA 9 (.notb (.t 8))<|.nil
def Co2 : Sts := zA 4 (.mv (.c (.bool false)))<|.nil
def Co3 : Sts := zA 11 (.loadA 1 (.t 2))<|zA 12 (.loadA 4 (.t 3))<|zA 13 (.call 25 [(.t 11), (.t 12)])<|zB 10 13<|zA 14 (.extract 0 (.t 10))<|zA 15 (.extract 1 (.t 10))<|zB 5 14<|zB 6 15<|.nil
def Co4 : Sts := zA 16 (.loadA 1 (.t 2))<|zA 17 (.call 13 [(.t 16)])<|zB 7 17<|.nil
def Co5 : Sts := zB 18 7<|zA 19 (.bin .neq (.t 18) (zN 0))<|.nil
def Co6 : Sts := zB 20 5<|zA 21 (.bin .eql (.t 20) (zN 0))<|zB 22 21<|.cnd 22 true (zB 23 6<|zB 24 7<|zA 25 (.bin .eql (.t 23) (.t 24))<|.nil) 26 (.t 25)<|zB 4 26<|.nil
def Co7 : Sts := zB 27 5<|zA 28 (.loadA 1 (.t 2))<|zA 29 (.loadA 4 (.t 3))<|zA 30 (.call 19 [(.t 28), (.t 29)])<|zA 31 (.bin .eql (.t 27) (.t 30))<|zB 32 31<|.cnd 32 true (zB 33 6<|zA 34 (.bin .eql (.t 33) (zN 0))<|.nil) 35 (.t 34)<|zB 4 35<|.nil
def Q58 : RFun := ⟨36, [0, 1, 2, 3, 4, 5, 6, 7], (.seq (.reg Cn9) (.seq (.seq (.reg Co0) (.cond (.t 9) (.seq (.reg Co2) .ret) .skip)) (.seq (.reg Co3) (.seq (.seq (.reg Co4) (.seq (.reg Co5) (.cond (.t 19) (.seq (.reg Co6) .ret) .skip))) (.seq (.reg Co7) .ret))))), [.tmp 4]⟩
theorem Q58_ok : Aj Tryz.prog [0, 1, 2, 3, 4, 5, 6, 7] [15, 20, 31, 71, 88, 41, 76, 86, 65, 83, 81, 114, 117, 119, 122, 68, 100, 103, 104, 105, 137, 138, 64, 72, 96, 99, 158, 159, 132, 56, 93, 94, 130, 131, 155, 62, 23, 170] 6 = some Q58 := by kernel_rfl

def Co8 : Sts := zA 0 (.mv (.c (.bool false)))<|.nil
def Co9 : Sts := zA 4 (.call 32 [])<|zA 5 (.call 11 [(.t 4)])<|zB 3 5<|zA 6 (.extract 0 (.t 3))<|zA 7 (.extract 1 (.t 3))<|zB 1 6<|zB 2 7<|.nil
def Cp0 : Sts := zB 8 1<|zA 9 (zM 8)<|zA 10 (.bin .eql (.t 9) (zN 4))<|zB 11 10<|.cnd 11 true (zB 12 1<|zA 13 (.iaddrS 1 (.t 12) (zN 0))<|zA 14 (zK 13)<|zA 15 (.buildSl 3 5 [(.int .i64 0), (.int .i64 0), (.int .i64 0), (.int .i64 0), (.int .i64 0)] [(0, 1, (zN 0)), (1, 1, (zN 0)), (2, 1, (zN 1)), (3, 1, (zN 1)), (4, 1, (zN 0))])<|zA 16 (.call 20 [(.t 14), (.t 15)])<|.nil) 17 (.t 16)<|zB 18 17<|.cnd 18 true (zB 19 2<|zA 20 (.bin .eql (.t 19) (zN 0))<|.nil) 21 (.t 20)<|zB 0 21<|.nil
def Q59 : RFun := ⟨22, [0, 1, 2], (.seq (.reg Co8) (.seq (.reg Co9) (.seq (.reg Cp0) .ret))), [.tmp 0]⟩
theorem Q59_ok : Aj Tryz.prog [0, 1, 2] [15, 20, 31, 71, 88, 41, 76, 86, 65, 83, 81, 114, 117, 119, 122, 68, 100, 103, 104, 105, 137, 138, 64, 72, 96, 99, 158, 159, 132, 56, 93, 94, 130, 131, 155, 62, 23, 170] 10 = some Q59 := by kernel_rfl

def Et3 : Sts := zA 1 (.box 24 (.t 0))<|zA 2 (.mv (.c (.slice none 0 0)))<|zG 3 0<|.nil
def Et4 : Sts := zA 9 (.loadA 1 (.t 1))<|zA 10 (.call 33 [(.t 9)])<|zB 8 10<|zA 11 (.extract 0 (.t 8))<|zA 12 (.extract 1 (.t 8))<|zA 4 (.alloc 74 [(.slice none 0 0)])<|.op none (.store 1 (.t 4) (.t 11))<|zB 5 12<|.nil
def Et5 : Sts := zB 13 5<|zA 14 (.bin .neq (.t 13) (zN 0))<|.nil
def Et6 : Sts := zB 15 5<|zA 2 (.mv (.c (.slice none 0 0)))<|zB 3 15<|.nil
def Et7 : Sts := zA 6 (.alloc 26 [(.slice none 0 0)])<|.nil
def Et8 : Sts := zA 16 (zK 4)<|zA 17 (.call 34 [(.t 16)])<|.nil
def Et9 : Sts := zA 7 (.alloc 45 [(.slice none 0 0), (.slice none 0 0), (.slice none 0 0), (.slice none 0 0)])<|.op none (.store 4 (.t 7) (.t 18))<|.nil
def Es8 : AT := .q (zC 0 19 (zK 6)<|zC 1 20 (zK 4)<|zC 2 21 (.loadA 4 (.t 7))<|.nil)<|zE 3 22 (.call 35 [(.t 20), (.t 21)]) false (zF<|zE 4 23 (.buildSl 34 1 [(.slice none 0 0)] [(0, 1, (.t 22))]) false (zF<|zE 5 24 (.append 34 1 24 [(.slice none 0 0)] (.t 19) (.t 23)) true (zF<|.s 6 none (.store 1 (.t 6) (.t 24)) true (zF<|.fin)<|.no)<|.no)<|.no)<|.no
def Eu0 : Sts := zA 25 (zK 6)<|zA 26 (zM 25)<|zA 27 (.bin .gtr (.t 26) (zN 4096))<|.nil
def Eu1 : Sts := zA 28 (zK 6)<|zA 29 (.call 36 [(.t 28)])<|.op none (.store 1 (.t 6) (.t 29))<|.nil
def H6 : RCode := (.reg Et9)
def H7 : RCode := (.block 1 (.seq (.any Es8) (.seq (.reg Eu0) (.cond (.t 27) (.reg Eu1) .skip))))
def Cp1 : Sts := zA 30 (zK 6)<|zA 31 (.call 36 [(.t 30)])<|zB 2 31<|zG 3 0<|.nil
def Q2 : RFun := ⟨32, [0, 1, 2, 3, 4, 5, 6, 7, 17, 18], (.seq (.reg Et3) (.seq (.reg Et4) (.seq (.seq (.reg Et5) (.cond (.t 14) (.seq (.reg Et6) .ret) .skip)) (.seq (.reg Et7) (.seq (.seq (.reg Et8) (.block 0 (.rangeF (.t 17) [18] H6 H7))) (.seq (.reg Cp1) .ret)))))), [.tmp 2, .tmp 3]⟩
theorem Q2_ok : Aj Tryz.prog [0, 1, 2, 3, 4, 5, 6, 7, 17, 18] [15, 20, 31, 71, 88, 41, 76, 86, 65, 83, 81, 114, 117, 119, 122, 68, 100, 103, 104, 105, 137, 138, 64, 72, 96, 99, 158, 159, 132, 56, 93, 94, 130, 131, 155, 62, 23, 170] 11 = some Q2 := by kernel_rfl

def Cp2 : Sts := zA 1 (.box 24 (.t 0))<|zG 2 0<|.nil
def Cp3 : Sts := zG 3 0<|.nil
def Cp4 : Sts := zG 4 0<|.nil
def Cp5 : Sts := zA 11 (.makeSl 3 1 8 [(.int .i64 0)] (zN 3) (zN 3))<|zB 5 11<|.nil
def Cp6 : Sts := zA 12 (zI 0 1)<|zA 13 (zK 12)<|zA 14 (zM 13)<|zA 15 (.bin .gtr (.t 14) (zN 0))<|zB 6 15<|.nil
def Cp7 : Sts := zG 7 0<|.nil
def Cp8 : Sts := zB 16 7<|zA 17 (zI 0 1)<|zA 18 (zK 17)<|zA 19 (zM 18)<|zA 20 (.bin .lss (.t 16) (.t 19))<|.nil
def Cp9 : Sts := zG 8 0<|.nil
def Cq0 : Sts := zB 23 8<|zA 24 (zI 0 1)<|zA 25 (zK 24)<|zB 26 7<|zA 27 (zH 1 25 26)<|zA 28 (zK 27)<|zA 29 (zM 28)<|zA 30 (.bin .lss (.t 23) (.t 29))<|.nil
def Cq1 : Sts := zA 33 (zI 0 1)<|zA 34 (zK 33)<|zB 35 7<|zA 36 (zH 1 34 35)<|zA 37 (zK 36)<|zB 38 8<|zA 39 (zH 5 37 38)<|zA 40 (.loadA 5 (.t 39))<|zA 9 (.alloc 83 [(.int .i64 0), (.int .i64 0), (.int .i64 0), (.int .i64 0), (.int .i64 0)])<|.op none (.store 5 (.t 9) (.t 40))<|.nil
def Av3 : Sts := zB 41 6<|zB 42 41<|.cnd 42 true (zA 43 (.loadA 5 (.t 9))<|zA 44 (.call 37 [(.t 43)])<|.nil) 45 (.t 44)<|zB 6 45<|.nil
def Av4 : Sts := zA 46 (zI 0 9)<|zA 47 (zJ 46)<|zA 48 (.bin .eql (.t 47) (zN 5))<|.nil
def Av5 : Sts := zB 49 4<|zA 50 (.bin .add (.t 49) (zN 1))<|zB 4 50<|.nil
def Av6 : Sts := zA 51 (.loadA 5 (.t 9))<|zA 52 (.call 38 [(.t 51)])<|zA 53 (.notb (.t 52))<|.nil
def Av7 : Sts := zB 54 3<|zA 55 (.bin .add (.t 54) (zN 1))<|zB 3 55<|.nil
def Av8 : Sts := zA 56 (zI 4 9)<|zA 57 (zJ 56)<|zA 58 (.bin .eql (.t 57) (zN 4))<|.nil
def Av9 : Sts := zB 59 4<|zA 60 (.bin .add (.t 59) (zN 2))<|zB 4 60<|.nil
def Aw0 : Sts := zA 61 (zI 0 9)<|zA 62 (zJ 61)<|zA 63 (.bin .gtr (.t 62) (zN 0))<|zB 64 63<|.cnd 64 true (zA 65 (zI 1 9)<|zA 66 (zJ 65)<|zA 67 (.bin .geq (.t 66) (zN 0))<|.nil) 68 (.t 67)<|zB 69 68<|.cnd 69 true (zA 70 (zI 1 9)<|zA 71 (zJ 70)<|zA 72 (.bin .lss (.t 71) (zN 3))<|.nil) 73 (.t 72)<|.nil
def Aw1 : AT := .q (zD 0 74 5<|zC 1 75 (zI 1 9)<|zC 2 76 (zJ 75)<|zD 3 77 5<|zC 4 78 (zI 1 9)<|zC 5 79 (zJ 78)<|zC 6 80 (zH 1 77 79)<|zC 7 81 (zJ 80)<|zC 8 82 (.bin .add (.t 81) (zN 1))<|zC 9 83 (zH 1 74 76)<|.nil)<|.s 10 none (.store 1 (.t 83) (.t 82)) true (zF<|.fin)<|.no
def Aw2 : Sts := zB 31 8<|zA 32 (.bin .add (.t 31) (zN 1))<|zB 8 32<|.nil
def Ai9 : RCode := (.seq (.seq (.reg Cq0) (.cond (.t 30) .skip (.exit 2))) (.seq (.block 3 (.seq (.reg Cq1) (.seq (.reg Av3) (.seq (.seq (.reg Av4) (.cond (.t 48) (.reg Av5) .skip)) (.seq (.seq (.reg Av6) (.cond (.t 53) (.exit 3) .skip)) (.seq (.reg Av7) (.seq (.seq (.reg Av8) (.cond (.t 58) (.reg Av9) .skip)) (.seq (.reg Aw0) (.cond (.t 73) (.any Aw1) .skip))))))))) (.reg Aw2)))
def Aw3 : Sts := zB 21 7<|zA 22 (.bin .add (.t 21) (zN 1))<|zB 7 22<|.nil
def Aj0 : RCode := (.seq (.seq (.reg Cp8) (.cond (.t 20) .skip (.exit 0))) (.seq (.block 1 (.seq (.reg Cp9) (.block 2 (.loop Ai9)))) (.reg Aw3)))
def Aw4 : Sts := zA 84 (zI 0 1)<|zA 85 (zK 84)<|zA 86 (zM 85)<|zA 87 (.bin .gtr (.t 86) (zN 3))<|zB 88 87<|.cnd 88 false (zB 89 3<|zA 90 (.bin .gtr (.t 89) (zN 6))<|.nil) 91 (.t 90)<|zB 92 91<|.cnd 92 false (zB 93 4<|zA 94 (.bin .gtr (.t 93) (zN 8))<|.nil) 95 (.t 94)<|.nil
def Aw5 : Sts := zG 2 2<|.nil
def Aw6 : Sts := zG 10 0<|.nil
def Aw7 : Sts := zB 96 10<|zB 97 5<|zA 98 (zM 97)<|zA 99 (.bin .lss (.t 96) (.t 98))<|.nil
def Aw8 : Sts := zB 102 5<|zB 103 10<|zA 104 (zH 1 102 103)<|zA 105 (zJ 104)<|zA 106 (.bin .gtr (.t 105) (zN 4))<|.nil
def Aw9 : Sts := zG 2 2<|.nil
def Ax0 : Sts := zB 100 10<|zA 101 (.bin .add (.t 100) (zN 1))<|zB 10 101<|.nil
def Aj1 : RCode := (.seq (.seq (.reg Aw7) (.cond (.t 99) .skip (.exit 4))) (.seq (.block 5 (.seq (.reg Aw8) (.cond (.t 106) (.seq (.reg Aw9) .ret) .skip))) (.reg Ax0)))
def Ax1 : Sts := zB 107 6<|zA 108 (.notb (.t 107))<|.nil
def Ax2 : Sts := zG 2 1<|.nil
def Ax3 : Sts := zG 2 0<|.nil
def Q65 : RFun := ⟨109, [0, 1, 2, 3, 4, 5, 6, 7, 8, 9, 10], (.seq (.reg Cp2) (.seq (.reg Cp3) (.seq (.reg Cp4) (.seq (.reg Cp5) (.seq (.reg Cp6) (.seq (.seq (.reg Cp7) (.block 0 (.loop Aj0))) (.seq (.seq (.reg Aw4) (.cond (.t 95) (.seq (.reg Aw5) .ret) .skip)) (.seq (.seq (.reg Aw6) (.block 4 (.loop Aj1))) (.seq (.seq (.reg Ax1) (.cond (.t 108) (.seq (.reg Ax2) .ret) .skip)) (.seq (.reg Ax3) .ret)))))))))), [.tmp 2]⟩
theorem Q65_ok : Aj Tryz.prog [0, 1, 2, 3, 4, 5, 6, 7, 8, 9, 10] [15, 20, 31, 71, 88, 41, 76, 86, 65, 83, 81, 114, 117, 119, 122, 68, 100, 103, 104, 105, 137, 138, 64, 72, 96, 99, 158, 159, 132, 56, 93, 94, 130, 131, 155, 62, 23, 170] 13 = some Q65 := by kernel_rfl

def Cq2 : Sts := zA 2 (.box 24 (.t 0))<|zA 3 (.box 37 (.t 1))<|zG 4 0<|.nil
def Cq3 : Sts := zA 12 (.loadA 1 (.t 2))<|zA 13 (.call 39 [(.t 12)])<|zB 5 13<|.nil
def Cq4 : Sts := zB 14 5<|zA 15 (.loadA 4 (.t 3))<|zA 16 (.call 42 [(.t 14), (.t 15)])<|zA 17 (.notb (.t 16))<|.nil
def Cq5 : Sts := zG 4 1<|.nil
def Cq6 : Sts := zB 19 5<|zA 20 (.loadA 4 (.t 3))<|zA 21 (.call 43 [(.t 19), (.t 20)])<|zB 18 21<|zA 22 (.extract 0 (.t 18))<|zA 23 (.extract 1 (.t 18))<|zA 24 (.extract 2 (.t 18))<|zB 6 22<|zB 7 23<|zB 8 24<|.nil
def Cq7 : Sts := zB 25 5<|zA 26 (.loadA 4 (.t 3))<|zB 27 6<|zB 28 8<|zA 29 (.call 44 [(.t 25), (.t 26), (.t 27), (.t 28)])<|zA 30 (.notb (.t 29))<|.nil
def Cq8 : Sts := zG 4 1<|.nil
def Cq9 : Sts := zB 32 5<|zA 33 (.loadA 4 (.t 3))<|zA 34 (.call 45 [(.t 32), (.t 33)])<|zB 31 34<|zA 35 (.extract 0 (.t 31))<|zA 36 (.extract 1 (.t 31))<|zA 37 (.extract 2 (.t 31))<|zB 9 35<|zB 10 36<|zB 11 37<|.nil
def Cr0 : Sts := zB 38 11<|zA 39 (.notb (.t 38))<|.nil
def Cr1 : Sts := zG 4 2<|.nil
def Ae5 : AT := .q (zD 0 40 5<|zD 2 42 5<|zC 3 43 (.loadA 4 (.t 3))<|zC 5 45 (.loadA 4 (.t 3))<|.nil)<|zE 1 41 (.call 49 [(.t 40)]) false (zF<|zE 4 44 (.call 50 [(.t 42), (.t 43)]) false (zF<|zE 6 46 (.call 51 [(.t 45)]) true (zF<|zE 7 47 (.call 48 [(.t 44), (.t 46)]) true (zF<|zE 8 48 (.call 48 [(.t 41), (.t 47)]) true (zF<|zE 9 49 (.call 47 [(.t 48)]) true (zF<|zE 10 50 (.call 46 [(.t 49)]) true (zF<|.fin)<|.no)<|.no)<|.no)<|.no)<|.no)<|.no)<|.no
def Ax4 : Sts := zG 4 2<|.nil
def Ae6 : AT := .q (zD 0 51 5<|zC 1 52 (.loadA 4 (.t 3))<|zD 3 54 5<|zC 4 55 (.loadA 4 (.t 3))<|.nil)<|zE 2 53 (.call 53 [(.t 51), (.t 52)]) false (zF<|zE 5 56 (.call 54 [(.t 54), (.t 55)]) true (zF<|zE 6 57 (.call 52 [(.t 53), (.t 56)]) true (zF<|.fin)<|.no)<|.no)<|.no
def Ax5 : Sts := zG 4 3<|.nil
def Ax6 : Sts := zB 58 5<|zA 59 (.loadA 4 (.t 3))<|zA 60 (.call 55 [(.t 58), (.t 59)])<|zA 61 (.notb (.t 60))<|.nil
def Ax7 : Sts := zG 4 4<|.nil
def Ax8 : Sts := zG 4 0<|.nil
def Q72 : RFun := ⟨62, [0, 1, 2, 3, 4, 5, 6, 8, 11], (.seq (.reg Cq2) (.seq (.reg Cq3) (.seq (.seq (.reg Cq4) (.cond (.t 17) (.seq (.reg Cq5) .ret) .skip)) (.seq (.reg Cq6) (.seq (.seq (.reg Cq7) (.cond (.t 30) (.seq (.reg Cq8) .ret) .skip)) (.seq (.reg Cq9) (.seq (.seq (.reg Cr0) (.cond (.t 39) (.seq (.reg Cr1) .ret) .skip)) (.seq (.seq (.any Ae5) (.cond (.t 50) (.seq (.reg Ax4) .ret) .skip)) (.seq (.seq (.any Ae6) (.cond (.t 57) (.seq (.reg Ax5) .ret) .skip)) (.seq (.seq (.reg Ax6) (.cond (.t 61) (.seq (.reg Ax7) .ret) .skip)) (.seq (.reg Ax8) .ret))))))))))), [.tmp 4]⟩
theorem Q72_ok : Aj Tryz.prog [0, 1, 2, 3, 4, 5, 6, 8, 11] [15, 20, 31, 71, 88, 41, 76, 86, 65, 83, 81, 114, 117, 119, 122, 68, 100, 103, 104, 105, 137, 138, 64, 72, 96, 99, 158, 159, 132, 56, 93, 94, 130, 131, 155, 62, 23, 170] 19 = some Q72 := by kernel_rfl

def Cr2 : Sts := zA 4 (.mv (.c (.bool false)))<|.nil
def Cr3 : Sts := zB 6 0<|zA 7 (zM 6)<|zB 8 1<|zA 9 (zM 8)<|zA 10 (.bin .neq (.t 7) (.t 9))<|.nil
def Cr4 : Sts := zA 4 (.mv (.c (.bool false)))<|.nil
def Cr5 : Sts := zG 5 0<|.nil
def Cr6 : Sts := zB 11 5<|zB 12 0<|zA 13 (zM 12)<|zA 14 (.bin .lss (.t 11) (.t 13))<|.nil
def Cr7 : AT := .q (zD 0 17 0<|zD 1 18 5<|zC 2 19 (zH 1 17 18)<|zC 3 20 (zJ 19)<|zD 4 21 1<|zD 5 22 5<|zC 6 23 (zH 1 21 22)<|zC 7 24 (zJ 23)<|zC 8 25 (.bin .neq (.t 20) (.t 24))<|.nil)<|.fin
def Cr8 : Sts := zA 4 (.mv (.c (.bool false)))<|.nil
def Cr9 : Sts := zB 15 5<|zA 16 (.bin .add (.t 15) (zN 1))<|zB 5 16<|.nil
def Ax9 : RCode := (.seq (.seq (.reg Cr6) (.cond (.t 14) .skip (.exit 0))) (.seq (.block 1 (.seq (.any Cr7) (.cond (.t 25) (.seq (.reg Cr8) .ret) .skip))) (.reg Cr9)))
def Cs0 : Sts := zA 4 (.mv (.c (.bool true)))<|.nil
def Q61 : RFun := ⟨26, [0, 1, 4, 5], (.seq (.reg Cr2) (.seq (.seq (.reg Cr3) (.cond (.t 10) (.seq (.reg Cr4) .ret) .skip)) (.seq (.seq (.reg Cr5) (.block 0 (.loop Ax9))) (.seq (.reg Cs0) .ret)))), [.tmp 4]⟩
theorem Q61_ok : Aj Tryz.prog [0, 1, 4, 5] [15, 20, 31, 71, 88, 41, 76, 86, 65, 83, 81, 114, 117, 119, 122, 68, 100, 103, 104, 105, 137, 138, 64, 72, 96, 99, 158, 159, 132, 56, 93, 94, 130, 131, 155, 62, 23, 170] 20 = some Q61 := by kernel_rfl

def Cs1 : Sts := zA 1 (.box 24 (.t 0))<|zG 2 0<|.nil
def Cs2 : Sts := zA 9 (.loadA 1 (.t 1))<|zA 10 (.call 63 [(.t 9)])<|zA 11 (.notb (.t 10))<|.nil
def Cs3 : Sts := zG 2 2<|.nil
def Cs4 : Sts := zA 12 (zI 0 1)<|zA 13 (zK 12)<|zA 14 (zM 13)<|zA 15 (.bin .eql (.t 14) (zN 0))<|.nil
def Cs5 : Sts := zG 2 1<|.nil
def Cs6 : Sts := zA 16 (zI 0 1)<|zA 17 (zK 16)<|zA 18 (zM 17)<|zG 19 0<|.nil
def Cs7 : Sts := zA 20 (.bin .lss (.t 19) (.t 18))<|.nil
def Cs8 : Sts := zA 21 (zH 1 17 19)<|zA 22 (zK 21)<|zB 4 22<|.nil
def Cs9 : Sts := zB 23 4<|zA 24 (zM 23)<|zG 25 0<|.nil
def Ct0 : Sts := zA 26 (.bin .lss (.t 25) (.t 24))<|.nil
def Ay0 : Sts := zA 27 (zH 5 23 25)<|zA 28 (.loadA 5 (.t 27))<|zA 6 (.alloc 83 [(.int .i64 0), (.int .i64 0), (.int .i64 0), (.int .i64 0), (.int .i64 0)])<|.op none (.store 5 (.t 6) (.t 28))<|.nil
def Ay1 : Sts := zA 30 (zI 0 6)<|zA 31 (zJ 30)<|zA 32 (zI 4 6)<|zA 33 (zJ 32)<|zA 34 (.call 64 [(.t 31), (.t 33)])<|zB 29 34<|zA 35 (.extract 0 (.t 29))<|zA 36 (.extract 1 (.t 29))<|zB 7 35<|zB 8 36<|.nil
def Ay2 : Sts := zB 37 8<|zA 38 (.bin .neq (.t 37) (zN 0))<|zB 39 38<|.cnd 39 false (zB 40 7<|zA 41 (.notb (.t 40))<|.nil) 42 (.t 41)<|zB 43 42<|.cnd 43 false (zA 44 (.loadA 5 (.t 6))<|zA 45 (.call 65 [(.t 44)])<|zA 46 (.notb (.t 45))<|.nil) 47 (.t 46)<|.nil
def Ay3 : Sts := zG 2 1<|.nil
def Ay4 : Sts := zA 48 (.bin .add (.t 25) (zN 1))<|zB 25 48<|.nil
def Aj2 : RCode := (.seq (.reg Ct0) (.seq (.cond (.t 26) .skip (.exit 2)) (.seq (.block 3 (.seq (.reg Ay0) (.seq (.reg Ay1) (.seq (.reg Ay2) (.cond (.t 47) (.seq (.reg Ay3) .ret) .skip))))) (.reg Ay4))))
def Ay5 : Sts := zA 49 (.bin .add (.t 19) (zN 1))<|zB 19 49<|.nil
def Aj3 : RCode := (.seq (.reg Cs7) (.seq (.cond (.t 20) .skip (.exit 0)) (.seq (.block 1 (.seq (.reg Cs8) (.seq (.reg Cs9) (.block 2 (.loop Aj2))))) (.reg Ay5))))
def Ay6 : Sts := zG 2 0<|.nil
def Q49 : RFun := ⟨50, [0, 1, 2, 4, 6, 7, 8, 17, 18, 19, 23, 24, 25], (.seq (.reg Cs1) (.seq (.seq (.reg Cs2) (.cond (.t 11) (.seq (.reg Cs3) .ret) .skip)) (.seq (.seq (.reg Cs4) (.cond (.t 15) (.seq (.reg Cs5) .ret) .skip)) (.seq (.seq (.reg Cs6) (.block 0 (.loop Aj3))) (.seq (.reg Ay6) .ret))))), [.tmp 2]⟩
theorem Q49_ok : Aj Tryz.prog [0, 1, 2, 4, 6, 7, 8, 17, 18, 19, 23, 24, 25] [15, 20, 31, 71, 88, 41, 76, 86, 65, 83, 81, 114, 117, 119, 122, 68, 100, 103, 104, 105, 137, 138, 64, 72, 96, 99, 158, 159, 132, 56, 93, 94, 130, 131, 155, 62, 23, 170] 24 = some Q49 := by kernel_rfl

def Eu2 : Sts := zA 2 (.box 24 (.t 0))<|zA 3 (.box 45 (.t 1))<|zG 4 0<|zG 5 0<|.nil
def Eu3 : Sts := zA 9 (.loadA 1 (.t 2))<|zA 10 (.call 33 [(.t 9)])<|zB 8 10<|zA 11 (.extract 0 (.t 8))<|zA 12 (.extract 1 (.t 8))<|zB 6 11<|zB 7 12<|.nil
def Eu4 : Sts := zB 13 7<|zA 14 (.bin .neq (.t 13) (zN 0))<|.nil
def Eu5 : Sts := zB 15 7<|zG 4 0<|zB 5 15<|.nil
def Eu6 : Sts := zB 16 6<|zA 17 (.loadA 4 (.t 3))<|zA 18 (.call 66 [(.t 16), (.t 17)])<|zB 4 18<|zG 5 0<|.nil
def Q1 : RFun := ⟨19, [0, 1, 2, 3, 4, 5, 6, 7], (.seq (.reg Eu2) (.seq (.reg Eu3) (.seq (.seq (.reg Eu4) (.cond (.t 14) (.seq (.reg Eu5) .ret) .skip)) (.seq (.reg Eu6) .ret)))), [.tmp 4, .tmp 5]⟩
theorem Q1_ok : Aj Tryz.prog [0, 1, 2, 3, 4, 5, 6, 7] [15, 20, 31, 71, 88, 41, 76, 86, 65, 83, 81, 114, 117, 119, 122, 68, 100, 103, 104, 105, 137, 138, 64, 72, 96, 99, 158, 159, 132, 56, 93, 94, 130, 131, 155, 62, 23, 170] 25 = some Q1 := by kernel_rfl

def Ct1 : Sts := zA 1 (.box 24 (.t 0))<|zA 2 (.alloc 24 [(.slice none 0 0)])<|zG 3 0<|.nil
def Ct2 : Sts := zA 5 (.loadA 1 (.t 1))<|zA 6 (.call 24 [(.t 5)])<|zB 4 6<|.nil
def Ct3 : Sts := zB 7 4<|zA 8 (.bin .neq (.t 7) (zN 0))<|.nil
def Ct4 : Sts := zA 9 (.build [(.slice none 0 0)] [])<|zB 10 4<|.op none (.store 1 (.t 2) (.t 9))<|zB 3 10<|.nil
def Ct5 : Sts := zA 11 (.loadA 1 (.t 1))<|zA 12 (.call 69 [(.t 11), (.c (.func (.func 70) #[] #[]))])<|.op none (.store 1 (.t 2) (.t 12))<|zG 3 0<|.nil
def Q50 : RFun := ⟨13, [0, 1, 2, 3, 4], (.seq (.reg Ct1) (.seq (.seq (.reg Ct2) (.seq (.reg Ct3) (.cond (.t 8) (.seq (.reg Ct4) .ret) .skip))) (.seq (.reg Ct5) .ret))), [.cellA 2 1, .tmp 3]⟩
theorem Q50_ok : Aj Tryz.prog [0, 1, 2, 3, 4] [15, 20, 31, 71, 88, 41, 76, 86, 65, 83, 81, 114, 117, 119, 122, 68, 100, 103, 104, 105, 137, 138, 64, 72, 96, 99, 158, 159, 132, 56, 93, 94, 130, 131, 155, 62, 23, 170] 30 = some Q50 := by kernel_rfl

def Ct6 : Sts := zA 0 (.alloc 24 [(.slice none 0 0)])<|.nil
def Ct7 : Sts := zA 1 (.build [(.int .i64 0), (.int .i64 0), (.int .i64 0), (.int .i64 0), (.int .i64 0)] [(0, 1, (zN 1)), (2, 1, (zN 1))])<|zA 2 (.build [(.int .i64 0), (.int .i64 0), (.int .i64 0), (.int .i64 0), (.int .i64 0)] [(1, 1, (zN 1))])<|zA 3 (.buildSl 83 2 [(.int .i64 0), (.int .i64 0), (.int .i64 0), (.int .i64 0), (.int .i64 0), (.int .i64 0), (.int .i64 0), (.int .i64 0), (.int .i64 0), (.int .i64 0)] [(0, 5, (.t 1)), (5, 5, (.t 2))])<|zA 4 (.build [(.int .i64 0), (.int .i64 0), (.int .i64 0), (.int .i64 0), (.int .i64 0)] [(0, 1, (zN 1)), (1, 1, (zN 1)), (2, 1, (zN 1))])<|zA 5 (.build [(.int .i64 0), (.int .i64 0), (.int .i64 0), (.int .i64 0), (.int .i64 0)] [])<|zA 6 (.buildSl 83 2 [(.int .i64 0), (.int .i64 0), (.int .i64 0), (.int .i64 0), (.int .i64 0), (.int .i64 0), (.int .i64 0), (.int .i64 0), (.int .i64 0), (.int .i64 0)] [(0, 5, (.t 4)), (5, 5, (.t 5))])<|zA 7 (.buildSl 70 2 [(.slice none 0 0), (.slice none 0 0)] [(0, 1, (.t 3)), (1, 1, (.t 6))])<|zA 8 (.build [(.slice none 0 0)] [(0, 1, (.t 7))])<|.op none (.store 1 (.t 0) (.t 8))<|.nil
def Q60 : RFun := ⟨9, [0], (.seq (.reg Ct6) (.seq (.reg Ct7) .ret)), [.cellA 0 1]⟩
theorem Q60_ok : Aj Tryz.prog [0] [15, 20, 31, 71, 88, 41, 76, 86, 65, 83, 81, 114, 117, 119, 122, 68, 100, 103, 104, 105, 137, 138, 64, 72, 96, 99, 158, 159, 132, 56, 93, 94, 130, 131, 155, 62, 23, 170] 32 = some Q60 := by kernel_rfl

def Eu7 : Sts := zA 1 (.box 24 (.t 0))<|zA 2 (.mv (.c (.slice none 0 0)))<|zG 3 0<|.nil
def Eu8 : Sts := zA 12 (.loadA 1 (.t 1))<|zA 13 (.call 30 [(.t 12)])<|zB 11 13<|zA 14 (.extract 0 (.t 11))<|zA 15 (.extract 1 (.t 11))<|zA 4 (.alloc 24 [(.slice none 0 0)])<|.op none (.store 1 (.t 4) (.t 14))<|zB 5 15<|.nil
def Eu9 : Sts := zB 16 5<|zA 17 (.bin .neq (.t 16) (zN 0))<|.nil
def Ev0 : Sts := zB 18 5<|zA 2 (.mv (.c (.slice none 0 0)))<|zB 3 18<|.nil
def Ev1 : Sts := zA 6 (.mv (.c (.slice none 0 0)))<|.nil
def Ev2 : Sts := zA 19 (zI 0 4)<|zA 20 (zK 19)<|zA 21 (zM 20)<|zG 22 0<|.nil
def Ev3 : Sts := zA 23 (.bin .lss (.t 22) (.t 21))<|.nil
def Ev4 : Sts := zB 24 22<|zA 25 (zH 1 20 22)<|zA 26 (zK 25)<|zB 7 24<|zB 8 26<|.nil
def Ev5 : Sts := zB 27 8<|zA 28 (zM 27)<|zG 29 0<|.nil
def Ev6 : Sts := zA 30 (.bin .lss (.t 29) (.t 28))<|.nil
def Ct8 : Sts := zA 31 (zH 5 27 29)<|zA 32 (.loadA 5 (.t 31))<|zA 10 (.alloc 83 [(.int .i64 0), (.int .i64 0), (.int .i64 0), (.int .i64 0), (.int .i64 0)])<|.op none (.store 5 (.t 10) (.t 32))<|.nil
def Ct9 : Sts := zB 33 6<|zA 34 (.loadA 5 (.t 10))<|zB 35 7<|zA 36 (.build [(.int .i64 0), (.int .i64 0), (.int .i64 0), (.int .i64 0), (.int .i64 0), (.int .i64 0)] [(0, 5, (.t 34)), (5, 1, (.t 35))])<|zA 37 (.buildSl 121 1 [(.int .i64 0), (.int .i64 0), (.int .i64 0), (.int .i64 0), (.int .i64 0), (.int .i64 0)] [(0, 6, (.t 36))])<|zA 38 (.append 121 6 48 [(.int .i64 0), (.int .i64 0), (.int .i64 0), (.int .i64 0), (.int .i64 0), (.int .i64 0)] (.t 33) (.t 37))<|zB 6 38<|.nil
def Cu0 : Sts := zA 39 (.bin .add (.t 29) (zN 1))<|zB 29 39<|.nil
def Ay7 : RCode := (.seq (.reg Ev6) (.seq (.cond (.t 30) .skip (.exit 2)) (.seq (.block 3 (.seq (.reg Ct8) (.reg Ct9))) (.reg Cu0))))
def Cu1 : Sts := zA 40 (.bin .add (.t 22) (zN 1))<|zB 22 40<|.nil
def Ay8 : RCode := (.seq (.reg Ev3) (.seq (.cond (.t 23) .skip (.exit 0)) (.seq (.block 1 (.seq (.reg Ev4) (.seq (.reg Ev5) (.block 2 (.loop Ay7))))) (.reg Cu1))))
def Cu2 : Sts := zB 41 6<|zB 2 41<|zG 3 0<|.nil
def Q8 : RFun := ⟨42, [0, 1, 2, 3, 4, 5, 6, 7, 8, 10, 20, 21, 22, 27, 28, 29], (.seq (.reg Eu7) (.seq (.reg Eu8) (.seq (.seq (.reg Eu9) (.cond (.t 17) (.seq (.reg Ev0) .ret) .skip)) (.seq (.reg Ev1) (.seq (.seq (.reg Ev2) (.block 0 (.loop Ay8))) (.seq (.reg Cu2) .ret)))))), [.tmp 2, .tmp 3]⟩
theorem Q8_ok : Aj Tryz.prog [0, 1, 2, 3, 4, 5, 6, 7, 8, 10, 20, 21, 22, 27, 28, 29] [15, 20, 31, 71, 88, 41, 76, 86, 65, 83, 81, 114, 117, 119, 122, 68, 100, 103, 104, 105, 137, 138, 64, 72, 96, 99, 158, 159, 132, 56, 93, 94, 130, 131, 155, 62, 23, 170] 33 = some Q8 := by kernel_rfl

def Ay9 : Sts := zA 1 (.box 74 (.t 0))<|zA 2 (.mv (.c .nilFunc))<|.nil
def Cu3 : Sts := zA 4 (zK 1)<|zA 5 (.mkfn 75 [] [(.t 1)])<|zA 6 (.call 74 [(.t 4), (.t 5)])<|zA 3 (.alloc 34 [(.slice none 0 0)])<|.op none (.store 1 (.t 3) (.t 6))<|.nil
def Cu4 : Sts := zA 7 (.mkfn 77 [] [(.t 1), (.t 3)])<|zB 2 7<|.nil
def Q17 : RFun := ⟨8, [0, 1, 2, 3], (.seq (.reg Ay9) (.seq (.reg Cu3) (.seq (.reg Cu4) .ret))), [.tmp 2]⟩
theorem Q17_ok : Aj Tryz.prog [0, 1, 2, 3] [15, 20, 31, 71, 88, 41, 76, 86, 65, 83, 81, 114, 117, 119, 122, 68, 100, 103, 104, 105, 137, 138, 64, 72, 96, 99, 158, 159, 132, 56, 93, 94, 130, 131, 155, 62, 23, 170] 34 = some Q17 := by kernel_rfl

def Cu5 : Sts := zA 3 (.box 45 (.t 1))<|zA 4 (.mv (.c (.slice none 0 0)))<|.nil
def Cu6 : Sts := zB 15 0<|zA 16 (.loadA 4 (.t 3))<|zA 17 (.call 85 [(.t 15), (.t 16)])<|zB 14 17<|zA 18 (.extract 0 (.t 14))<|zA 19 (.extract 1 (.t 14))<|zA 20 (.extract 2 (.t 14))<|zB 5 18<|zB 6 19<|zB 7 20<|.nil
def Cu7 : Sts := zA 8 (.mv (.c (.slice none 0 0)))<|.nil
def Cu8 : Sts := zB 21 0<|zA 22 (zM 21)<|zG 23 0<|.nil
def Cu9 : Sts := zA 24 (.bin .lss (.t 23) (.t 22))<|.nil
def Cv0 : Sts := zB 25 23<|zA 26 (zH 6 21 23)<|zA 27 (.loadA 6 (.t 26))<|zA 10 (.alloc 121 [(.int .i64 0), (.int .i64 0), (.int .i64 0), (.int .i64 0), (.int .i64 0), (.int .i64 0)])<|zB 9 25<|.op none (.store 6 (.t 10) (.t 27))<|.nil
def Cv1 : Sts := zA 28 (.loadA 6 (.t 10))<|zA 29 (.call 86 [(.t 28)])<|.nil
def Cv2 : Sts := zB 30 8<|zB 31 5<|zB 32 9<|zA 33 (zH 1 31 32)<|zA 34 (zJ 33)<|zA 35 (.buildSl 3 1 [(.int .i64 0)] [(0, 1, (.t 34))])<|zA 36 (.append 3 1 8 [(.int .i64 0)] (.t 30) (.t 35))<|zB 8 36<|.nil
def Cv3 : Sts := zA 37 (.bin .add (.t 23) (zN 1))<|zB 23 37<|.nil
def Az0 : RCode := (.seq (.reg Cu9) (.seq (.cond (.t 24) .skip (.exit 0)) (.seq (.block 1 (.seq (.reg Cv0) (.seq (.reg Cv1) (.cond (.t 29) (.reg Cv2) .skip)))) (.reg Cv3))))
def Cv4 : Sts := zA 38 (zI 2 3)<|zA 39 (zK 38)<|zA 40 (zM 39)<|zG 41 0<|.nil
def Az1 : Sts := zA 42 (.bin .lss (.t 41) (.t 40))<|.nil
def Az2 : Sts := zA 43 (zH 1 39 41)<|zA 44 (zK 43)<|zB 12 44<|.nil
def Az3 : Sts := zG 13 0<|.nil
def Az4 : Sts := zB 45 12<|zA 46 (zM 45)<|zA 47 (.bin .gtr (.t 46) (zN 0))<|.nil
def Az5 : Sts := zB 48 6<|zB 49 12<|zB 50 12<|zA 51 (zM 50)<|zA 52 (.bin .sub (.t 51) (zN 1))<|zA 53 (zH 1 49 52)<|zA 54 (zJ 53)<|zA 55 (zH 1 48 54)<|zA 56 (zJ 55)<|zB 13 56<|.nil
def Az6 : Sts := zB 57 8<|zB 58 13<|zA 59 (.buildSl 3 1 [(.int .i64 0)] [(0, 1, (.t 58))])<|zA 60 (.append 3 1 8 [(.int .i64 0)] (.t 57) (.t 59))<|zB 8 60<|.nil
def Az7 : Sts := zA 61 (.bin .add (.t 41) (zN 1))<|zB 41 61<|.nil
def Aj4 : RCode := (.seq (.reg Az1) (.seq (.cond (.t 42) .skip (.exit 2)) (.seq (.block 3 (.seq (.reg Az2) (.seq (.reg Az3) (.seq (.seq (.reg Az4) (.cond (.t 47) (.reg Az5) .skip)) (.reg Az6))))) (.reg Az7))))
def Az8 : Sts := zB 62 8<|zB 4 62<|.nil
def Q32 : RFun := ⟨63, [0, 1, 3, 4, 5, 6, 8, 9, 10, 12, 13, 21, 22, 23, 39, 40, 41], (.seq (.reg Cu5) (.seq (.reg Cu6) (.seq (.reg Cu7) (.seq (.seq (.reg Cu8) (.block 0 (.loop Az0))) (.seq (.seq (.reg Cv4) (.block 2 (.loop Aj4))) (.seq (.reg Az8) .ret)))))), [.tmp 4]⟩
theorem Q32_ok : Aj Tryz.prog [0, 1, 3, 4, 5, 6, 8, 9, 10, 12, 13, 21, 22, 23, 39, 40, 41] [15, 20, 31, 71, 88, 41, 76, 86, 65, 83, 81, 114, 117, 119, 122, 68, 100, 103, 104, 105, 137, 138, 64, 72, 96, 99, 158, 159, 132, 56, 93, 94, 130, 131, 155, 62, 23, 170] 35 = some Q32 := by kernel_rfl

def Ev7 : Sts := zA 2 (.mv (.c (.slice none 0 0)))<|.nil
def Ev8 : Sts := zB 3 0<|zA 4 (.call 87 [(.t 3), (.c (.func (.func 88) #[] #[]))])<|.nil
def Ev9 : Sts := zB 5 0<|zA 6 (.call 89 [(.t 5), (.c (.func (.func 41) #[] #[]))])<|zB 2 6<|.nil
def Q3 : RFun := ⟨7, [0, 2], (.seq (.reg Ev7) (.seq (.reg Ev8) (.seq (.reg Ev9) .ret))), [.tmp 2]⟩
theorem Q3_ok : Aj Tryz.prog [0, 2] [15, 20, 31, 71, 88, 41, 76, 86, 65, 83, 81, 114, 117, 119, 122, 68, 100, 103, 104, 105, 137, 138, 64, 72, 96, 99, 158, 159, 132, 56, 93, 94, 130, 131, 155, 62, 23, 170] 36 = some Q3 := by kernel_rfl

def Cv5 : Sts := zA 1 (.box 83 (.t 0))<|zA 2 (.mv (.c (.bool false)))<|.nil
def Cv6 : Sts := zA 3 (zI 0 1)<|zA 4 (zJ 3)<|zA 5 (zI 4 1)<|zA 6 (zJ 5)<|zA 7 (.call 90 [(.t 4), (.t 6)])<|zA 8 (.notb (.t 7))<|zB 9 8<|.cnd 9 false (zA 10 (zI 1 1)<|zA 11 (zJ 10)<|zA 12 (.bin .lss (.t 11) (zN 0))<|.nil) 13 (.t 12)<|zB 14 13<|.cnd 14 false (zA 15 (zI 1 1)<|zA 16 (zJ 15)<|zA 17 (.bin .geq (.t 16) (zN 3))<|.nil) 18 (.t 17)<|.nil
def Cv7 : Sts := zA 2 (.mv (.c (.bool false)))<|.nil
def Cv8 : Sts := zA 19 (zI 0 1)<|zA 20 (zJ 19)<|zA 21 (.bin .eql (.t 20) (zN 5))<|.nil
def Cv9 : Sts := zA 22 (zI 1 1)<|zA 23 (zJ 22)<|zA 24 (.bin .eql (.t 23) (zN 0))<|zB 25 24<|.cnd 25 true (zA 26 (zI 2 1)<|zA 27 (zJ 26)<|zA 28 (.bin .eql (.t 27) (zN 0))<|.nil) 29 (.t 28)<|zB 30 29<|.cnd 30 true (zA 31 (zI 3 1)<|zA 32 (zJ 31)<|zA 33 (.bin .eql (.t 32) (zN 0))<|.nil) 34 (.t 33)<|zB 2 34<|.nil
def Cw0 : Sts := zA 35 (zI 0 1)<|zA 36 (zJ 35)<|zA 37 (.bin .eql (.t 36) (zN 0))<|.nil
def Cw1 : Sts := zA 38 (zI 2 1)<|zA 39 (zJ 38)<|zA 40 (.bin .eql (.t 39) (zN 0))<|zB 41 40<|.cnd 41 true (zA 42 (zI 3 1)<|zA 43 (zJ 42)<|zA 44 (.bin .eql (.t 43) (zN 0))<|.nil) 45 (.t 44)<|zB 2 45<|.nil
def Cw2 : Sts := zA 46 (zI 0 1)<|zA 47 (zJ 46)<|zA 48 (.bin .eql (.t 47) (zN 1))<|.nil
def Cw3 : Sts := zA 49 (zI 2 1)<|zA 50 (zJ 49)<|zA 51 (.bin .geq (.t 50) (zN 0))<|zB 52 51<|.cnd 52 true (zA 53 (zI 2 1)<|zA 54 (zJ 53)<|zA 55 (.bin .leq (.t 54) (zN 9))<|.nil) 56 (.t 55)<|zB 57 56<|.cnd 57 true (zA 58 (zI 3 1)<|zA 59 (zJ 58)<|zA 60 (.bin .eql (.t 59) (zN 0))<|.nil) 61 (.t 60)<|zB 2 61<|.nil
def Cw4 : Sts := zA 62 (zI 0 1)<|zA 63 (zJ 62)<|zA 64 (.bin .eql (.t 63) (zN 2))<|.nil
def Az9 : Sts := zA 65 (zI 2 1)<|zA 66 (zJ 65)<|zA 67 (.bin .geq (.t 66) (.c (.int .i64 (-9))))<|zB 68 67<|.cnd 68 true (zA 69 (zI 2 1)<|zA 70 (zJ 69)<|zA 71 (.bin .leq (.t 70) (zN 9))<|.nil) 72 (.t 71)<|zB 73 72<|.cnd 73 true (zA 74 (zI 3 1)<|zA 75 (zJ 74)<|zA 76 (.bin .eql (.t 75) (zN 0))<|.nil) 77 (.t 76)<|zB 2 77<|.nil
def Ba0 : Sts := zA 78 (zI 2 1)<|zA 79 (zJ 78)<|zA 80 (.bin .geq (.t 79) (zN 0))<|zB 81 80<|.cnd 81 true (zA 82 (zI 2 1)<|zA 83 (zJ 82)<|zA 84 (.bin .leq (.t 83) (zN 9))<|.nil) 85 (.t 84)<|zB 86 85<|.cnd 86 true (zA 87 (zI 3 1)<|zA 88 (zJ 87)<|zA 89 (.bin .geq (.t 88) (zN 0))<|.nil) 90 (.t 89)<|zB 91 90<|.cnd 91 true (zA 92 (zI 3 1)<|zA 93 (zJ 92)<|zA 94 (.bin .leq (.t 93) (zN 9))<|.nil) 95 (.t 94)<|zB 2 95<|.nil
def Q68 : RFun := ⟨96, [0, 1, 2], (.seq (.reg Cv5) (.seq (.seq (.reg Cv6) (.cond (.t 18) (.seq (.reg Cv7) .ret) .skip)) (.seq (.seq (.reg Cv8) (.cond (.t 21) (.seq (.reg Cv9) .ret) .skip)) (.seq (.seq (.reg Cw0) (.cond (.t 37) (.seq (.reg Cw1) .ret) .skip)) (.seq (.seq (.reg Cw2) (.cond (.t 48) (.seq (.reg Cw3) .ret) .skip)) (.seq (.seq (.reg Cw4) (.cond (.t 64) (.seq (.reg Az9) .ret) .skip)) (.seq (.reg Ba0) .ret))))))), [.tmp 2]⟩
theorem Q68_ok : Aj Tryz.prog [0, 1, 2] [15, 20, 31, 71, 88, 41, 76, 86, 65, 83, 81, 114, 117, 119, 122, 68, 100, 103, 104, 105, 137, 138, 64, 72, 96, 99, 158, 159, 132, 56, 93, 94, 130, 131, 155, 62, 23, 170] 37 = some Q68 := by kernel_rfl

def Cw5 : Sts := zA 1 (.box 83 (.t 0))<|zA 2 (.mv (.c (.bool false)))<|.nil
def Cw6 : Sts := zA 3 (zI 0 1)<|zA 4 (zJ 3)<|zA 5 (.bin .geq (.t 4) (zN 0))<|zB 6 5<|.cnd 6 true (zA 7 (zI 0 1)<|zA 8 (zJ 7)<|zA 9 (.bin .lss (.t 8) (zN 5))<|.nil) 10 (.t 9)<|zB 2 10<|.nil
def Q67 : RFun := ⟨11, [0, 1, 2], (.seq (.reg Cw5) (.seq (.reg Cw6) .ret)), [.tmp 2]⟩
theorem Q67_ok : Aj Tryz.prog [0, 1, 2] [15, 20, 31, 71, 88, 41, 76, 86, 65, 83, 81, 114, 117, 119, 122, 68, 100, 103, 104, 105, 137, 138, 64, 72, 96, 99, 158, 159, 132, 56, 93, 94, 130, 131, 155, 62, 23, 170] 38 = some Q67 := by kernel_rfl

def Cw7 : Sts := zA 1 (.box 24 (.t 0))<|zA 2 (.mv (.c (.slice none 0 0)))<|.nil
def Cw8 : Sts := zA 9 (.loadA 1 (.t 1))<|zA 10 (.call 91 [(.t 9)])<|zB 8 10<|zA 11 (.extract 0 (.t 8))<|zA 12 (.extract 1 (.t 8))<|zA 3 (.alloc 24 [(.slice none 0 0)])<|.op none (.store 1 (.t 3) (.t 11))<|zB 4 12<|.nil
def Cw9 : Sts := zA 5 (.mv (.c (.slice none 0 0)))<|.nil
def Cx0 : Sts := zG 6 0<|.nil
def Cx1 : Sts := zB 13 6<|zA 14 (zI 0 3)<|zA 15 (zK 14)<|zA 16 (zM 15)<|zA 17 (.bin .lss (.t 13) (.t 16))<|.nil
def Cx2 : Sts := zG 7 0<|.nil
def Cx3 : Sts := zB 20 7<|zA 21 (zI 0 3)<|zA 22 (zK 21)<|zB 23 6<|zA 24 (zH 1 22 23)<|zA 25 (zK 24)<|zA 26 (zM 25)<|zA 27 (.bin .lss (.t 20) (.t 26))<|.nil
def Cx4 : Sts := zB 30 5<|zB 31 6<|zA 32 (zI 0 3)<|zA 33 (zK 32)<|zB 34 6<|zA 35 (zH 1 33 34)<|zA 36 (zK 35)<|zB 37 7<|zA 38 (zH 5 36 37)<|zA 39 (.loadA 5 (.t 38))<|zA 40 (.build [(.int .i64 0), (.int .i64 0), (.int .i64 0), (.int .i64 0), (.int .i64 0), (.int .i64 0)] [(0, 1, (.t 31)), (1, 5, (.t 39))])<|zA 41 (.buildSl 103 1 [(.int .i64 0), (.int .i64 0), (.int .i64 0), (.int .i64 0), (.int .i64 0), (.int .i64 0)] [(0, 6, (.t 40))])<|zA 42 (.append 103 6 48 [(.int .i64 0), (.int .i64 0), (.int .i64 0), (.int .i64 0), (.int .i64 0), (.int .i64 0)] (.t 30) (.t 41))<|zB 5 42<|.nil
def Cx5 : Sts := zB 28 7<|zA 29 (.bin .add (.t 28) (zN 1))<|zB 7 29<|.nil
def Ba1 : RCode := (.seq (.seq (.reg Cx3) (.cond (.t 27) .skip (.exit 2))) (.seq (.block 3 (.reg Cx4)) (.reg Cx5)))
def Cx6 : Sts := zB 18 6<|zA 19 (.bin .add (.t 18) (zN 1))<|zB 6 19<|.nil
def Aj5 : RCode := (.seq (.seq (.reg Cx1) (.cond (.t 17) .skip (.exit 0))) (.seq (.block 1 (.seq (.reg Cx2) (.block 2 (.loop Ba1)))) (.reg Cx6)))
def Ba2 : Sts := zB 43 5<|zB 2 43<|.nil
def Q71 : RFun := ⟨44, [0, 1, 2, 3, 5, 6, 7], (.seq (.reg Cw7) (.seq (.reg Cw8) (.seq (.reg Cw9) (.seq (.seq (.reg Cx0) (.block 0 (.loop Aj5))) (.seq (.reg Ba2) .ret))))), [.tmp 2]⟩
theorem Q71_ok : Aj Tryz.prog [0, 1, 2, 3, 5, 6, 7] [15, 20, 31, 71, 88, 41, 76, 86, 65, 83, 81, 114, 117, 119, 122, 68, 100, 103, 104, 105, 137, 138, 64, 72, 96, 99, 158, 159, 132, 56, 93, 94, 130, 131, 155, 62, 23, 170] 39 = some Q71 := by kernel_rfl

def Ba3 : Sts := zA 4 (.mv (.c (.bool false)))<|.nil
def Ba4 : Sts := zB 6 0<|zA 7 (zM 6)<|zB 8 1<|zA 9 (zM 8)<|zA 10 (.bin .neq (.t 7) (.t 9))<|.nil
def Ba5 : Sts := zA 4 (.mv (.c (.bool false)))<|.nil
def Ba6 : Sts := zB 11 0<|zA 12 (zM 11)<|zG 13 0<|.nil
def Ba7 : Sts := zA 14 (.bin .lss (.t 13) (.t 12))<|.nil
def Ba8 : Sts := zB 15 13<|zB 5 15<|.nil
def Ba9 : AT := .q (zD 0 16 0<|zD 1 17 5<|zC 2 18 (zH 1 16 17)<|zC 3 19 (zJ 18)<|zD 4 20 1<|zD 5 21 5<|zC 6 22 (zH 1 20 21)<|zC 7 23 (zJ 22)<|zC 8 24 (.bin .neq (.t 19) (.t 23))<|.nil)<|.fin
def Bb0 : Sts := zA 4 (.mv (.c (.bool false)))<|.nil
def Bb1 : Sts := zA 25 (.bin .add (.t 13) (zN 1))<|zB 13 25<|.nil
def Aj6 : RCode := (.seq (.reg Ba7) (.seq (.cond (.t 14) .skip (.exit 0)) (.seq (.block 1 (.seq (.reg Ba8) (.seq (.any Ba9) (.cond (.t 24) (.seq (.reg Bb0) .ret) .skip)))) (.reg Bb1))))
def Bb2 : Sts := zA 4 (.mv (.c (.bool true)))<|.nil
def Bb3 : RFun := ⟨26, [0, 1, 4, 5, 12, 13], (.seq (.reg Ba3) (.seq (.seq (.reg Ba4) (.cond (.t 10) (.seq (.reg Ba5) .ret) .skip)) (.seq (.seq (.reg Ba6) (.block 0 (.loop Aj6))) (.seq (.reg Bb2) .ret)))), [.tmp 4]⟩
theorem Q107_ok : Aj Tryz.prog [0, 1, 4, 5, 12, 13] [15, 20, 31, 71, 88, 41, 76, 86, 65, 83, 81, 114, 117, 119, 122, 68, 100, 103, 104, 105, 137, 138, 64, 72, 96, 99, 158, 159, 132, 56, 93, 94, 130, 131, 155, 62, 23, 170] 41 = some Bb3 := by kernel_rfl

def Cx7 : Sts := zA 3 (.box 37 (.t 1))<|zA 4 (.mv (.c (.bool false)))<|.nil
def Cx8 : Sts := zA 17 (zI 0 3)<|zA 18 (zK 17)<|zA 19 (zM 18)<|zB 20 0<|zA 21 (zM 20)<|zA 22 (.bin .neq (.t 19) (.t 21))<|zB 23 22<|.cnd 23 false (zA 24 (zI 1 3)<|zA 25 (zK 24)<|zA 26 (zM 25)<|zB 27 0<|zA 28 (zM 27)<|zA 29 (.bin .neq (.t 26) (.t 28))<|.nil) 30 (.t 29)<|zB 31 30<|.cnd 31 false (zA 32 (zI 2 3)<|zA 33 (zK 32)<|zA 34 (zM 33)<|zA 35 (.bin .neq (.t 34) (zN 3))<|.nil) 36 (.t 35)<|.nil
def Cx9 : Sts := zA 4 (.mv (.c (.bool false)))<|.nil
def Cy0 : Sts := zG 5 0<|.nil
def Cy1 : Sts := zG 6 0<|.nil
def Cy2 : Sts := zB 37 6<|zB 38 0<|zA 39 (zM 38)<|zA 40 (.bin .lss (.t 37) (.t 39))<|.nil
def Cy3 : Sts := zB 43 0<|zB 44 6<|zA 45 (zH 6 43 44)<|zA 46 (zI 1 45)<|zA 47 (.loadA 5 (.t 46))<|zA 7 (.alloc 83 [(.int .i64 0), (.int .i64 0), (.int .i64 0), (.int .i64 0), (.int .i64 0)])<|.op none (.store 5 (.t 7) (.t 47))<|.nil
def Cy4 : Sts := zA 48 (zI 0 3)<|zA 49 (zK 48)<|zB 50 6<|zA 51 (zH 1 49 50)<|zA 52 (zJ 51)<|zB 8 52<|.nil
def Cy5 : Sts := zA 53 (.loadA 5 (.t 7))<|zA 54 (.call 56 [(.t 53)])<|zA 55 (.notb (.t 54))<|zB 56 55<|.cnd 56 true (zB 57 8<|zA 58 (.bin .neq (.t 57) (.c (.int .i64 (-2))))<|.nil) 59 (.t 58)<|zB 60 59<|.cnd 60 false (zA 61 (.loadA 5 (.t 7))<|zA 62 (.call 56 [(.t 61)])<|zB 63 62<|.cnd 63 true (zB 64 8<|zA 65 (.bin .lss (.t 64) (.c (.int .i64 (-1))))<|zB 66 65<|.cnd 66 false (zB 67 8<|zB 68 0<|zA 69 (zM 68)<|zA 70 (.bin .geq (.t 67) (.t 69))<|.nil) 71 (.t 70)<|.nil) 72 (.t 71)<|.nil) 73 (.t 72)<|zB 74 73<|.cnd 74 false (zA 75 (zI 0 7)<|zA 76 (zJ 75)<|zA 77 (.bin .eql (.t 76) (zN 1))<|zB 78 77<|.cnd 78 false (zA 79 (zI 0 7)<|zA 80 (zJ 79)<|zA 81 (.bin .eql (.t 80) (zN 2))<|.nil) 82 (.t 81)<|zB 83 82<|.cnd 83 true (zA 84 (zI 1 3)<|zA 85 (zK 84)<|zB 86 6<|zA 87 (zH 1 85 86)<|zA 88 (.loadB (.t 87))<|zA 89 (.notb (.t 88))<|.nil) 90 (.t 89)<|.nil) 91 (.t 90)<|zB 92 91<|.cnd 92 false (zA 93 (.loadA 5 (.t 7))<|zA 94 (.call 93 [(.t 93)])<|zA 95 (.notb (.t 94))<|zB 96 95<|.cnd 96 true (zA 97 (zI 1 3)<|zA 98 (zK 97)<|zB 99 6<|zA 100 (zH 1 98 99)<|zA 101 (.loadB (.t 100))<|.nil) 102 (.t 101)<|.nil) 103 (.t 102)<|.nil
def Cy6 : Sts := zA 4 (.mv (.c (.bool false)))<|.nil
def U4 : AT := .q (zC 0 104 (.loadA 5 (.t 7))<|zC 1 105 (.call 56 [(.t 104)])<|zD 2 106 105<|.g 106 true (zD 3 107 8<|zC 4 108 (.bin .geq (.t 107) (zN 0))<|.nil) 5 109 (.t 108)<|zD 6 110 109<|.g 110 true (zC 7 111 (zI 1 3)<|zC 8 112 (zK 111)<|zD 9 113 8<|zC 10 114 (zH 1 112 113)<|zC 11 115 (.loadB (.t 114))<|zC 12 116 (.notb (.t 115))<|zD 13 117 116<|.g 117 false (zD 14 118 0<|zD 15 119 8<|zC 16 120 (zH 6 118 119)<|zC 17 121 (zI 1 120)<|zC 18 122 (zI 1 121)<|zC 19 123 (zJ 122)<|zC 20 124 (zI 1 7)<|zC 21 125 (zJ 124)<|zC 22 126 (.bin .neq (.t 123) (.t 125))<|.nil) 23 127 (.t 126)<|zD 24 128 127<|.g 128 false (zD 25 129 0<|zD 26 130 8<|zC 27 131 (zH 6 129 130)<|zC 28 132 (zI 1 131)<|zC 29 133 (.loadA 5 (.t 132))<|zC 30 134 (.call 93 [(.t 133)])<|zC 31 135 (.notb (.t 134))<|.nil) 32 136 (.t 135)<|.nil) 33 137 (.t 136)<|.nil)<|.fin
def Bb4 : Sts := zA 4 (.mv (.c (.bool false)))<|.nil
def Ae7 : Sts := zA 138 (.loadA 5 (.t 7))<|zA 139 (.call 94 [(.t 138)])<|.nil
def Ae8 : Sts := zB 140 5<|zA 141 (.bin .add (.t 140) (zN 1))<|zB 5 141<|.nil
def Ae9 : Sts := zB 41 6<|zA 42 (.bin .add (.t 41) (zN 1))<|zB 6 42<|.nil
def Tx : RCode := (.seq (.seq (.reg Cy2) (.cond (.t 40) .skip (.exit 0))) (.seq (.block 1 (.seq (.reg Cy3) (.seq (.reg Cy4) (.seq (.seq (.reg Cy5) (.cond (.t 103) (.seq (.reg Cy6) .ret) .skip)) (.seq (.seq (.any U4) (.cond (.t 137) (.seq (.reg Bb4) .ret) .skip)) (.seq (.reg Ae7) (.cond (.t 139) (.reg Ae8) .skip))))))) (.reg Ae9)))
def Bb5 : Sts := zA 142 (zI 3 3)<|zA 143 (zK 142)<|zA 144 (zM 143)<|zB 145 5<|zA 146 (.bin .neq (.t 144) (.t 145))<|.nil
def Bb6 : Sts := zA 4 (.mv (.c (.bool false)))<|.nil
def Bb7 : Sts := zA 9 (.alloc 141 [(.bool false), (.bool false), (.bool false), (.bool false), (.bool false), (.bool false), (.bool false), (.bool false), (.bool false), (.bool false), (.bool false), (.bool false), (.bool false), (.bool false), (.bool false), (.bool false)])<|.nil
def Bb8 : Sts := zG 10 0<|.nil
def Bb9 : Sts := zB 147 10<|zA 148 (zI 3 3)<|zA 149 (zK 148)<|zA 150 (zM 149)<|zA 151 (.bin .lss (.t 147) (.t 150))<|.nil
def Bc0 : Sts := zA 154 (zI 3 3)<|zA 155 (zK 154)<|zB 156 10<|zA 157 (zH 1 155 156)<|zA 158 (zJ 157)<|zB 11 158<|.nil
def Bc1 : Sts := zB 159 11<|zA 160 (.bin .lss (.t 159) (zN 0))<|zB 161 160<|.cnd 161 false (zB 162 11<|zB 163 0<|zA 164 (zM 163)<|zA 165 (.bin .geq (.t 162) (.t 164))<|.nil) 166 (.t 165)<|zB 167 166<|.cnd 167 false (zB 168 11<|zA 169 (.iaddrA 16 1 (.t 9) (.t 168))<|zA 170 (.loadB (.t 169))<|.nil) 171 (.t 170)<|zB 172 171<|.cnd 172 false (zB 173 0<|zB 174 11<|zA 175 (zH 6 173 174)<|zA 176 (zI 1 175)<|zA 177 (.loadA 5 (.t 176))<|zA 178 (.call 94 [(.t 177)])<|zA 179 (.notb (.t 178))<|.nil) 180 (.t 179)<|.nil
def Bc2 : Sts := zA 4 (.mv (.c (.bool false)))<|.nil
def Bc3 : Sts := zB 181 11<|zA 182 (.iaddrA 16 1 (.t 9) (.t 181))<|.op none (.store 1 (.t 182) (.c (.bool true)))<|.nil
def Bc4 : Sts := zB 152 10<|zA 153 (.bin .add (.t 152) (zN 1))<|zB 10 153<|.nil
def Yd : RCode := (.seq (.seq (.reg Bb9) (.cond (.t 151) .skip (.exit 2))) (.seq (.block 3 (.seq (.reg Bc0) (.seq (.seq (.reg Bc1) (.cond (.t 180) (.seq (.reg Bc2) .ret) .skip)) (.reg Bc3)))) (.reg Bc4)))
def Bc5 : Sts := zG 12 0<|.nil
def Bc6 : Sts := zB 183 12<|zA 184 (.bin .lss (.t 183) (zN 3))<|.nil
def Bc7 : Sts := zG 13 0<|.nil
def Bc8 : Sts := zG 14 0<|.nil
def Bc9 : Sts := zB 187 14<|zB 188 0<|zA 189 (zM 188)<|zA 190 (.bin .lss (.t 187) (.t 189))<|.nil
def Bd0 : Sts := zA 193 (zI 1 3)<|zA 194 (zK 193)<|zB 195 14<|zA 196 (zH 1 194 195)<|zA 197 (.loadB (.t 196))<|zB 198 197<|.cnd 198 true (zB 199 0<|zB 200 14<|zA 201 (zH 6 199 200)<|zA 202 (zI 1 201)<|zA 203 (zI 1 202)<|zA 204 (zJ 203)<|zB 205 12<|zA 206 (.bin .eql (.t 204) (.t 205))<|.nil) 207 (.t 206)<|.nil
def Bd1 : Sts := zB 208 13<|zA 209 (.bin .add (.t 208) (zN 1))<|zB 13 209<|.nil
def Bd2 : Sts := zB 191 14<|zA 192 (.bin .add (.t 191) (zN 1))<|zB 14 192<|.nil
def Aj7 : RCode := (.seq (.seq (.reg Bc9) (.cond (.t 190) .skip (.exit 6))) (.seq (.block 7 (.seq (.reg Bd0) (.cond (.t 207) (.reg Bd1) .skip))) (.reg Bd2)))
def Bd3 : Sts := zA 210 (zI 2 3)<|zA 211 (zK 210)<|zB 212 12<|zA 213 (zH 1 211 212)<|zA 214 (zK 213)<|zA 215 (zM 214)<|zB 216 13<|zA 217 (.bin .neq (.t 215) (.t 216))<|.nil
def Bd4 : Sts := zA 4 (.mv (.c (.bool false)))<|.nil
def Bd5 : Sts := zG 15 0<|.nil
def Bd6 : Sts := zB 218 15<|zB 219 13<|zA 220 (.bin .lss (.t 218) (.t 219))<|.nil
def Bd7 : Sts := zA 223 (zI 2 3)<|zA 224 (zK 223)<|zB 225 12<|zA 226 (zH 1 224 225)<|zA 227 (zK 226)<|zB 228 15<|zA 229 (zH 1 227 228)<|zA 230 (zJ 229)<|zB 16 230<|.nil
def Bd8 : Sts := zB 231 16<|zA 232 (.bin .lss (.t 231) (zN 0))<|zB 233 232<|.cnd 233 false (zB 234 16<|zB 235 0<|zA 236 (zM 235)<|zA 237 (.bin .geq (.t 234) (.t 236))<|.nil) 238 (.t 237)<|zB 239 238<|.cnd 239 false (zB 240 16<|zA 241 (.iaddrA 16 1 (.t 9) (.t 240))<|zA 242 (.loadB (.t 241))<|.nil) 243 (.t 242)<|zB 244 243<|.cnd 244 false (zA 245 (zI 1 3)<|zA 246 (zK 245)<|zB 247 16<|zA 248 (zH 1 246 247)<|zA 249 (.loadB (.t 248))<|zA 250 (.notb (.t 249))<|.nil) 251 (.t 250)<|zB 252 251<|.cnd 252 false (zB 253 0<|zB 254 16<|zA 255 (zH 6 253 254)<|zA 256 (zI 1 255)<|zA 257 (zI 1 256)<|zA 258 (zJ 257)<|zB 259 12<|zA 260 (.bin .neq (.t 258) (.t 259))<|.nil) 261 (.t 260)<|.nil
def Bd9 : Sts := zA 4 (.mv (.c (.bool false)))<|.nil
def Be0 : Sts := zB 262 16<|zA 263 (.iaddrA 16 1 (.t 9) (.t 262))<|.op none (.store 1 (.t 263) (.c (.bool true)))<|.nil
def Be1 : Sts := zB 221 15<|zA 222 (.bin .add (.t 221) (zN 1))<|zB 15 222<|.nil
def Aj8 : RCode := (.seq (.seq (.reg Bd6) (.cond (.t 220) .skip (.exit 8))) (.seq (.block 9 (.seq (.reg Bd7) (.seq (.seq (.reg Bd8) (.cond (.t 261) (.seq (.reg Bd9) .ret) .skip)) (.reg Be0)))) (.reg Be1)))
def Be2 : Sts := zB 185 12<|zA 186 (.bin .add (.t 185) (zN 1))<|zB 12 186<|.nil
def Ty : RCode := (.seq (.seq (.reg Bc6) (.cond (.t 184) .skip (.exit 4))) (.seq (.block 5 (.seq (.reg Bc7) (.seq (.seq (.reg Bc8) (.block 6 (.loop Aj7))) (.seq (.seq (.reg Bd3) (.cond (.t 217) (.seq (.reg Bd4) .ret) .skip)) (.seq (.reg Bd5) (.block 8 (.loop Aj8))))))) (.reg Be2)))
def Be3 : Sts := zA 4 (.mv (.c (.bool true)))<|.nil
def Q85 : RFun := ⟨264, [0, 1, 3, 4, 5, 6, 7, 8, 9, 10, 11, 12, 13, 14, 15, 16], (.seq (.reg Cx7) (.seq (.seq (.reg Cx8) (.cond (.t 36) (.seq (.reg Cx9) .ret) .skip)) (.seq (.reg Cy0) (.seq (.seq (.reg Cy1) (.block 0 (.loop Tx))) (.seq (.seq (.reg Bb5) (.cond (.t 146) (.seq (.reg Bb6) .ret) .skip)) (.seq (.reg Bb7) (.seq (.seq (.reg Bb8) (.block 2 (.loop Yd))) (.seq (.seq (.reg Bc5) (.block 4 (.loop Ty))) (.seq (.reg Be3) .ret))))))))), [.tmp 4]⟩
theorem Q85_ok : Aj Tryz.prog [0, 1, 3, 4, 5, 6, 7, 8, 9, 10, 11, 12, 13, 14, 15, 16] [15, 20, 31, 71, 88, 41, 76, 86, 65, 83, 81, 114, 117, 119, 122, 68, 100, 103, 104, 105, 137, 138, 64, 72, 96, 99, 158, 159, 132, 56, 93, 94, 130, 131, 155, 62, 23, 170] 42 = some Q85 := by kernel_rfl

def Cy7 : Sts := zA 3 (.box 37 (.t 1))<|zA 4 (.mv (.c (.slice none 0 0)))<|zA 5 (.mv (.c (.slice none 0 0)))<|zA 6 (.mv (.c (.slice none 0 0)))<|.nil
def Cy8 : Sts := zB 15 0<|zA 16 (zM 15)<|zA 17 (.makeSl 3 1 8 [(.int .i64 0)] (.t 16) (.t 16))<|zB 7 17<|.nil
def Cy9 : Sts := zB 18 0<|zA 19 (zM 18)<|zA 20 (.makeSl 3 1 8 [(.int .i64 0)] (.t 19) (.t 19))<|zB 8 20<|.nil
def Cz0 : Sts := zB 21 0<|zA 22 (zM 21)<|zA 23 (.makeSl 4 1 1 [(.bool false)] (.t 22) (.t 22))<|zB 9 23<|.nil
def Cz1 : Sts := zB 24 0<|zA 25 (zM 24)<|zA 26 (.makeSl 4 1 1 [(.bool false)] (.t 25) (.t 25))<|zB 10 26<|.nil
def Cz2 : Sts := zG 11 0<|.nil
def Cz3 : Sts := zB 27 11<|zB 28 0<|zA 29 (zM 28)<|zA 30 (.bin .lss (.t 27) (.t 29))<|.nil
def Cz4 : Sts := zB 33 0<|zB 34 11<|zA 35 (zH 6 33 34)<|zA 36 (zI 1 35)<|zA 37 (.loadA 5 (.t 36))<|zA 12 (.alloc 83 [(.int .i64 0), (.int .i64 0), (.int .i64 0), (.int .i64 0), (.int .i64 0)])<|.op none (.store 5 (.t 12) (.t 37))<|.nil
def Cz5 : Sts := zB 38 10<|zB 39 11<|zA 40 (zI 0 12)<|zA 41 (zJ 40)<|zA 42 (.bin .neq (.t 41) (zN 2))<|zA 43 (zH 1 38 39)<|.op none (.store 1 (.t 43) (.t 42))<|.nil
def Cz6 : Sts := zA 44 (zI 0 12)<|zA 45 (zJ 44)<|.nil
def Be4 : Sts := zA 47 (.bin .eql (.t 45) (zN 1))<|zB 46 47<|.nil
def Be5 : Sts := zB 48 8<|zB 49 11<|zA 50 (zI 2 12)<|zA 51 (zJ 50)<|zA 52 (zH 1 48 49)<|.op none (.store 1 (.t 52) (.t 51))<|.nil
def Be6 : Sts := zA 54 (.bin .eql (.t 45) (zN 3))<|zB 53 54<|.nil
def Be7 : Sts := zA 55 (.bin .eql (.t 45) (zN 4))<|zB 53 55<|.nil
def Be8 : Sts := zB 56 8<|zB 57 11<|zA 58 (zI 3 12)<|zA 59 (zJ 58)<|zA 60 (zH 1 56 57)<|.op none (.store 1 (.t 60) (.t 59))<|.nil
def Be9 : Sts := zB 31 11<|zA 32 (.bin .add (.t 31) (zN 1))<|zB 11 32<|.nil
def Aj9 : RCode := (.seq (.seq (.reg Cz3) (.cond (.t 30) .skip (.exit 0))) (.seq (.block 1 (.seq (.reg Cz4) (.seq (.reg Cz5) (.seq (.reg Cz6) (.block 2 (.seq (.reg Be4) (.cond (.t 46) (.reg Be5) (.seq (.seq (.reg Be6) (.cond (.t 53) .skip (.reg Be7))) (.cond (.t 53) (.reg Be8) .skip))))))))) (.reg Be9)))
def Bf0 : Sts := zG 13 0<|.nil
def Bf1 : Sts := zB 61 13<|zB 62 0<|zA 63 (zM 62)<|zA 64 (.bin .leq (.t 61) (.t 63))<|.nil
def Bf2 : Sts := zG 14 0<|.nil
def Bf3 : Sts := zB 67 14<|zB 68 0<|zA 69 (zM 68)<|zA 70 (.bin .lss (.t 67) (.t 69))<|.nil
def Af0 : Sts := zB 73 9<|zB 74 14<|zA 75 (zH 1 73 74)<|zA 76 (.loadB (.t 75))<|zB 77 76<|.cnd 77 false (zA 78 (zI 0 3)<|zA 79 (zK 78)<|zB 80 14<|zA 81 (zH 1 79 80)<|zA 82 (zJ 81)<|zA 83 (.bin .geq (.t 82) (zN 0))<|zB 84 83<|.cnd 84 true (zB 85 10<|zA 86 (zI 0 3)<|zA 87 (zK 86)<|zB 88 14<|zA 89 (zH 1 87 88)<|zA 90 (zJ 89)<|zA 91 (zH 1 85 90)<|zA 92 (.loadB (.t 91))<|zA 93 (.notb (.t 92))<|.nil) 94 (.t 93)<|.nil) 95 (.t 94)<|.nil
def Af1 : Sts := zB 96 9<|zB 97 14<|zA 98 (zH 1 96 97)<|.op none (.store 1 (.t 98) (.c (.bool true)))<|.nil
def Af2 : Sts := zA 99 (zI 0 3)<|zA 100 (zK 99)<|zB 101 14<|zA 102 (zH 1 100 101)<|zA 103 (zJ 102)<|zA 104 (.bin .geq (.t 103) (zN 0))<|.nil
def Af3 : Sts := zB 105 7<|zB 106 14<|zB 107 8<|zA 108 (zI 0 3)<|zA 109 (zK 108)<|zB 110 14<|zA 111 (zH 1 109 110)<|zA 112 (zJ 111)<|zA 113 (zH 1 107 112)<|zA 114 (zJ 113)<|zA 115 (zH 1 105 106)<|.op none (.store 1 (.t 115) (.t 114))<|.nil
def Af4 : Sts := zB 116 0<|zB 117 14<|zA 118 (zH 6 116 117)<|zA 119 (zI 1 118)<|zA 120 (zI 0 119)<|zA 121 (zJ 120)<|zA 122 (.bin .eql (.t 121) (zN 2))<|.nil
def U5 : AT := .q (zD 0 123 8<|zD 1 124 14<|zD 2 125 7<|zD 3 126 14<|zC 4 127 (zH 1 125 126)<|zC 5 128 (zJ 127)<|zD 6 129 0<|zD 7 130 14<|zC 8 131 (zH 6 129 130)<|zC 9 132 (zI 1 131)<|zC 10 133 (zI 2 132)<|zC 11 134 (zJ 133)<|zC 12 135 (.bin .add (.t 128) (.t 134))<|zC 13 136 (zH 1 123 124)<|.nil)<|.s 14 none (.store 1 (.t 136) (.t 135)) true (zF<|.fin)<|.no
def Ye : Sts := zB 137 10<|zB 138 14<|zA 139 (zH 1 137 138)<|.op none (.store 1 (.t 139) (.c (.bool true)))<|.nil
def Yf : Sts := zB 71 14<|zA 72 (.bin .add (.t 71) (zN 1))<|zB 14 72<|.nil
def Ak0 : RCode := (.seq (.seq (.reg Bf3) (.cond (.t 70) .skip (.exit 5))) (.seq (.block 6 (.seq (.seq (.reg Af0) (.cond (.t 95) (.exit 6) .skip)) (.seq (.reg Af1) (.seq (.seq (.reg Af2) (.cond (.t 104) (.reg Af3) .skip)) (.seq (.reg Af4) (.cond (.t 122) (.seq (.any U5) (.reg Ye)) .skip)))))) (.reg Yf)))
def Bf4 : Sts := zB 65 13<|zA 66 (.bin .add (.t 65) (zN 1))<|zB 13 66<|.nil
def Ak1 : RCode := (.seq (.seq (.reg Bf1) (.cond (.t 64) .skip (.exit 3))) (.seq (.block 4 (.seq (.reg Bf2) (.block 5 (.loop Ak0)))) (.reg Bf4)))
def Bf5 : Sts := zB 140 7<|zB 141 8<|zB 142 9<|zB 4 140<|zB 5 141<|zB 6 142<|.nil
def Q83 : RFun := ⟨143, [0, 1, 3, 4, 5, 6, 7, 8, 9, 10, 11, 12, 13, 14, 45], (.seq (.reg Cy7) (.seq (.reg Cy8) (.seq (.reg Cy9) (.seq (.reg Cz0) (.seq (.reg Cz1) (.seq (.seq (.reg Cz2) (.block 0 (.loop Aj9))) (.seq (.seq (.reg Bf0) (.block 3 (.loop Ak1))) (.seq (.reg Bf5) .ret)))))))), [.tmp 4, .tmp 5, .tmp 6]⟩
theorem Q83_ok : Aj Tryz.prog [0, 1, 3, 4, 5, 6, 7, 8, 9, 10, 11, 12, 13, 14, 45] [15, 20, 31, 71, 88, 41, 76, 86, 65, 83, 81, 114, 117, 119, 122, 68, 100, 103, 104, 105, 137, 138, 64, 72, 96, 99, 158, 159, 132, 56, 93, 94, 130, 131, 155, 62, 23, 170] 43 = some Q83 := by kernel_rfl

def Cz7 : Sts := zA 5 (.box 37 (.t 1))<|zA 8 (.mv (.c (.bool false)))<|.nil
def Cz8 : Sts := zG 9 0<|.nil
def Cz9 : Sts := zB 11 9<|zB 12 0<|zA 13 (zM 12)<|zA 14 (.bin .lss (.t 11) (.t 13))<|.nil
def Da0 : Sts := zB 17 0<|zB 18 9<|zA 19 (zH 6 17 18)<|zA 20 (zI 1 19)<|zA 21 (.loadA 5 (.t 20))<|zA 10 (.alloc 83 [(.int .i64 0), (.int .i64 0), (.int .i64 0), (.int .i64 0), (.int .i64 0)])<|.op none (.store 5 (.t 10) (.t 21))<|.nil
def Da1 : Sts := zB 22 3<|zB 23 9<|zA 24 (zH 1 22 23)<|zA 25 (.loadB (.t 24))<|zA 26 (.notb (.t 25))<|.nil
def Bf6 : AT := .q (zC 0 27 (zI 0 10)<|zC 1 28 (zJ 27)<|zC 2 29 (.bin .eql (.t 28) (zN 3))<|zD 3 30 29<|.g 30 true (zC 4 31 (zI 1 5)<|zC 5 32 (zK 31)<|zD 6 33 9<|zC 7 34 (zH 1 32 33)<|zC 8 35 (.loadB (.t 34))<|zD 9 36 2<|zD 10 37 9<|zC 11 38 (zH 1 36 37)<|zC 12 39 (zJ 38)<|zC 13 40 (zI 2 10)<|zC 14 41 (zJ 40)<|zC 15 42 (.bin .eql (.t 39) (.t 41))<|zC 16 43 (.eqb true (.t 35) (.t 42))<|.nil) 17 44 (.t 43)<|zD 18 45 44<|.g 45 false (zC 19 46 (zI 0 10)<|zC 20 47 (zJ 46)<|zC 21 48 (.bin .eql (.t 47) (zN 4))<|zD 22 49 48<|.g 49 true (zC 23 50 (zI 1 5)<|zC 24 51 (zK 50)<|zD 25 52 9<|zC 26 53 (zH 1 51 52)<|zC 27 54 (.loadB (.t 53))<|.nil) 28 55 (.t 54)<|zD 29 56 55<|.g 56 true (zD 30 57 2<|zD 31 58 9<|zC 32 59 (zH 1 57 58)<|zC 33 60 (zJ 59)<|zC 34 61 (zI 2 10)<|zC 35 62 (zJ 61)<|zC 36 63 (.bin .neq (.t 60) (.t 62))<|.nil) 37 64 (.t 63)<|.nil) 38 65 (.t 64)<|.nil)<|.fin
def Da2 : Sts := zA 8 (.mv (.c (.bool false)))<|.nil
def Da3 : Sts := zB 15 9<|zA 16 (.bin .add (.t 15) (zN 1))<|zB 9 16<|.nil
def Bf7 : RCode := (.seq (.seq (.reg Cz9) (.cond (.t 14) .skip (.exit 0))) (.seq (.block 1 (.seq (.reg Da0) (.seq (.seq (.reg Da1) (.cond (.t 26) (.exit 1) .skip)) (.seq (.any Bf6) (.cond (.t 65) (.seq (.reg Da2) .ret) .skip))))) (.reg Da3)))
def Da4 : Sts := zA 8 (.mv (.c (.bool true)))<|.nil
def Q89 : RFun := ⟨66, [0, 1, 2, 3, 5, 8, 9, 10], (.seq (.reg Cz7) (.seq (.seq (.reg Cz8) (.block 0 (.loop Bf7))) (.seq (.reg Da4) .ret))), [.tmp 8]⟩
theorem Q89_ok : Aj Tryz.prog [0, 1, 2, 3, 5, 8, 9, 10] [15, 20, 31, 71, 88, 41, 76, 86, 65, 83, 81, 114, 117, 119, 122, 68, 100, 103, 104, 105, 137, 138, 64, 72, 96, 99, 158, 159, 132, 56, 93, 94, 130, 131, 155, 62, 23, 170] 44 = some Q89 := by kernel_rfl

def Da5 : Sts := zA 3 (.box 37 (.t 1))<|zA 4 (.mv (.c (.slice none 0 0)))<|zA 5 (.mv (.c (.slice none 0 0)))<|zA 6 (.mv (.c (.bool false)))<|.nil
def Da6 : Sts := zB 12 0<|zA 13 (.loadA 4 (.t 3))<|zA 14 (.call 43 [(.t 12), (.t 13)])<|zB 11 14<|zA 15 (.extract 0 (.t 11))<|zA 16 (.extract 1 (.t 11))<|zA 17 (.extract 2 (.t 11))<|zB 7 15<|zB 8 16<|zB 9 17<|.nil
def Da7 : Sts := zG 10 0<|.nil
def Da8 : Sts := zB 18 10<|zB 19 0<|zA 20 (zM 19)<|zA 21 (.bin .lss (.t 18) (.t 20))<|.nil
def Da9 : Sts := zB 24 9<|zB 25 10<|zA 26 (zH 1 24 25)<|zA 27 (.loadB (.t 26))<|zA 28 (.notb (.t 27))<|.nil
def Db0 : Sts := zA 4 (.mv (.c (.slice none 0 0)))<|zA 5 (.mv (.c (.slice none 0 0)))<|zA 6 (.mv (.c (.bool false)))<|.nil
def Db1 : Sts := zB 22 10<|zA 23 (.bin .add (.t 22) (zN 1))<|zB 10 23<|.nil
def Bf8 : RCode := (.seq (.seq (.reg Da8) (.cond (.t 21) .skip (.exit 0))) (.seq (.block 1 (.seq (.reg Da9) (.cond (.t 28) (.seq (.reg Db0) .ret) .skip))) (.reg Db1)))
def Db2 : Sts := zB 29 7<|zB 30 8<|zB 4 29<|zB 5 30<|zA 6 (.mv (.c (.bool true)))<|.nil
def Q73 : RFun := ⟨31, [0, 1, 3, 4, 5, 6, 7, 8, 9, 10], (.seq (.reg Da5) (.seq (.reg Da6) (.seq (.seq (.reg Da7) (.block 0 (.loop Bf8))) (.seq (.reg Db2) .ret)))), [.tmp 4, .tmp 5, .tmp 6]⟩
theorem Q73_ok : Aj Tryz.prog [0, 1, 3, 4, 5, 6, 7, 8, 9, 10] [15, 20, 31, 71, 88, 41, 76, 86, 65, 83, 81, 114, 117, 119, 122, 68, 100, 103, 104, 105, 137, 138, 64, 72, 96, 99, 158, 159, 132, 56, 93, 94, 130, 131, 155, 62, 23, 170] 45 = some Q73 := by kernel_rfl

def Db3 : Sts := zA 1 (.box 95 (.t 0))<|zA 2 (.mv (.c (.bool false)))<|.nil
def Db4 : Sts := zG 3 0<|.nil
def Db5 : Sts := zB 4 3<|zA 5 (.bin .lss (.t 4) (zN 16))<|.nil
def Db6 : Sts := zB 8 3<|zA 9 (.iaddrA 16 1 (.t 1) (.t 8))<|zA 10 (.loadI .u64 (.t 9))<|zB 11 3<|zA 12 (.conv .u64 (.t 11))<|zA 13 (.bin .shr (.t 10) (.t 12))<|zA 14 (.bin .and (.t 13) (.c (.int .u64 1)))<|zA 15 (.bin .eql (.t 14) (.c (.int .u64 1)))<|.nil
def Db7 : Sts := zA 2 (.mv (.c (.bool true)))<|.nil
def Db8 : Sts := zB 6 3<|zA 7 (.bin .add (.t 6) (zN 1))<|zB 3 7<|.nil
def Bf9 : RCode := (.seq (.seq (.reg Db5) (.cond (.t 5) .skip (.exit 0))) (.seq (.block 1 (.seq (.reg Db6) (.cond (.t 15) (.seq (.reg Db7) .ret) .skip))) (.reg Db8)))
def Db9 : Sts := zA 2 (.mv (.c (.bool false)))<|.nil
def Q76 : RFun := ⟨16, [0, 1, 2, 3], (.seq (.reg Db3) (.seq (.seq (.reg Db4) (.block 0 (.loop Bf9))) (.seq (.reg Db9) .ret))), [.tmp 2]⟩
theorem Q76_ok : Aj Tryz.prog [0, 1, 2, 3] [15, 20, 31, 71, 88, 41, 76, 86, 65, 83, 81, 114, 117, 119, 122, 68, 100, 103, 104, 105, 137, 138, 64, 72, 96, 99, 158, 159, 132, 56, 93, 94, 130, 131, 155, 62, 23, 170] 46 = some Q76 := by kernel_rfl

def Dc0 : Sts := zA 1 (.box 95 (.t 0))<|zA 2 (.alloc 95 [(.int .u64 0), (.int .u64 0), (.int .u64 0), (.int .u64 0), (.int .u64 0), (.int .u64 0), (.int .u64 0), (.int .u64 0), (.int .u64 0), (.int .u64 0), (.int .u64 0), (.int .u64 0), (.int .u64 0), (.int .u64 0), (.int .u64 0), (.int .u64 0)])<|.nil
def Dc1 : Sts := zG 3 0<|.nil
def Dc2 : Sts := zB 5 3<|zA 6 (.bin .lss (.t 5) (zN 16))<|.nil
def Dc3 : Sts := zG 4 0<|.nil
def Dc4 : Sts := zB 9 4<|zA 10 (.bin .lss (.t 9) (zN 16))<|.nil
def Dc5 : Sts := zB 13 4<|zA 14 (.iaddrA 16 1 (.t 1) (.t 13))<|zA 15 (.loadI .u64 (.t 14))<|zB 16 3<|zA 17 (.conv .u64 (.t 16))<|zA 18 (.bin .shr (.t 15) (.t 17))<|zA 19 (.bin .and (.t 18) (.c (.int .u64 1)))<|zA 20 (.bin .eql (.t 19) (.c (.int .u64 1)))<|.nil
def Bg0 : AT := .q (zD 0 21 4<|zD 1 22 4<|zC 2 23 (.iaddrA 16 1 (.t 1) (.t 22))<|zC 3 24 (.loadI .u64 (.t 23))<|zD 4 25 3<|zC 5 26 (.iaddrA 16 1 (.t 1) (.t 25))<|zC 6 27 (.loadI .u64 (.t 26))<|zC 7 28 (.bin .or (.t 24) (.t 27))<|zC 8 29 (.iaddrA 16 1 (.t 1) (.t 21))<|.nil)<|.s 9 none (.store 1 (.t 29) (.t 28)) true (zF<|.fin)<|.no
def Dc6 : Sts := zB 11 4<|zA 12 (.bin .add (.t 11) (zN 1))<|zB 4 12<|.nil
def Bg1 : RCode := (.seq (.seq (.reg Dc4) (.cond (.t 10) .skip (.exit 2))) (.seq (.block 3 (.seq (.reg Dc5) (.cond (.t 20) (.any Bg0) .skip))) (.reg Dc6)))
def Dc7 : Sts := zB 7 3<|zA 8 (.bin .add (.t 7) (zN 1))<|zB 3 8<|.nil
def Bg2 : RCode := (.seq (.seq (.reg Dc2) (.cond (.t 6) .skip (.exit 0))) (.seq (.block 1 (.seq (.reg Dc3) (.block 2 (.loop Bg1)))) (.reg Dc7)))
def Dc8 : Sts := zA 30 (.loadA 16 (.t 1))<|.op none (.store 16 (.t 2) (.t 30))<|.nil
def Q77 : RFun := ⟨31, [0, 1, 2, 3, 4], (.seq (.reg Dc0) (.seq (.seq (.reg Dc1) (.block 0 (.loop Bg2))) (.seq (.reg Dc8) .ret))), [.cellA 2 16]⟩
theorem Q77_ok : Aj Tryz.prog [0, 1, 2, 3, 4] [15, 20, 31, 71, 88, 41, 76, 86, 65, 83, 81, 114, 117, 119, 122, 68, 100, 103, 104, 105, 137, 138, 64, 72, 96, 99, 158, 159, 132, 56, 93, 94, 130, 131, 155, 62, 23, 170] 47 = some Q77 := by kernel_rfl

def Dc9 : Sts := zA 2 (.box 95 (.t 0))<|zA 3 (.box 95 (.t 1))<|zA 4 (.alloc 95 [(.int .u64 0), (.int .u64 0), (.int .u64 0), (.int .u64 0), (.int .u64 0), (.int .u64 0), (.int .u64 0), (.int .u64 0), (.int .u64 0), (.int .u64 0), (.int .u64 0), (.int .u64 0), (.int .u64 0), (.int .u64 0), (.int .u64 0), (.int .u64 0)])<|.nil
def Dd0 : Sts := zG 5 0<|.nil
def Dd1 : Sts := zB 6 5<|zA 7 (.bin .lss (.t 6) (zN 16))<|.nil
def Bg3 : AT := .q (zD 0 10 5<|zD 1 11 5<|zC 2 12 (.iaddrA 16 1 (.t 2) (.t 11))<|zC 3 13 (.loadI .u64 (.t 12))<|zD 4 14 5<|zC 5 15 (.iaddrA 16 1 (.t 3) (.t 14))<|zC 6 16 (.loadI .u64 (.t 15))<|zC 7 17 (.bin .or (.t 13) (.t 16))<|zC 8 18 (.iaddrA 16 1 (.t 2) (.t 10))<|.nil)<|.s 9 none (.store 1 (.t 18) (.t 17)) true (zF<|.fin)<|.no
def Dd2 : Sts := zB 8 5<|zA 9 (.bin .add (.t 8) (zN 1))<|zB 5 9<|.nil
def Bg4 : RCode := (.seq (.seq (.reg Dd1) (.cond (.t 7) .skip (.exit 0))) (.seq (.block 1 (.any Bg3)) (.reg Dd2)))
def Dd3 : Sts := zA 19 (.loadA 16 (.t 2))<|.op none (.store 16 (.t 4) (.t 19))<|.nil
def Q88 : RFun := ⟨20, [0, 1, 2, 3, 4, 5], (.seq (.reg Dc9) (.seq (.seq (.reg Dd0) (.block 0 (.loop Bg4))) (.seq (.reg Dd3) .ret))), [.cellA 4 16]⟩
theorem Q88_ok : Aj Tryz.prog [0, 1, 2, 3, 4, 5] [15, 20, 31, 71, 88, 41, 76, 86, 65, 83, 81, 114, 117, 119, 122, 68, 100, 103, 104, 105, 137, 138, 64, 72, 96, 99, 158, 159, 132, 56, 93, 94, 130, 131, 155, 62, 23, 170] 48 = some Q88 := by kernel_rfl

def Dd4 : Sts := zA 2 (.alloc 95 [(.int .u64 0), (.int .u64 0), (.int .u64 0), (.int .u64 0), (.int .u64 0), (.int .u64 0), (.int .u64 0), (.int .u64 0), (.int .u64 0), (.int .u64 0), (.int .u64 0), (.int .u64 0), (.int .u64 0), (.int .u64 0), (.int .u64 0), (.int .u64 0)])<|.nil
def Dd5 : Sts := zA 3 (.alloc 95 [(.int .u64 0), (.int .u64 0), (.int .u64 0), (.int .u64 0), (.int .u64 0), (.int .u64 0), (.int .u64 0), (.int .u64 0), (.int .u64 0), (.int .u64 0), (.int .u64 0), (.int .u64 0), (.int .u64 0), (.int .u64 0), (.int .u64 0), (.int .u64 0)])<|.nil
def Dd6 : Sts := zG 4 0<|.nil
def Dd7 : Sts := zB 6 4<|zB 7 0<|zA 8 (zM 7)<|zA 9 (.bin .lss (.t 6) (.t 8))<|.nil
def Dd8 : Sts := zB 12 4<|zA 13 (.bin .add (.t 12) (zN 1))<|zB 5 13<|.nil
def Dd9 : Sts := zB 14 5<|zB 15 0<|zA 16 (zM 15)<|zA 17 (.bin .lss (.t 14) (.t 16))<|.nil
def Bg5 : AT := .q (zD 0 20 0<|zD 1 21 4<|zC 2 22 (zH 6 20 21)<|zC 3 23 (zI 0 22)<|zC 4 24 (zJ 23)<|zD 5 25 0<|zD 6 26 5<|zC 7 27 (zH 6 25 26)<|zC 8 28 (zI 0 27)<|zC 9 29 (zJ 28)<|zC 10 30 (.bin .eql (.t 24) (.t 29))<|.nil)<|.fin
def De0 : Sts := zB 31 4<|zB 32 4<|zA 33 (.iaddrA 16 1 (.t 3) (.t 32))<|zA 34 (.loadI .u64 (.t 33))<|zB 35 5<|zA 36 (.conv .u64 (.t 35))<|zA 37 (.bin .shl (.c (.int .u64 1)) (.t 36))<|zA 38 (.bin .or (.t 34) (.t 37))<|zA 39 (.iaddrA 16 1 (.t 3) (.t 31))<|.op none (.store 1 (.t 39) (.t 38))<|.nil
def De1 : Sts := zB 18 5<|zA 19 (.bin .add (.t 18) (zN 1))<|zB 5 19<|.nil
def Bg6 : RCode := (.seq (.seq (.reg Dd9) (.cond (.t 17) .skip (.exit 2))) (.seq (.block 3 (.seq (.any Bg5) (.cond (.t 30) (.reg De0) .skip))) (.reg De1)))
def De2 : Sts := zB 10 4<|zA 11 (.bin .add (.t 10) (zN 1))<|zB 4 11<|.nil
def Ak2 : RCode := (.seq (.seq (.reg Dd7) (.cond (.t 9) .skip (.exit 0))) (.seq (.block 1 (.seq (.reg Dd8) (.block 2 (.loop Bg6)))) (.reg De2)))
def Bg7 : Sts := zA 40 (.loadA 16 (.t 3))<|.op none (.store 16 (.t 2) (.t 40))<|.nil
def Q86 : RFun := ⟨41, [0, 2, 3, 4, 5], (.seq (.reg Dd4) (.seq (.reg Dd5) (.seq (.seq (.reg Dd6) (.block 0 (.loop Ak2))) (.seq (.reg Bg7) .ret)))), [.cellA 2 16]⟩
theorem Q86_ok : Aj Tryz.prog [0, 2, 3, 4, 5] [15, 20, 31, 71, 88, 41, 76, 86, 65, 83, 81, 114, 117, 119, 122, 68, 100, 103, 104, 105, 137, 138, 64, 72, 96, 99, 158, 159, 132, 56, 93, 94, 130, 131, 155, 62, 23, 170] 49 = some Q86 := by kernel_rfl

def De3 : Sts := zA 3 (.box 37 (.t 1))<|zA 4 (.alloc 95 [(.int .u64 0), (.int .u64 0), (.int .u64 0), (.int .u64 0), (.int .u64 0), (.int .u64 0), (.int .u64 0), (.int .u64 0), (.int .u64 0), (.int .u64 0), (.int .u64 0), (.int .u64 0), (.int .u64 0), (.int .u64 0), (.int .u64 0), (.int .u64 0)])<|.nil
def De4 : Sts := zA 5 (.alloc 95 [(.int .u64 0), (.int .u64 0), (.int .u64 0), (.int .u64 0), (.int .u64 0), (.int .u64 0), (.int .u64 0), (.int .u64 0), (.int .u64 0), (.int .u64 0), (.int .u64 0), (.int .u64 0), (.int .u64 0), (.int .u64 0), (.int .u64 0), (.int .u64 0)])<|.nil
def De5 : Sts := zG 6 0<|.nil
def De6 : Sts := zB 7 6<|zB 8 0<|zA 9 (zM 8)<|zA 10 (.bin .lss (.t 7) (.t 9))<|.nil
def De7 : Sts := zA 13 (zI 0 3)<|zA 14 (zK 13)<|zB 15 6<|zA 16 (zH 1 14 15)<|zA 17 (zJ 16)<|zA 18 (.bin .geq (.t 17) (zN 0))<|.nil
def Bg8 : AT := .q (zC 0 19 (zI 0 3)<|zC 1 20 (zK 19)<|zD 2 21 6<|zC 3 22 (zH 1 20 21)<|zC 4 23 (zJ 22)<|zC 5 24 (zI 0 3)<|zC 6 25 (zK 24)<|zD 7 26 6<|zC 8 27 (zH 1 25 26)<|zC 9 28 (zJ 27)<|zC 10 29 (.iaddrA 16 1 (.t 5) (.t 28))<|zC 11 30 (.loadI .u64 (.t 29))<|zD 12 31 6<|zC 13 32 (.conv .u64 (.t 31))<|zC 14 33 (.bin .shl (.c (.int .u64 1)) (.t 32))<|zC 15 34 (.bin .or (.t 30) (.t 33))<|zC 16 35 (.iaddrA 16 1 (.t 5) (.t 23))<|.nil)<|.s 17 none (.store 1 (.t 35) (.t 34)) true (zF<|.fin)<|.no
def De8 : Sts := zB 11 6<|zA 12 (.bin .add (.t 11) (zN 1))<|zB 6 12<|.nil
def Bg9 : RCode := (.seq (.seq (.reg De6) (.cond (.t 10) .skip (.exit 0))) (.seq (.block 1 (.seq (.reg De7) (.cond (.t 18) (.any Bg8) .skip))) (.reg De8)))
def De9 : Sts := zA 36 (.loadA 16 (.t 5))<|.op none (.store 16 (.t 4) (.t 36))<|.nil
def Q79 : RFun := ⟨37, [0, 1, 3, 4, 5, 6], (.seq (.reg De3) (.seq (.reg De4) (.seq (.seq (.reg De5) (.block 0 (.loop Bg9))) (.seq (.reg De9) .ret)))), [.cellA 4 16]⟩
theorem Q79_ok : Aj Tryz.prog [0, 1, 3, 4, 5, 6] [15, 20, 31, 71, 88, 41, 76, 86, 65, 83, 81, 114, 117, 119, 122, 68, 100, 103, 104, 105, 137, 138, 64, 72, 96, 99, 158, 159, 132, 56, 93, 94, 130, 131, 155, 62, 23, 170] 50 = some Q79 := by kernel_rfl

def Df0 : Sts := zA 1 (.box 37 (.t 0))<|zA 2 (.alloc 95 [(.int .u64 0), (.int .u64 0), (.int .u64 0), (.int .u64 0), (.int .u64 0), (.int .u64 0), (.int .u64 0), (.int .u64 0), (.int .u64 0), (.int .u64 0), (.int .u64 0), (.int .u64 0), (.int .u64 0), (.int .u64 0), (.int .u64 0), (.int .u64 0)])<|.nil
def Df1 : Sts := zA 3 (.alloc 95 [(.int .u64 0), (.int .u64 0), (.int .u64 0), (.int .u64 0), (.int .u64 0), (.int .u64 0), (.int .u64 0), (.int .u64 0), (.int .u64 0), (.int .u64 0), (.int .u64 0), (.int .u64 0), (.int .u64 0), (.int .u64 0), (.int .u64 0), (.int .u64 0)])<|.nil
def Df2 : Sts := zG 4 0<|.nil
def Df3 : Sts := zB 6 4<|zA 7 (zI 3 1)<|zA 8 (zK 7)<|zA 9 (zM 8)<|zA 10 (.bin .lss (.t 6) (.t 9))<|.nil
def Df4 : Sts := zB 13 4<|zA 14 (.bin .add (.t 13) (zN 1))<|zB 5 14<|.nil
def Df5 : Sts := zB 15 5<|zA 16 (zI 3 1)<|zA 17 (zK 16)<|zA 18 (zM 17)<|zA 19 (.bin .lss (.t 15) (.t 18))<|.nil
def Bh0 : AT := .q (zC 0 22 (zI 3 1)<|zC 1 23 (zK 22)<|zD 2 24 4<|zC 3 25 (zH 1 23 24)<|zC 4 26 (zJ 25)<|zC 5 27 (zI 3 1)<|zC 6 28 (zK 27)<|zD 7 29 4<|zC 8 30 (zH 1 28 29)<|zC 9 31 (zJ 30)<|zC 10 32 (.iaddrA 16 1 (.t 3) (.t 31))<|zC 11 33 (.loadI .u64 (.t 32))<|zC 12 34 (zI 3 1)<|zC 13 35 (zK 34)<|zD 14 36 5<|zC 15 37 (zH 1 35 36)<|zC 16 38 (zJ 37)<|zC 17 39 (.conv .u64 (.t 38))<|zC 18 40 (.bin .shl (.c (.int .u64 1)) (.t 39))<|zC 19 41 (.bin .or (.t 33) (.t 40))<|zC 20 42 (.iaddrA 16 1 (.t 3) (.t 26))<|.nil)<|.s 21 none (.store 1 (.t 42) (.t 41)) true (zF<|.fin)<|.no
def Df6 : Sts := zB 20 5<|zA 21 (.bin .add (.t 20) (zN 1))<|zB 5 21<|.nil
def Bh1 : RCode := (.seq (.seq (.reg Df5) (.cond (.t 19) .skip (.exit 2))) (.seq (.block 3 (.any Bh0)) (.reg Df6)))
def Df7 : Sts := zB 11 4<|zA 12 (.bin .add (.t 11) (zN 1))<|zB 4 12<|.nil
def Bh2 : RCode := (.seq (.seq (.reg Df3) (.cond (.t 10) .skip (.exit 0))) (.seq (.block 1 (.seq (.reg Df4) (.block 2 (.loop Bh1)))) (.reg Df7)))
def Df8 : Sts := zA 43 (.loadA 16 (.t 3))<|.op none (.store 16 (.t 2) (.t 43))<|.nil
def Q87 : RFun := ⟨44, [0, 1, 2, 3, 4, 5], (.seq (.reg Df0) (.seq (.reg Df1) (.seq (.seq (.reg Df2) (.block 0 (.loop Bh2))) (.seq (.reg Df8) .ret)))), [.cellA 2 16]⟩
theorem Q87_ok : Aj Tryz.prog [0, 1, 2, 3, 4, 5] [15, 20, 31, 71, 88, 41, 76, 86, 65, 83, 81, 114, 117, 119, 122, 68, 100, 103, 104, 105, 137, 138, 64, 72, 96, 99, 158, 159, 132, 56, 93, 94, 130, 131, 155, 62, 23, 170] 51 = some Q87 := by kernel_rfl

def Df9 : Sts := zA 2 (.box 95 (.t 0))<|zA 3 (.box 95 (.t 1))<|zA 4 (.mv (.c (.bool false)))<|.nil
def Dg0 : Sts := zA 7 (.loadA 16 (.t 2))<|zA 8 (.call 46 [(.t 7)])<|.nil
def Dg1 : Sts := zA 4 (.mv (.c (.bool true)))<|.nil
def Dg2 : Sts := zG 5 0<|.nil
def Dg3 : Sts := zB 9 5<|zA 10 (.bin .lss (.t 9) (zN 16))<|.nil
def Dg4 : Sts := zG 6 0<|.nil
def Dg5 : Sts := zB 13 6<|zA 14 (.bin .lss (.t 13) (zN 16))<|.nil
def Dg6 : Sts := zB 17 5<|zA 18 (.iaddrA 16 1 (.t 2) (.t 17))<|zA 19 (.loadI .u64 (.t 18))<|zB 20 6<|zA 21 (.conv .u64 (.t 20))<|zA 22 (.bin .shr (.t 19) (.t 21))<|zA 23 (.bin .and (.t 22) (.c (.int .u64 1)))<|zA 24 (.bin .eql (.t 23) (.c (.int .u64 1)))<|zB 25 24<|.cnd 25 true (zB 26 6<|zA 27 (.iaddrA 16 1 (.t 3) (.t 26))<|zA 28 (.loadI .u64 (.t 27))<|zB 29 5<|zA 30 (.conv .u64 (.t 29))<|zA 31 (.bin .shr (.t 28) (.t 30))<|zA 32 (.bin .and (.t 31) (.c (.int .u64 1)))<|zA 33 (.bin .eql (.t 32) (.c (.int .u64 1)))<|.nil) 34 (.t 33)<|.nil
def Dg7 : Sts := zA 4 (.mv (.c (.bool true)))<|.nil
def Dg8 : Sts := zB 15 6<|zA 16 (.bin .add (.t 15) (zN 1))<|zB 6 16<|.nil
def Ak3 : RCode := (.seq (.seq (.reg Dg5) (.cond (.t 14) .skip (.exit 2))) (.seq (.block 3 (.seq (.reg Dg6) (.cond (.t 34) (.seq (.reg Dg7) .ret) .skip))) (.reg Dg8)))
def Bh3 : Sts := zB 11 5<|zA 12 (.bin .add (.t 11) (zN 1))<|zB 5 12<|.nil
def Ak4 : RCode := (.seq (.seq (.reg Dg3) (.cond (.t 10) .skip (.exit 0))) (.seq (.block 1 (.seq (.reg Dg4) (.block 2 (.loop Ak3)))) (.reg Bh3)))
def Bh4 : Sts := zA 4 (.mv (.c (.bool false)))<|.nil
def Q75 : RFun := ⟨35, [0, 1, 2, 3, 4, 5, 6], (.seq (.reg Df9) (.seq (.seq (.reg Dg0) (.cond (.t 8) (.seq (.reg Dg1) .ret) .skip)) (.seq (.seq (.reg Dg2) (.block 0 (.loop Ak4))) (.seq (.reg Bh4) .ret)))), [.tmp 4]⟩
theorem Q75_ok : Aj Tryz.prog [0, 1, 2, 3, 4, 5, 6] [15, 20, 31, 71, 88, 41, 76, 86, 65, 83, 81, 114, 117, 119, 122, 68, 100, 103, 104, 105, 137, 138, 64, 72, 96, 99, 158, 159, 132, 56, 93, 94, 130, 131, 155, 62, 23, 170] 52 = some Q75 := by kernel_rfl

def Dg9 : Sts := zA 3 (.box 37 (.t 1))<|zA 4 (.alloc 95 [(.int .u64 0), (.int .u64 0), (.int .u64 0), (.int .u64 0), (.int .u64 0), (.int .u64 0), (.int .u64 0), (.int .u64 0), (.int .u64 0), (.int .u64 0), (.int .u64 0), (.int .u64 0), (.int .u64 0), (.int .u64 0), (.int .u64 0), (.int .u64 0)])<|.nil
def Bh5 : AT := .q (zD 0 5 0<|zD 2 7 0<|zC 3 8 (.loadA 4 (.t 3))<|zC 5 10 (.loadA 4 (.t 3))<|.nil)<|zE 1 6 (.call 49 [(.t 5)]) false (zF<|zE 4 9 (.call 95 [(.t 7), (.t 8)]) false (zF<|zE 6 11 (.call 51 [(.t 10)]) true (zF<|zE 7 12 (.call 48 [(.t 9), (.t 11)]) true (zF<|zE 8 13 (.call 48 [(.t 6), (.t 12)]) true (zF<|zE 9 14 (.call 47 [(.t 13)]) true (zF<|.s 10 none (.store 16 (.t 4) (.t 14)) true (zF<|.fin)<|.no)<|.no)<|.no)<|.no)<|.no)<|.no)<|.no
def Q74 : RFun := ⟨15, [0, 1, 3, 4], (.seq (.reg Dg9) (.seq (.any Bh5) .ret)), [.cellA 4 16]⟩
theorem Q74_ok : Aj Tryz.prog [0, 1, 3, 4] [15, 20, 31, 71, 88, 41, 76, 86, 65, 83, 81, 114, 117, 119, 122, 68, 100, 103, 104, 105, 137, 138, 64, 72, 96, 99, 158, 159, 132, 56, 93, 94, 130, 131, 155, 62, 23, 170] 53 = some Q74 := by kernel_rfl

def Dh0 : Sts := zA 3 (.box 37 (.t 1))<|zA 4 (.alloc 95 [(.int .u64 0), (.int .u64 0), (.int .u64 0), (.int .u64 0), (.int .u64 0), (.int .u64 0), (.int .u64 0), (.int .u64 0), (.int .u64 0), (.int .u64 0), (.int .u64 0), (.int .u64 0), (.int .u64 0), (.int .u64 0), (.int .u64 0), (.int .u64 0)])<|.nil
def Dh1 : Sts := zB 12 0<|zA 13 (.loadA 4 (.t 3))<|zA 14 (.call 50 [(.t 12), (.t 13)])<|zA 5 (.alloc 95 [(.int .u64 0), (.int .u64 0), (.int .u64 0), (.int .u64 0), (.int .u64 0), (.int .u64 0), (.int .u64 0), (.int .u64 0), (.int .u64 0), (.int .u64 0), (.int .u64 0), (.int .u64 0), (.int .u64 0), (.int .u64 0), (.int .u64 0), (.int .u64 0)])<|.op none (.store 16 (.t 5) (.t 14))<|.nil
def Dh2 : Sts := zG 6 0<|.nil
def Dh3 : Sts := zB 15 6<|zA 16 (.bin .lss (.t 15) (zN 3))<|.nil
def Dh4 : Sts := zG 7 0<|.nil
def Dh5 : Sts := zB 19 7<|zA 20 (zI 2 3)<|zA 21 (zK 20)<|zB 22 6<|zA 23 (zH 1 21 22)<|zA 24 (zK 23)<|zA 25 (zM 24)<|zA 26 (.bin .lss (.t 19) (.t 25))<|.nil
def Dh6 : Sts := zA 29 (zI 2 3)<|zA 30 (zK 29)<|zB 31 6<|zA 32 (zH 1 30 31)<|zA 33 (zK 32)<|zB 34 7<|zA 35 (zH 1 33 34)<|zA 36 (zJ 35)<|zB 8 36<|.nil
def Dh7 : Sts := zB 37 7<|zA 38 (.bin .add (.t 37) (zN 1))<|zB 9 38<|.nil
def Dh8 : Sts := zB 39 9<|zA 40 (zI 2 3)<|zA 41 (zK 40)<|zB 42 6<|zA 43 (zH 1 41 42)<|zA 44 (zK 43)<|zA 45 (zM 44)<|zA 46 (.bin .lss (.t 39) (.t 45))<|.nil
def Bh6 : AT := .q (zD 0 49 8<|zD 1 50 8<|zC 2 51 (.iaddrA 16 1 (.t 5) (.t 50))<|zC 3 52 (.loadI .u64 (.t 51))<|zC 4 53 (zI 2 3)<|zC 5 54 (zK 53)<|zD 6 55 6<|zC 7 56 (zH 1 54 55)<|zC 8 57 (zK 56)<|zD 9 58 9<|zC 10 59 (zH 1 57 58)<|zC 11 60 (zJ 59)<|zC 12 61 (.conv .u64 (.t 60))<|zC 13 62 (.bin .shl (.c (.int .u64 1)) (.t 61))<|zC 14 63 (.bin .or (.t 52) (.t 62))<|zC 15 64 (.iaddrA 16 1 (.t 5) (.t 49))<|.nil)<|.s 16 none (.store 1 (.t 64) (.t 63)) true (zF<|.fin)<|.no
def Bh7 : Sts := zB 47 9<|zA 48 (.bin .add (.t 47) (zN 1))<|zB 9 48<|.nil
def Ak5 : RCode := (.seq (.seq (.reg Dh8) (.cond (.t 46) .skip (.exit 4))) (.seq (.block 5 (.any Bh6)) (.reg Bh7)))
def Bh8 : Sts := zG 10 0<|.nil
def Bh9 : Sts := zB 65 10<|zB 66 0<|zA 67 (zM 66)<|zA 68 (.bin .lss (.t 65) (.t 67))<|.nil
def Bi0 : Sts := zA 71 (zI 0 3)<|zA 72 (zK 71)<|zB 73 10<|zA 74 (zH 1 72 73)<|zA 75 (zJ 74)<|zA 76 (.bin .eql (.t 75) (.c (.int .i64 (-1))))<|zB 77 76<|.cnd 77 true (zB 78 0<|zB 79 10<|zA 80 (zH 6 78 79)<|zA 81 (zI 1 80)<|zA 82 (zI 1 81)<|zA 83 (zJ 82)<|zB 84 6<|zA 85 (.bin .eql (.t 83) (.t 84))<|.nil) 86 (.t 85)<|zB 87 86<|.cnd 87 true (zB 88 8<|zB 89 10<|zA 90 (.bin .neq (.t 88) (.t 89))<|.nil) 91 (.t 90)<|.nil
def Bi1 : Sts := zB 92 10<|zB 93 10<|zA 94 (.iaddrA 16 1 (.t 5) (.t 93))<|zA 95 (.loadI .u64 (.t 94))<|zB 96 8<|zA 97 (.conv .u64 (.t 96))<|zA 98 (.bin .shl (.c (.int .u64 1)) (.t 97))<|zA 99 (.bin .or (.t 95) (.t 98))<|zA 100 (.iaddrA 16 1 (.t 5) (.t 92))<|.op none (.store 1 (.t 100) (.t 99))<|.nil
def Bi2 : Sts := zB 101 7<|zA 102 (.bin .add (.t 101) (zN 1))<|zB 11 102<|.nil
def Bi3 : Sts := zB 103 11<|zA 104 (zI 2 3)<|zA 105 (zK 104)<|zB 106 6<|zA 107 (zH 1 105 106)<|zA 108 (zK 107)<|zA 109 (zM 108)<|zA 110 (.bin .lss (.t 103) (.t 109))<|.nil
def Bi4 : Sts := zA 113 (zI 0 3)<|zA 114 (zK 113)<|zB 115 10<|zA 116 (zH 1 114 115)<|zA 117 (zJ 116)<|zB 118 8<|zA 119 (.bin .eql (.t 117) (.t 118))<|zB 120 119<|.cnd 120 true (zA 121 (zI 2 3)<|zA 122 (zK 121)<|zB 123 6<|zA 124 (zH 1 122 123)<|zA 125 (zK 124)<|zB 126 11<|zA 127 (zH 1 125 126)<|zA 128 (zJ 127)<|zB 129 10<|zA 130 (.bin .neq (.t 128) (.t 129))<|.nil) 131 (.t 130)<|.nil
def Af5 : AT := .q (zD 0 132 10<|zD 1 133 10<|zC 2 134 (.iaddrA 16 1 (.t 5) (.t 133))<|zC 3 135 (.loadI .u64 (.t 134))<|zC 4 136 (zI 2 3)<|zC 5 137 (zK 136)<|zD 6 138 6<|zC 7 139 (zH 1 137 138)<|zC 8 140 (zK 139)<|zD 9 141 11<|zC 10 142 (zH 1 140 141)<|zC 11 143 (zJ 142)<|zC 12 144 (.conv .u64 (.t 143))<|zC 13 145 (.bin .shl (.c (.int .u64 1)) (.t 144))<|zC 14 146 (.bin .or (.t 135) (.t 145))<|zC 15 147 (.iaddrA 16 1 (.t 5) (.t 132))<|.nil)<|.s 16 none (.store 1 (.t 147) (.t 146)) true (zF<|.fin)<|.no
def Bi5 : Sts := zB 111 11<|zA 112 (.bin .add (.t 111) (zN 1))<|zB 11 112<|.nil
def Ak6 : RCode := (.seq (.seq (.reg Bi3) (.cond (.t 110) .skip (.exit 8))) (.seq (.block 9 (.seq (.reg Bi4) (.cond (.t 131) (.any Af5) .skip))) (.reg Bi5)))
def Bi6 : Sts := zB 69 10<|zA 70 (.bin .add (.t 69) (zN 1))<|zB 10 70<|.nil
def Ak7 : RCode := (.seq (.seq (.reg Bh9) (.cond (.t 68) .skip (.exit 6))) (.seq (.block 7 (.seq (.seq (.reg Bi0) (.cond (.t 91) (.reg Bi1) .skip)) (.seq (.reg Bi2) (.block 8 (.loop Ak6))))) (.reg Bi6)))
def Bi7 : Sts := zB 27 7<|zA 28 (.bin .add (.t 27) (zN 1))<|zB 7 28<|.nil
def Ak8 : RCode := (.seq (.seq (.reg Dh5) (.cond (.t 26) .skip (.exit 2))) (.seq (.block 3 (.seq (.reg Dh6) (.seq (.seq (.reg Dh7) (.block 4 (.loop Ak5))) (.seq (.reg Bh8) (.block 6 (.loop Ak7)))))) (.reg Bi7)))
def Bi8 : Sts := zB 17 6<|zA 18 (.bin .add (.t 17) (zN 1))<|zB 6 18<|.nil
def Ak9 : RCode := (.seq (.seq (.reg Dh3) (.cond (.t 16) .skip (.exit 0))) (.seq (.block 1 (.seq (.reg Dh4) (.block 2 (.loop Ak8)))) (.reg Bi8)))
def Bi9 : Sts := zA 148 (.loadA 16 (.t 5))<|zA 149 (.call 47 [(.t 148)])<|.op none (.store 16 (.t 4) (.t 149))<|.nil
def Q84 : RFun := ⟨150, [0, 1, 3, 4, 5, 6, 7, 8, 9, 10, 11], (.seq (.reg Dh0) (.seq (.reg Dh1) (.seq (.seq (.reg Dh2) (.block 0 (.loop Ak9))) (.seq (.reg Bi9) .ret)))), [.cellA 4 16]⟩
theorem Q84_ok : Aj Tryz.prog [0, 1, 3, 4, 5, 6, 7, 8, 9, 10, 11] [15, 20, 31, 71, 88, 41, 76, 86, 65, 83, 81, 114, 117, 119, 122, 68, 100, 103, 104, 105, 137, 138, 64, 72, 96, 99, 158, 159, 132, 56, 93, 94, 130, 131, 155, 62, 23, 170] 54 = some Q84 := by kernel_rfl

def Dh9 : Sts := zA 3 (.box 37 (.t 1))<|zA 4 (.mv (.c (.bool false)))<|.nil
def Di0 : Sts := zG 5 0<|.nil
def Di1 : Sts := zB 9 5<|zA 10 (.bin .lss (.t 9) (zN 3))<|.nil
def Di2 : Sts := zG 6 0<|.nil
def Di3 : Sts := zB 13 6<|zA 14 (zI 2 3)<|zA 15 (zK 14)<|zB 16 5<|zA 17 (zH 1 15 16)<|zA 18 (zK 17)<|zA 19 (zM 18)<|zA 20 (.bin .lss (.t 13) (.t 19))<|.nil
def Di4 : Sts := zA 23 (zI 2 3)<|zA 24 (zK 23)<|zB 25 5<|zA 26 (zH 1 24 25)<|zA 27 (zK 26)<|zB 28 6<|zA 29 (zH 1 27 28)<|zA 30 (zJ 29)<|zB 7 30<|.nil
def Di5 : Sts := zA 8 (.mv (.c (.int .i64 (-1))))<|.nil
def Di6 : Sts := zB 31 6<|zA 32 (.bin .gtr (.t 31) (zN 0))<|.nil
def Di7 : Sts := zA 33 (zI 2 3)<|zA 34 (zK 33)<|zB 35 5<|zA 36 (zH 1 34 35)<|zA 37 (zK 36)<|zB 38 6<|zA 39 (.bin .sub (.t 38) (zN 1))<|zA 40 (zH 1 37 39)<|zA 41 (zJ 40)<|zB 8 41<|.nil
def Di8 : Sts := zB 42 0<|zB 43 7<|zA 44 (zH 6 42 43)<|zA 45 (zI 1 44)<|zA 46 (.loadA 5 (.t 45))<|zA 47 (.call 56 [(.t 46)])<|zB 48 47<|.cnd 48 true (zA 49 (zI 0 3)<|zA 50 (zK 49)<|zB 51 7<|zA 52 (zH 1 50 51)<|zA 53 (zJ 52)<|zB 54 8<|zA 55 (.bin .neq (.t 53) (.t 54))<|.nil) 56 (.t 55)<|.nil
def Bj0 : Sts := zA 4 (.mv (.c (.bool false)))<|.nil
def Bj1 : Sts := zB 21 6<|zA 22 (.bin .add (.t 21) (zN 1))<|zB 6 22<|.nil
def Al0 : RCode := (.seq (.seq (.reg Di3) (.cond (.t 20) .skip (.exit 2))) (.seq (.block 3 (.seq (.reg Di4) (.seq (.reg Di5) (.seq (.seq (.reg Di6) (.cond (.t 32) (.reg Di7) .skip)) (.seq (.reg Di8) (.cond (.t 56) (.seq (.reg Bj0) .ret) .skip)))))) (.reg Bj1)))
def Bj2 : Sts := zB 11 5<|zA 12 (.bin .add (.t 11) (zN 1))<|zB 5 12<|.nil
def Al1 : RCode := (.seq (.seq (.reg Di1) (.cond (.t 10) .skip (.exit 0))) (.seq (.block 1 (.seq (.reg Di2) (.block 2 (.loop Al0)))) (.reg Bj2)))
def Bj3 : Sts := zA 4 (.mv (.c (.bool true)))<|.nil
def Q81 : RFun := ⟨57, [0, 1, 3, 4, 5, 6, 7, 8], (.seq (.reg Dh9) (.seq (.seq (.reg Di0) (.block 0 (.loop Al1))) (.seq (.reg Bj3) .ret))), [.tmp 4]⟩
theorem Q81_ok : Aj Tryz.prog [0, 1, 3, 4, 5, 6, 7, 8] [15, 20, 31, 71, 88, 41, 76, 86, 65, 83, 81, 114, 117, 119, 122, 68, 100, 103, 104, 105, 137, 138, 64, 72, 96, 99, 158, 159, 132, 56, 93, 94, 130, 131, 155, 62, 23, 170] 55 = some Q81 := by kernel_rfl

def Di9 : Sts := zA 1 (.box 83 (.t 0))<|zA 2 (.mv (.c (.bool false)))<|.nil
def Dj0 : Sts := zA 3 (zI 0 1)<|zA 4 (zJ 3)<|zA 5 (.bin .eql (.t 4) (zN 0))<|zB 6 5<|.cnd 6 false (zA 7 (zI 0 1)<|zA 8 (zJ 7)<|zA 9 (.bin .geq (.t 8) (zN 2))<|zB 10 9<|.cnd 10 true (zA 11 (zI 0 1)<|zA 12 (zJ 11)<|zA 13 (.bin .leq (.t 12) (zN 4))<|.nil) 14 (.t 13)<|.nil) 15 (.t 14)<|zB 2 15<|.nil
def Q82 : RFun := ⟨16, [0, 1, 2], (.seq (.reg Di9) (.seq (.reg Dj0) .ret)), [.tmp 2]⟩
theorem Q82_ok : Aj Tryz.prog [0, 1, 2] [15, 20, 31, 71, 88, 41, 76, 86, 65, 83, 81, 114, 117, 119, 122, 68, 100, 103, 104, 105, 137, 138, 64, 72, 96, 99, 158, 159, 132, 56, 93, 94, 130, 131, 155, 62, 23, 170] 56 = some Q82 := by kernel_rfl

def Dj1 : Sts := zA 1 (.box 24 (.t 0))<|zA 2 (.mv (.c (.bool false)))<|.nil
def Dj2 : Sts := zA 10 (zI 0 1)<|zA 11 (zK 10)<|zA 12 (zM 11)<|zA 13 (.bin .gtr (.t 12) (zN 3))<|.nil
def Dj3 : Sts := zA 2 (.mv (.c (.bool false)))<|.nil
def Dj4 : Sts := zG 3 0<|zG 4 0<|.nil
def Dj5 : Sts := zA 5 (.alloc 142 [(.int .i64 0), (.int .i64 0), (.int .i64 0)])<|.nil
def Dj6 : Sts := zA 14 (zI 0 1)<|zA 15 (zK 14)<|zA 16 (zM 15)<|zG 17 0<|.nil
def Dj7 : Sts := zA 18 (.bin .lss (.t 17) (.t 16))<|.nil
def Dj8 : Sts := zA 19 (zH 1 15 17)<|zA 20 (zK 19)<|zB 7 20<|.nil
def Dj9 : Sts := zB 21 7<|zA 22 (zM 21)<|zG 23 0<|.nil
def Dk0 : Sts := zA 24 (.bin .lss (.t 23) (.t 22))<|.nil
def Bj4 : Sts := zA 25 (zH 5 21 23)<|zA 26 (.loadA 5 (.t 25))<|zA 9 (.alloc 83 [(.int .i64 0), (.int .i64 0), (.int .i64 0), (.int .i64 0), (.int .i64 0)])<|.op none (.store 5 (.t 9) (.t 26))<|.nil
def Bj5 : Sts := zA 28 (zI 0 9)<|zA 29 (zJ 28)<|zA 30 (.bin .eql (.t 29) (zN 5))<|zB 27 30<|.nil
def Bj6 : Sts := zB 31 4<|zA 32 (.bin .add (.t 31) (zN 1))<|zB 4 32<|.nil
def Bj7 : Sts := zA 34 (.loadA 5 (.t 9))<|zA 35 (.call 71 [(.t 34)])<|zB 33 35<|.nil
def Bj8 : Sts := zB 36 3<|zA 37 (.bin .add (.t 36) (zN 1))<|zB 3 37<|.nil
def Bj9 : Sts := zA 38 (zI 4 9)<|zA 39 (zJ 38)<|zA 40 (.bin .eql (.t 39) (zN 4))<|.nil
def Bk0 : Sts := zB 41 4<|zA 42 (.bin .add (.t 41) (zN 2))<|zB 4 42<|.nil
def Bk1 : Sts := zA 43 (zI 0 9)<|zA 44 (zJ 43)<|zA 45 (.bin .neq (.t 44) (zN 0))<|zB 46 45<|.cnd 46 true (zA 47 (zI 1 9)<|zA 48 (zJ 47)<|zA 49 (.bin .geq (.t 48) (zN 0))<|.nil) 50 (.t 49)<|zB 51 50<|.cnd 51 true (zA 52 (zI 1 9)<|zA 53 (zJ 52)<|zA 54 (.bin .lss (.t 53) (zN 3))<|.nil) 55 (.t 54)<|.nil
def Bk2 : Sts := zA 56 (zI 1 9)<|zA 57 (zJ 56)<|zA 58 (.iaddrA 3 1 (.t 5) (.t 57))<|zA 59 (zJ 58)<|zA 60 (.bin .add (.t 59) (zN 1))<|zA 61 (.iaddrA 3 1 (.t 5) (.t 57))<|.op none (.store 1 (.t 61) (.t 60))<|.nil
def Bk3 : Sts := zA 62 (.bin .add (.t 23) (zN 1))<|zB 23 62<|.nil
def Al2 : RCode := (.seq (.reg Dk0) (.seq (.cond (.t 24) .skip (.exit 2)) (.seq (.block 3 (.seq (.reg Bj4) (.block 4 (.seq (.reg Bj5) (.cond (.t 27) (.reg Bj6) (.seq (.reg Bj7) (.cond (.t 33) (.seq (.reg Bj8) (.seq (.seq (.reg Bj9) (.cond (.t 40) (.reg Bk0) .skip)) (.seq (.reg Bk1) (.cond (.t 55) (.reg Bk2) .skip)))) .skip))))))) (.reg Bk3))))
def Bk4 : Sts := zA 63 (.bin .add (.t 17) (zN 1))<|zB 17 63<|.nil
def Al3 : RCode := (.seq (.reg Dj7) (.seq (.cond (.t 18) .skip (.exit 0)) (.seq (.block 1 (.seq (.reg Dj8) (.seq (.reg Dj9) (.block 2 (.loop Al2))))) (.reg Bk4))))
def Bk5 : Sts := zB 64 3<|zA 65 (.bin .leq (.t 64) (zN 6))<|zB 66 65<|.cnd 66 true (zB 67 4<|zA 68 (.bin .leq (.t 67) (zN 8))<|.nil) 69 (.t 68)<|zB 70 69<|.cnd 70 true (zA 71 (.slA 3 1 (.t 5) none none)<|zA 72 (.call 98 [(.t 71)])<|zA 73 (.bin .leq (.t 72) (zN 4))<|.nil) 74 (.t 73)<|zB 2 74<|.nil
def Q55 : RFun := ⟨75, [0, 1, 2, 3, 4, 5, 7, 9, 15, 16, 17, 21, 22, 23], (.seq (.reg Dj1) (.seq (.seq (.reg Dj2) (.cond (.t 13) (.seq (.reg Dj3) .ret) .skip)) (.seq (.reg Dj4) (.seq (.reg Dj5) (.seq (.seq (.reg Dj6) (.block 0 (.loop Al3))) (.seq (.reg Bk5) .ret)))))), [.tmp 2]⟩
theorem Q55_ok : Aj Tryz.prog [0, 1, 2, 3, 4, 5, 7, 9, 15, 16, 17, 21, 22, 23] [15, 20, 31, 71, 88, 41, 76, 86, 65, 83, 81, 114, 117, 119, 122, 68, 100, 103, 104, 105, 137, 138, 64, 72, 96, 99, 158, 159, 132, 56, 93, 94, 130, 131, 155, 62, 23, 170] 63 = some Q55 := by kernel_rfl

def Dk1 : Sts := zA 4 (.mv (.c (.bool false)))<|zG 5 0<|.nil
def Dk2 : Sts := zB 6 0<|zA 7 (.bin .lss (.t 6) (zN 0))<|zB 8 7<|.cnd 8 false (zB 9 0<|zA 10 (.bin .geq (.t 9) (zN 6))<|.nil) 11 (.t 10)<|zB 12 11<|.cnd 12 false (zB 13 1<|zA 14 (.call 96 [(.t 13)])<|zA 15 (.notb (.t 14))<|.nil) 16 (.t 15)<|.nil
def Dk3 : Sts := zA 4 (.mv (.c (.bool false)))<|zG 5 1<|.nil
def Dk4 : Sts := zB 17 0<|zB 18 1<|zA 19 (.call 99 [(.t 17), (.t 18)])<|zB 4 19<|zG 5 0<|.nil
def Q92 : RFun := ⟨20, [0, 1, 4, 5], (.seq (.reg Dk1) (.seq (.seq (.reg Dk2) (.cond (.t 16) (.seq (.reg Dk3) .ret) .skip)) (.seq (.reg Dk4) .ret))), [.tmp 4, .tmp 5]⟩
theorem Q92_ok : Aj Tryz.prog [0, 1, 4, 5] [15, 20, 31, 71, 88, 41, 76, 86, 65, 83, 81, 114, 117, 119, 122, 68, 100, 103, 104, 105, 137, 138, 64, 72, 96, 99, 158, 159, 132, 56, 93, 94, 130, 131, 155, 62, 23, 170] 64 = some Q92 := by kernel_rfl

def Dk5 : Sts := zA 1 (.box 83 (.t 0))<|zA 2 (.mv (.c (.bool false)))<|.nil
def Dk6 : Sts := zA 3 (zI 1 1)<|zA 4 (zJ 3)<|zA 5 (.bin .lss (.t 4) (zN 0))<|zB 6 5<|.cnd 6 false (zA 7 (zI 1 1)<|zA 8 (zJ 7)<|zA 9 (.bin .geq (.t 8) (zN 3))<|.nil) 10 (.t 9)<|.nil
def Dk7 : Sts := zA 2 (.mv (.c (.bool false)))<|.nil
def Dk8 : Sts := zA 11 (zI 0 1)<|zA 12 (zJ 11)<|.nil
def Dk9 : Sts := zA 14 (.bin .eql (.t 12) (zN 0))<|zB 13 14<|.nil
def Dl0 : Sts := zA 15 (zI 2 1)<|zA 16 (zJ 15)<|zA 17 (.bin .eql (.t 16) (zN 0))<|zB 18 17<|.cnd 18 true (zA 19 (zI 3 1)<|zA 20 (zJ 19)<|zA 21 (.bin .eql (.t 20) (zN 0))<|.nil) 22 (.t 21)<|zB 2 22<|.nil
def Dl1 : Sts := zA 24 (.bin .eql (.t 12) (zN 1))<|zB 23 24<|.nil
def Dl2 : Sts := zA 25 (zI 2 1)<|zA 26 (zJ 25)<|zA 27 (.call 100 [(.t 26)])<|zB 28 27<|.cnd 28 true (zA 29 (zI 3 1)<|zA 30 (zJ 29)<|zA 31 (.bin .eql (.t 30) (zN 0))<|.nil) 32 (.t 31)<|zB 2 32<|.nil
def Dl3 : Sts := zA 34 (.bin .eql (.t 12) (zN 2))<|zB 33 34<|.nil
def Dl4 : Sts := zA 35 (zI 2 1)<|zA 36 (zJ 35)<|zA 37 (.bin .geq (.t 36) (.c (.int .i64 (-9))))<|zB 38 37<|.cnd 38 true (zA 39 (zI 2 1)<|zA 40 (zJ 39)<|zA 41 (.bin .leq (.t 40) (zN 9))<|.nil) 42 (.t 41)<|zB 43 42<|.cnd 43 true (zA 44 (zI 3 1)<|zA 45 (zJ 44)<|zA 46 (.bin .eql (.t 45) (zN 0))<|.nil) 47 (.t 46)<|zB 2 47<|.nil
def Bk6 : Sts := zA 49 (.bin .eql (.t 12) (zN 3))<|zB 48 49<|.nil
def Bk7 : Sts := zA 50 (.bin .eql (.t 12) (zN 4))<|zB 48 50<|.nil
def Bk8 : Sts := zA 51 (zI 2 1)<|zA 52 (zJ 51)<|zA 53 (.call 100 [(.t 52)])<|zB 54 53<|.cnd 54 true (zA 55 (zI 3 1)<|zA 56 (zJ 55)<|zA 57 (.call 100 [(.t 56)])<|.nil) 58 (.t 57)<|zB 2 58<|.nil
def Bk9 : Sts := zA 60 (.bin .eql (.t 12) (zN 5))<|zB 59 60<|.nil
def Bl0 : Sts := zA 61 (zI 1 1)<|zA 62 (zJ 61)<|zA 63 (.bin .eql (.t 62) (zN 0))<|zB 64 63<|.cnd 64 true (zA 65 (zI 2 1)<|zA 66 (zJ 65)<|zA 67 (.bin .eql (.t 66) (zN 0))<|.nil) 68 (.t 67)<|zB 69 68<|.cnd 69 true (zA 70 (zI 3 1)<|zA 71 (zJ 70)<|zA 72 (.bin .eql (.t 71) (zN 0))<|.nil) 73 (.t 72)<|zB 2 73<|.nil
def Bl1 : Sts := zA 2 (.mv (.c (.bool false)))<|.nil
def Q54 : RFun := ⟨74, [0, 1, 2, 12], (.seq (.reg Dk5) (.seq (.seq (.reg Dk6) (.cond (.t 10) (.seq (.reg Dk7) .ret) .skip)) (.seq (.seq (.reg Dk8) (.block 0 (.seq (.reg Dk9) (.cond (.t 13) (.seq (.reg Dl0) .ret) (.seq (.reg Dl1) (.cond (.t 23) (.seq (.reg Dl2) .ret) (.seq (.reg Dl3) (.cond (.t 33) (.seq (.reg Dl4) .ret) (.seq (.seq (.reg Bk6) (.cond (.t 48) .skip (.reg Bk7))) (.cond (.t 48) (.seq (.reg Bk8) .ret) (.seq (.reg Bk9) (.cond (.t 59) (.seq (.reg Bl0) .ret) .skip)))))))))))) (.seq (.reg Bl1) .ret)))), [.tmp 2]⟩
theorem Q54_ok : Aj Tryz.prog [0, 1, 2, 12] [15, 20, 31, 71, 88, 41, 76, 86, 65, 83, 81, 114, 117, 119, 122, 68, 100, 103, 104, 105, 137, 138, 64, 72, 96, 99, 158, 159, 132, 56, 93, 94, 130, 131, 155, 62, 23, 170] 65 = some Q54 := by kernel_rfl

def Dl5 : Sts := zA 3 (.box 45 (.t 1))<|zG 4 0<|.nil
def Dl6 : Sts := zB 5 0<|zA 6 (.loadA 4 (.t 3))<|zA 7 (.call 101 [(.t 5), (.t 6)])<|zA 8 (.notb (.t 7))<|.nil
def Dl7 : Sts := zG 4 1<|.nil
def Dl8 : Sts := zB 9 0<|zA 10 (.loadA 4 (.t 3))<|zA 11 (.call 83 [(.t 9), (.t 10)])<|zB 4 11<|.nil
def Q20 : RFun := ⟨12, [0, 1, 3, 4], (.seq (.reg Dl5) (.seq (.seq (.reg Dl6) (.cond (.t 8) (.seq (.reg Dl7) .ret) .skip)) (.seq (.reg Dl8) .ret))), [.tmp 4]⟩
theorem Q20_ok : Aj Tryz.prog [0, 1, 3, 4] [15, 20, 31, 71, 88, 41, 76, 86, 65, 83, 81, 114, 117, 119, 122, 68, 100, 103, 104, 105, 137, 138, 64, 72, 96, 99, 158, 159, 132, 56, 93, 94, 130, 131, 155, 62, 23, 170] 66 = some Q20 := by kernel_rfl

def Ew0 : Sts := zA 3 (.box 45 (.t 1))<|zA 4 (.mv (.c (.slice none 0 0)))<|.nil
def Ew1 : Sts := zB 11 0<|zA 12 (.loadA 4 (.t 3))<|zA 13 (.call 102 [(.t 11), (.t 12)])<|zB 5 13<|.nil
def Ew2 : Sts := zB 14 0<|zA 15 (zM 14)<|zG 16 0<|.nil
def Ew3 : Sts := zA 17 (.bin .lss (.t 16) (.t 15))<|.nil
def Ew4 : Sts := zB 18 16<|zB 6 18<|.nil
def Ew5 : Sts := zB 19 0<|zB 20 6<|zA 21 (zH 6 19 20)<|zA 22 (.loadA 6 (.t 21))<|zA 23 (.call 86 [(.t 22)])<|zA 24 (.notb (.t 23))<|zB 25 24<|.cnd 25 false (zA 26 (zI 0 3)<|zA 27 (zK 26)<|zB 28 6<|zA 29 (zH 1 27 28)<|zA 30 (zJ 29)<|zA 31 (.bin .lss (.t 30) (zN 0))<|.nil) 32 (.t 31)<|.nil
def Ew6 : Sts := zA 7 (.mv (.c (.int .u32 0)))<|.nil
def Ew7 : Sts := zA 33 (zI 0 3)<|zA 34 (zK 33)<|zB 35 6<|zA 36 (zH 1 34 35)<|zA 37 (zJ 36)<|zB 8 37<|.nil
def Ew8 : Sts := zB 38 0<|zA 39 (zM 38)<|zG 40 0<|.nil
def Ew9 : Sts := zA 41 (.bin .lss (.t 40) (.t 39))<|.nil
def Dl9 : Sts := zB 42 7<|zB 43 0<|zB 44 8<|zA 45 (.call 103 [(.t 43), (.t 44)])<|zA 46 (.bin .or (.t 42) (.t 45))<|zB 7 46<|.nil
def Dm0 : Sts := zB 47 0<|zA 48 (.loadA 4 (.t 3))<|zB 49 8<|zA 50 (.call 104 [(.t 47), (.t 48), (.t 49)])<|zA 51 (.notb (.t 50))<|zB 52 51<|.cnd 52 false (zA 53 (zI 0 3)<|zA 54 (zK 53)<|zB 55 8<|zA 56 (zH 1 54 55)<|zA 57 (zJ 56)<|zA 58 (.bin .lss (.t 57) (zN 0))<|.nil) 59 (.t 58)<|.nil
def Dm1 : Sts := zA 60 (zI 0 3)<|zA 61 (zK 60)<|zB 62 8<|zA 63 (zH 1 61 62)<|zA 64 (zJ 63)<|zB 8 64<|.nil
def Dm2 : Sts := zA 65 (.bin .add (.t 40) (zN 1))<|zB 40 65<|.nil
def Bl2 : RCode := (.seq (.reg Ew9) (.seq (.cond (.t 41) .skip (.exit 2)) (.seq (.block 3 (.seq (.reg Dl9) (.seq (.seq (.reg Dm0) (.cond (.t 59) (.exit 2) .skip)) (.reg Dm1)))) (.reg Dm2))))
def Dm3 : Sts := zB 66 0<|zB 67 6<|zA 68 (.call 105 [(.t 66), (.t 67)])<|zB 9 68<|.nil
def Dm4 : Sts := zB 69 0<|zA 70 (zM 69)<|zG 71 0<|.nil
def Dm5 : Sts := zA 72 (.bin .lss (.t 71) (.t 70))<|.nil
def Dm6 : Sts := zB 73 71<|zB 10 73<|.nil
def Dm7 : Sts := zB 74 7<|zB 75 10<|zA 76 (.bin .shr (.t 74) (.t 75))<|zA 77 (.bin .and (.t 76) (.c (.int .u32 1)))<|zA 78 (.bin .eql (.t 77) (.c (.int .u32 1)))<|.nil
def Dm8 : Sts := zB 79 5<|zB 80 10<|zA 81 (zH 1 79 80)<|zA 82 (.loadI .u32 (.t 81))<|zB 83 9<|zA 84 (.bin .or (.t 82) (.t 83))<|zA 85 (zH 1 79 80)<|.op none (.store 1 (.t 85) (.t 84))<|.nil
def Dm9 : Sts := zA 86 (.bin .add (.t 71) (zN 1))<|zB 71 86<|.nil
def Bl3 : RCode := (.seq (.reg Dm5) (.seq (.cond (.t 72) .skip (.exit 4)) (.seq (.block 5 (.seq (.reg Dm6) (.seq (.reg Dm7) (.cond (.t 78) (.reg Dm8) .skip)))) (.reg Dm9))))
def Dn0 : Sts := zA 87 (.bin .add (.t 16) (zN 1))<|zB 16 87<|.nil
def Bl4 : RCode := (.seq (.reg Ew3) (.seq (.cond (.t 17) .skip (.exit 0)) (.seq (.block 1 (.seq (.reg Ew4) (.seq (.seq (.reg Ew5) (.cond (.t 32) (.exit 1) .skip)) (.seq (.reg Ew6) (.seq (.reg Ew7) (.seq (.seq (.reg Ew8) (.block 2 (.loop Bl2))) (.seq (.reg Dm3) (.seq (.reg Dm4) (.block 4 (.loop Bl3)))))))))) (.reg Dn0))))
def Dn1 : Sts := zB 88 5<|zA 89 (.call 106 [(.t 88)])<|zB 4 89<|.nil
def Q9 : RFun := ⟨90, [0, 1, 3, 4, 5, 6, 7, 8, 9, 10, 15, 16, 39, 40, 70, 71], (.seq (.reg Ew0) (.seq (.reg Ew1) (.seq (.seq (.reg Ew2) (.block 0 (.loop Bl4))) (.seq (.reg Dn1) .ret)))), [.tmp 4]⟩
theorem Q9_ok : Aj Tryz.prog [0, 1, 3, 4, 5, 6, 7, 8, 9, 10, 15, 16, 39, 40, 70, 71] [15, 20, 31, 71, 88, 41, 76, 86, 65, 83, 81, 114, 117, 119, 122, 68, 100, 103, 104, 105, 137, 138, 64, 72, 96, 99, 158, 159, 132, 56, 93, 94, 130, 131, 155, 62, 23, 170] 67 = some Q9 := by kernel_rfl

def Dn2 : Sts := zA 6 (.mv (.c (.bool false)))<|.nil
def Dn3 : Sts := zB 7 0<|zB 8 1<|zA 9 (zH 1 7 8)<|zA 10 (.loadI .u32 (.t 9))<|zB 11 2<|zA 12 (.bin .shr (.t 10) (.t 11))<|zA 13 (.bin .and (.t 12) (.c (.int .u32 1)))<|zA 14 (.bin .eql (.t 13) (.c (.int .u32 1)))<|zB 6 14<|.nil
def Q44 : RFun := ⟨15, [0, 1, 2, 6], (.seq (.reg Dn2) (.seq (.reg Dn3) .ret)), [.tmp 6]⟩
theorem Q44_ok : Aj Tryz.prog [0, 1, 2, 6] [15, 20, 31, 71, 88, 41, 76, 86, 65, 83, 81, 114, 117, 119, 122, 68, 100, 103, 104, 105, 137, 138, 64, 72, 96, 99, 158, 159, 132, 56, 93, 94, 130, 131, 155, 62, 23, 170] 68 = some Q44 := by kernel_rfl

def Dn4 : Sts := zA 2 (.box 24 (.t 0))<|zA 4 (.alloc 24 [(.slice none 0 0)])<|.nil
def Dn5 : Sts := zA 5 (.alloc 24 [(.slice none 0 0)])<|.nil
def Dn6 : Sts := zA 12 (zI 0 2)<|zA 13 (zK 12)<|zA 14 (zM 13)<|zG 15 0<|.nil
def Dn7 : Sts := zA 16 (.bin .lss (.t 15) (.t 14))<|.nil
def Dn8 : Sts := zA 17 (zH 1 13 15)<|zA 18 (zK 17)<|zB 7 18<|.nil
def Dn9 : Sts := zA 8 (.mv (.c (.slice none 0 0)))<|.nil
def Do0 : Sts := zA 9 (.mv (.c (.bool true)))<|.nil
def Do1 : Sts := zB 19 7<|zA 20 (zM 19)<|zG 21 0<|.nil
def Do2 : Sts := zA 22 (.bin .lss (.t 21) (.t 20))<|.nil
def Do3 : Sts := zA 23 (zH 5 19 21)<|zA 24 (.loadA 5 (.t 23))<|zA 11 (.alloc 83 [(.int .i64 0), (.int .i64 0), (.int .i64 0), (.int .i64 0), (.int .i64 0)])<|.op none (.store 5 (.t 11) (.t 24))<|.nil
def Bl5 : Sts := zB 25 8<|zB 26 1<|zA 27 (.loadA 5 (.t 11))<|zB 28 9<|zA 29 (.callv (.t 26) [(.t 27), (.t 28)])<|zA 30 (.append 83 5 40 [(.int .i64 0), (.int .i64 0), (.int .i64 0), (.int .i64 0), (.int .i64 0)] (.t 25) (.t 29))<|zB 8 30<|.nil
def Bl6 : Sts := zB 31 9<|zB 32 31<|.cnd 32 true (zA 33 (.loadA 5 (.t 11))<|zA 34 (.call 71 [(.t 33)])<|zA 35 (.notb (.t 34))<|.nil) 36 (.t 35)<|zB 9 36<|.nil
def Bl7 : Sts := zA 37 (.bin .add (.t 21) (zN 1))<|zB 21 37<|.nil
def Al4 : RCode := (.seq (.reg Do2) (.seq (.cond (.t 22) .skip (.exit 2)) (.seq (.block 3 (.seq (.reg Do3) (.seq (.reg Bl5) (.reg Bl6)))) (.reg Bl7))))
def Bl8 : Sts := zA 38 (zI 0 5)<|zA 39 (zK 38)<|zB 40 8<|zA 41 (.buildSl 70 1 [(.slice none 0 0)] [(0, 1, (.t 40))])<|zA 42 (.append 70 1 24 [(.slice none 0 0)] (.t 39) (.t 41))<|zA 43 (zI 0 5)<|.op none (.store 1 (.t 43) (.t 42))<|.nil
def Bl9 : Sts := zA 44 (.bin .add (.t 15) (zN 1))<|zB 15 44<|.nil
def Al5 : RCode := (.seq (.reg Dn7) (.seq (.cond (.t 16) .skip (.exit 0)) (.seq (.block 1 (.seq (.reg Dn8) (.seq (.reg Dn9) (.seq (.reg Do0) (.seq (.seq (.reg Do1) (.block 2 (.loop Al4))) (.reg Bl8)))))) (.reg Bl9))))
def Bm0 : Sts := zA 45 (.loadA 1 (.t 5))<|.op none (.store 1 (.t 4) (.t 45))<|.nil
def Q56 : RFun := ⟨46, [0, 1, 2, 4, 5, 7, 8, 9, 11, 13, 14, 15, 19, 20, 21], (.seq (.reg Dn4) (.seq (.reg Dn5) (.seq (.seq (.reg Dn6) (.block 0 (.loop Al5))) (.seq (.reg Bm0) .ret)))), [.cellA 4 1]⟩
theorem Q56_ok : Aj Tryz.prog [0, 1, 2, 4, 5, 7, 8, 9, 11, 13, 14, 15, 19, 20, 21] [15, 20, 31, 71, 88, 41, 76, 86, 65, 83, 81, 114, 117, 119, 122, 68, 100, 103, 104, 105, 137, 138, 64, 72, 96, 99, 158, 159, 132, 56, 93, 94, 130, 131, 155, 62, 23, 170] 69 = some Q56 := by kernel_rfl

def Do4 : Sts := zA 2 (.box 83 (.t 0))<|zA 4 (.mv (.c (.slice none 0 0)))<|.nil
def Do5 : Sts := zA 5 (.loadA 5 (.t 2))<|zA 6 (.call 71 [(.t 5)])<|zA 7 (.notb (.t 6))<|zB 8 7<|.cnd 8 false (zA 9 (zI 4 2)<|zA 10 (zJ 9)<|zA 11 (.bin .neq (.t 10) (zN 4))<|.nil) 12 (.t 11)<|.nil
def Do6 : Sts := zA 13 (.loadA 5 (.t 2))<|zA 14 (.buildSl 83 1 [(.int .i64 0), (.int .i64 0), (.int .i64 0), (.int .i64 0), (.int .i64 0)] [(0, 5, (.t 13))])<|zB 4 14<|.nil
def Do7 : Sts := zA 16 (zI 0 2)<|zA 17 (zJ 16)<|zA 18 (zI 4 2)<|zA 19 (zJ 18)<|zA 20 (.call 72 [(.t 17), (.t 19)])<|zB 15 20<|zA 21 (.extract 0 (.t 15))<|zA 22 (.extract 1 (.t 15))<|zA 23 (zI 4 2)<|.op none (.store 1 (.t 23) (.t 21))<|.nil
def Do8 : AT := .q (zC 1 25 (.loadA 5 (.t 2))<|.nil)<|zE 0 24 (.call 73 []) false (zF<|zE 2 26 (.call 73 []) false (zF<|zE 3 27 (.buildSl 83 3 [(.int .i64 0), (.int .i64 0), (.int .i64 0), (.int .i64 0), (.int .i64 0), (.int .i64 0), (.int .i64 0), (.int .i64 0), (.int .i64 0), (.int .i64 0), (.int .i64 0), (.int .i64 0), (.int .i64 0), (.int .i64 0), (.int .i64 0)] [(0, 5, (.t 24)), (5, 5, (.t 25)), (10, 5, (.t 26))]) true (.q (zD 4 4 27<|.nil)<|.fin)<|.no)<|.no)<|.no
def Q51 : RFun := ⟨28, [0, 2, 4], (.seq (.reg Do4) (.seq (.seq (.reg Do5) (.cond (.t 12) (.seq (.reg Do6) .ret) .skip)) (.seq (.reg Do7) (.seq (.any Do8) .ret)))), [.tmp 4]⟩
theorem Q51_ok : Aj Tryz.prog [0, 2, 4] [15, 20, 31, 71, 88, 41, 76, 86, 65, 83, 81, 114, 117, 119, 122, 68, 100, 103, 104, 105, 137, 138, 64, 72, 96, 99, 158, 159, 132, 56, 93, 94, 130, 131, 155, 62, 23, 170] 70 = some Q51 := by kernel_rfl

def Do9 : Sts := zA 1 (.box 83 (.t 0))<|zA 2 (.mv (.c (.bool false)))<|.nil
def Dp0 : Sts := zA 3 (zI 0 1)<|zA 4 (zJ 3)<|zA 5 (.bin .geq (.t 4) (zN 0))<|zB 6 5<|.cnd 6 true (zA 7 (zI 0 1)<|zA 8 (zJ 7)<|zA 9 (.bin .leq (.t 8) (zN 4))<|.nil) 10 (.t 9)<|zB 2 10<|.nil
def Q52 : RFun := ⟨11, [0, 1, 2], (.seq (.reg Do9) (.seq (.reg Dp0) .ret)), [.tmp 2]⟩
theorem Q52_ok : Aj Tryz.prog [0, 1, 2] [15, 20, 31, 71, 88, 41, 76, 86, 65, 83, 81, 114, 117, 119, 122, 68, 100, 103, 104, 105, 137, 138, 64, 72, 96, 99, 158, 159, 132, 56, 93, 94, 130, 131, 155, 62, 23, 170] 71 = some Q52 := by kernel_rfl

def Dp1 : Sts := zG 4 0<|zG 5 0<|.nil
def Dp2 : Sts := zB 9 0<|zB 10 1<|zA 11 (.call 64 [(.t 9), (.t 10)])<|zB 8 11<|zA 12 (.extract 0 (.t 8))<|zA 13 (.extract 1 (.t 8))<|zB 6 12<|zB 7 13<|.nil
def Dp3 : Sts := zB 15 7<|zA 16 (.bin .neq (.t 15) (zN 0))<|zB 17 16<|.cnd 17 false (zB 18 6<|zA 19 (.notb (.t 18))<|.nil) 20 (.t 19)<|zB 21 20<|.cnd 21 false (zB 22 0<|zA 23 (.bin .eql (.t 22) (zN 5))<|.nil) 24 (.t 23)<|zB 14 24<|.nil
def Dp4 : Sts := zG 4 0<|zG 5 1<|.nil
def Dp5 : Sts := zB 26 1<|zA 27 (.bin .neq (.t 26) (zN 4))<|zB 25 27<|.nil
def Dp6 : Sts := zB 28 1<|zB 4 28<|zG 5 0<|.nil
def Dp7 : Sts := zB 30 0<|zA 31 (.bin .eql (.t 30) (zN 0))<|zB 29 31<|.nil
def Dp8 : Sts := zG 4 1<|zG 5 0<|.nil
def Dp9 : Sts := zB 33 0<|zA 34 (.bin .eql (.t 33) (zN 1))<|zB 32 34<|.nil
def Dq0 : Sts := zG 4 2<|zG 5 0<|.nil
def Bm1 : Sts := zG 4 3<|zG 5 0<|.nil
def Q93 : RFun := ⟨35, [0, 1, 4, 5, 6, 7], (.seq (.reg Dp1) (.seq (.reg Dp2) (.seq (.block 0 (.seq (.reg Dp3) (.cond (.t 14) (.seq (.reg Dp4) .ret) (.seq (.reg Dp5) (.cond (.t 25) (.seq (.reg Dp6) .ret) (.seq (.reg Dp7) (.cond (.t 29) (.seq (.reg Dp8) .ret) (.seq (.reg Dp9) (.cond (.t 32) (.seq (.reg Dq0) .ret) .skip))))))))) (.seq (.reg Bm1) .ret)))), [.tmp 4, .tmp 5]⟩
theorem Q93_ok : Aj Tryz.prog [0, 1, 4, 5, 6, 7] [15, 20, 31, 71, 88, 41, 76, 86, 65, 83, 81, 114, 117, 119, 122, 68, 100, 103, 104, 105, 137, 138, 64, 72, 96, 99, 158, 159, 132, 56, 93, 94, 130, 131, 155, 62, 23, 170] 72 = some Q93 := by kernel_rfl

def Dq1 : Sts := zA 0 (.alloc 83 [(.int .i64 0), (.int .i64 0), (.int .i64 0), (.int .i64 0), (.int .i64 0)])<|.nil
def Dq2 : Sts := zA 1 (.build [(.int .i64 0), (.int .i64 0), (.int .i64 0), (.int .i64 0), (.int .i64 0)] [(0, 1, (zN 5)), (4, 1, (zN 4))])<|.op none (.store 5 (.t 0) (.t 1))<|.nil
def Q57 : RFun := ⟨2, [0], (.seq (.reg Dq1) (.seq (.reg Dq2) .ret)), [.cellA 0 5]⟩
theorem Q57_ok : Aj Tryz.prog [0] [15, 20, 31, 71, 88, 41, 76, 86, 65, 83, 81, 114, 117, 119, 122, 68, 100, 103, 104, 105, 137, 138, 64, 72, 96, 99, 158, 159, 132, 56, 93, 94, 130, 131, 155, 62, 23, 170] 73 = some Q57 := by kernel_rfl

def Dq3 : Sts := zA 4 (.mv (.c (.slice none 0 0)))<|.nil
def Dq4 : Sts := zA 5 (.mv (.c (.slice none 0 0)))<|.nil
def Dq5 : Sts := zB 7 0<|zA 8 (zM 7)<|zG 9 0<|.nil
def Dq6 : Sts := zA 10 (.bin .lss (.t 9) (.t 8))<|.nil
def Dq7 : Sts := zB 11 9<|zB 6 11<|.nil
def Dq8 : Sts := zB 12 1<|zB 13 6<|zA 14 (.callv (.t 12) [(.t 13)])<|.nil
def Dq9 : Sts := zB 15 5<|zB 16 6<|zA 17 (.buildSl 3 1 [(.int .i64 0)] [(0, 1, (.t 16))])<|zA 18 (.append 3 1 8 [(.int .i64 0)] (.t 15) (.t 17))<|zB 5 18<|.nil
def Dr0 : Sts := zA 19 (.bin .add (.t 9) (zN 1))<|zB 9 19<|.nil
def Bm2 : RCode := (.seq (.reg Dq6) (.seq (.cond (.t 10) .skip (.exit 0)) (.seq (.block 1 (.seq (.reg Dq7) (.seq (.reg Dq8) (.cond (.t 14) (.reg Dq9) .skip)))) (.reg Dr0))))
def Dr1 : Sts := zB 20 5<|zB 4 20<|.nil
def Q33 : RFun := ⟨21, [0, 1, 4, 5, 6, 8, 9], (.seq (.reg Dq3) (.seq (.reg Dq4) (.seq (.seq (.reg Dq5) (.block 0 (.loop Bm2))) (.seq (.reg Dr1) .ret)))), [.tmp 4]⟩
theorem Q33_ok : Aj Tryz.prog [0, 1, 4, 5, 6, 8, 9] [15, 20, 31, 71, 88, 41, 76, 86, 65, 83, 81, 114, 117, 119, 122, 68, 100, 103, 104, 105, 137, 138, 64, 72, 96, 99, 158, 159, 132, 56, 93, 94, 130, 131, 155, 62, 23, 170] 74 = some Q33 := by kernel_rfl

def Dr2 : Sts := zA 3 (.mv (.c (.bool false)))<|.nil
def Dr3 : Sts := zA 4 (zK 1)<|zB 5 0<|zA 6 (zH 6 4 5)<|zA 7 (.loadA 6 (.t 6))<|zA 8 (.call 76 [(.t 7)])<|zB 3 8<|.nil
def Q18 : RFun := ⟨9, [0, 1, 3], (.seq (.reg Dr2) (.seq (.reg Dr3) .ret)), [.tmp 3]⟩
theorem Q18_ok : Aj Tryz.prog [0, 1, 3] [15, 20, 31, 71, 88, 41, 76, 86, 65, 83, 81, 114, 117, 119, 122, 68, 100, 103, 104, 105, 137, 138, 64, 72, 96, 99, 158, 159, 132, 56, 93, 94, 130, 131, 155, 62, 23, 170] 75 = some Q18 := by kernel_rfl

def Ex0 : Sts := zA 1 (.box 121 (.t 0))<|zA 2 (.mv (.c (.bool false)))<|.nil
def Ex2 : Sts := zA 3 (zI 0 1)<|zA 4 (zI 0 3)<|zA 5 (zJ 4)<|zA 6 (.bin .eql (.t 5) (zN 5))<|zB 7 6<|.cnd 7 true (zA 8 (zI 0 1)<|zA 9 (zI 4 8)<|zA 10 (zJ 9)<|zA 11 (.bin .eql (.t 10) (zN 4))<|.nil) 12 (.t 11)<|zB 2 12<|.nil
def Q7 : RFun := ⟨13, [0, 1, 2], (.seq (.reg Ex0) (.seq (.reg Ex2) .ret)), [.tmp 2]⟩
theorem Q7_ok : Aj Tryz.prog [0, 1, 2] [15, 20, 31, 71, 88, 41, 76, 86, 65, 83, 81, 114, 117, 119, 122, 68, 100, 103, 104, 105, 137, 138, 64, 72, 96, 99, 158, 159, 132, 56, 93, 94, 130, 131, 155, 62, 23, 170] 76 = some Q7 := by kernel_rfl

def Bm3 : Sts := zA 3 (.box 124 (.t 0))<|.nil
def Dr4 : Sts := zA 8 (zK 1)<|zA 9 (.call 78 [(.t 8)])<|.nil
def Al6 : Sts := zA 4 (.alloc 35 [(.slice none 0 0)])<|.op none (.store 1 (.t 4) (.t 10))<|.nil
def Dr5 : Sts := zA 11 (zK 1)<|zA 12 (zK 4)<|zA 13 (.call 79 [(.t 11), (.t 12), (zN 0)])<|.nil
def Al7 : Sts := zA 5 (.alloc 26 [(.slice none 0 0)])<|.op none (.store 1 (.t 5) (.t 14))<|.nil
def Dr6 : Sts := zA 15 (zK 1)<|zA 16 (zK 4)<|zA 17 (zK 5)<|zA 18 (.call 80 [(.t 15), (.t 16), (.t 17)])<|.nil
def Al8 : Sts := zB 6 19<|.nil
def Dr7 : Sts := zB 20 6<|zA 21 (zK 4)<|zA 22 (zK 5)<|zA 23 (.build [(.slice none 0 0), (.slice none 0 0), (.slice none 0 0), (.slice none 0 0)] [(0, 1, (.t 20)), (1, 1, (.t 21)), (2, 1, (.t 22))])<|zA 7 (.alloc 45 [(.slice none 0 0), (.slice none 0 0), (.slice none 0 0), (.slice none 0 0)])<|.op none (.store 4 (.t 7) (.t 23))<|.nil
def Dr8 : Sts := zA 24 (zK 1)<|zA 25 (.loadA 4 (.t 7))<|zA 26 (.call 81 [(.t 24), (.t 25)])<|zA 27 (.notb (.t 26))<|.nil
def Dr9 : Sts := zA 28 (zK 1)<|zA 29 (zK 2)<|zA 30 (.call 82 [(.t 28), (.t 29)])<|.nil
def Bm4 : Sts := zA 32 (zI 3 7)<|.op none (.store 1 (.t 32) (.t 31))<|.nil
def Af6 : AT := .q (zC 0 33 (zK 1)<|zC 1 34 (.loadA 4 (.t 7))<|zC 2 35 (.call 83 [(.t 33), (.t 34)])<|zC 3 36 (.bin .eql (.t 35) (zN 0))<|zD 4 37 36<|.nil)<|.br 37 (zF<|.q (zC 5 38 (.loadX (.t 3))<|.nil)<|zF<|.q (zC 6 39 (.loadA 4 (.t 7))<|.nil)<|zF<|zE 7 40 (.call 84 [(.t 39)]) false (zF<|zE 8 41 (.callv (.t 38) [(.t 40)]) true (.q (.g 37 true (zC 9 42 (.notb (.t 41))<|.nil) 10 43 (.t 42)<|.nil)<|.fin)<|.no)<|.no)<|zF<|zL 5 38<|zF<|zL 6 39<|zF<|zL 7 40<|zF<|zL 8 41<|.q (.g 37 true (zC 9 42 (.notb (.t 41))<|.nil) 10 43 (.t 42)<|.nil)<|.fin
def C8 : RCode := (.reg Bm4)
def C9 : RCode := (.block 7 (.seq (.any Af6) (.cond (.t 43) .ret .skip)))
def Da : RCode := (.reg Al8)
def Db : RCode := (.block 5 (.seq (.reg Dr7) (.seq (.seq (.reg Dr8) (.cond (.t 27) (.exit 5) .skip)) (.seq (.reg Dr9) (.block 6 (.rangeF (.t 30) [31] C8 C9))))))
def Dc : RCode := (.reg Al7)
def Dd : RCode := (.block 3 (.seq (.reg Dr6) (.block 4 (.rangeF (.t 18) [19] Da Db))))
def De : RCode := (.reg Al6)
def Df : RCode := (.block 1 (.seq (.reg Dr5) (.block 2 (.rangeF (.t 13) [14] Dc Dd))))
def Q19 : RFun := ⟨44, [0, 1, 2, 3, 4, 5, 6, 7, 9, 10, 13, 14, 18, 19, 30, 31], (.seq (.reg Bm3) (.seq (.reg Dr4) (.block 0 (.rangeF (.t 9) [10] De Df)))), []⟩
theorem Q19_ok : Aj Tryz.prog [0, 1, 2, 3, 4, 5, 6, 7, 9, 10, 13, 14, 18, 19, 30, 31] [15, 20, 31, 71, 88, 41, 76, 86, 65, 83, 81, 114, 117, 119, 122, 68, 100, 103, 104, 105, 137, 138, 64, 72, 96, 99, 158, 159, 132, 56, 93, 94, 130, 131, 155, 62, 23, 170] 77 = some Q19 := by kernel_rfl

def Ds0 : Sts := zA 1 (.box 74 (.t 0))<|zA 2 (.mv (.c .nilFunc))<|.nil
def Ds1 : Sts := zA 3 (.mkfn 107 [] [(.t 1)])<|zB 2 3<|.nil
def Q12 : RFun := ⟨4, [0, 1, 2], (.seq (.reg Ds0) (.seq (.reg Ds1) .ret)), [.tmp 2]⟩
theorem Q12_ok : Aj Tryz.prog [0, 1, 2] [15, 20, 31, 71, 88, 41, 76, 86, 65, 83, 81, 114, 117, 119, 122, 68, 100, 103, 104, 105, 137, 138, 64, 72, 96, 99, 158, 159, 132, 56, 93, 94, 130, 131, 155, 62, 23, 170] 78 = some Q12 := by kernel_rfl

def Ds2 : Sts := zA 3 (.box 74 (.t 0))<|zA 4 (.box 35 (.t 1))<|zA 5 (.box 3 (.t 2))<|zA 6 (.mv (.c .nilFunc))<|.nil
def Ds3 : Sts := zA 7 (.mkfn 109 [] [(.t 5), (.t 3), (.t 4)])<|zB 6 7<|.nil
def Q30 : RFun := ⟨8, [0, 1, 2, 3, 4, 5, 6], (.seq (.reg Ds2) (.seq (.reg Ds3) .ret)), [.tmp 6]⟩
theorem Q30_ok : Aj Tryz.prog [0, 1, 2, 3, 4, 5, 6] [15, 20, 31, 71, 88, 41, 76, 86, 65, 83, 81, 114, 117, 119, 122, 68, 100, 103, 104, 105, 137, 138, 64, 72, 96, 99, 158, 159, 132, 56, 93, 94, 130, 131, 155, 62, 23, 170] 79 = some Q30 := by kernel_rfl

def Ds4 : Sts := zA 3 (.box 74 (.t 0))<|zA 4 (.box 35 (.t 1))<|zA 5 (.box 26 (.t 2))<|zA 6 (.mv (.c .nilFunc))<|.nil
def Ds5 : Sts := zA 7 (.mkfn 111 [] [(.t 3), (.t 5), (.t 4)])<|zB 6 7<|.nil
def Q23 : RFun := ⟨8, [0, 1, 2, 3, 4, 5, 6], (.seq (.reg Ds4) (.seq (.reg Ds5) .ret)), [.tmp 6]⟩
theorem Q23_ok : Aj Tryz.prog [0, 1, 2, 3, 4, 5, 6] [15, 20, 31, 71, 88, 41, 76, 86, 65, 83, 81, 114, 117, 119, 122, 68, 100, 103, 104, 105, 137, 138, 64, 72, 96, 99, 158, 159, 132, 56, 93, 94, 130, 131, 155, 62, 23, 170] 80 = some Q23 := by kernel_rfl

def Ds6 : Sts := zA 3 (.box 45 (.t 1))<|zA 4 (.mv (.c (.bool false)))<|.nil
def Ds7 : Sts := zB 11 0<|zA 12 (.loadA 4 (.t 3))<|zA 13 (.call 85 [(.t 11), (.t 12)])<|zB 10 13<|zA 14 (.extract 0 (.t 10))<|zA 15 (.extract 1 (.t 10))<|zA 16 (.extract 2 (.t 10))<|zB 5 14<|zB 6 15<|zB 7 16<|.nil
def Ds8 : Sts := zB 17 0<|zA 18 (zM 17)<|zG 19 0<|.nil
def Ds9 : Sts := zA 20 (.bin .lss (.t 19) (.t 18))<|.nil
def Dt0 : Sts := zB 21 19<|zA 22 (zH 6 17 19)<|zA 23 (.loadA 6 (.t 22))<|zA 9 (.alloc 121 [(.int .i64 0), (.int .i64 0), (.int .i64 0), (.int .i64 0), (.int .i64 0), (.int .i64 0)])<|zB 8 21<|.op none (.store 6 (.t 9) (.t 23))<|.nil
def Dt1 : AT := .q (zC 0 24 (zI 0 9)<|zC 1 25 (zI 0 24)<|zC 2 26 (zJ 25)<|zC 3 27 (.bin .eql (.t 26) (zN 3))<|zD 4 28 27<|.g 28 true (zC 5 29 (zI 1 3)<|zC 6 30 (zK 29)<|zD 7 31 8<|zC 8 32 (zH 1 30 31)<|zC 9 33 (.loadB (.t 32))<|zD 10 34 5<|zD 11 35 8<|zC 12 36 (zH 1 34 35)<|zC 13 37 (zJ 36)<|zC 14 38 (zI 0 9)<|zC 15 39 (zI 2 38)<|zC 16 40 (zJ 39)<|zC 17 41 (.bin .eql (.t 37) (.t 40))<|zC 18 42 (.eqb true (.t 33) (.t 41))<|.nil) 19 43 (.t 42)<|zD 20 44 43<|.g 44 false (zC 21 45 (zI 0 9)<|zC 22 46 (zI 0 45)<|zC 23 47 (zJ 46)<|zC 24 48 (.bin .eql (.t 47) (zN 4))<|zD 25 49 48<|.g 49 true (zC 26 50 (zI 1 3)<|zC 27 51 (zK 50)<|zD 28 52 8<|zC 29 53 (zH 1 51 52)<|zC 30 54 (.loadB (.t 53))<|.nil) 31 55 (.t 54)<|zD 32 56 55<|.g 56 true (zD 33 57 5<|zD 34 58 8<|zC 35 59 (zH 1 57 58)<|zC 36 60 (zJ 59)<|zC 37 61 (zI 0 9)<|zC 38 62 (zI 2 61)<|zC 39 63 (zJ 62)<|zC 40 64 (.bin .neq (.t 60) (.t 63))<|.nil) 41 65 (.t 64)<|.nil) 42 66 (.t 65)<|.nil)<|.fin
def Dt2 : Sts := zA 4 (.mv (.c (.bool false)))<|.nil
def Dt3 : Sts := zA 67 (.bin .add (.t 19) (zN 1))<|zB 19 67<|.nil
def Bm5 : RCode := (.seq (.reg Ds9) (.seq (.cond (.t 20) .skip (.exit 0)) (.seq (.block 1 (.seq (.reg Dt0) (.seq (.any Dt1) (.cond (.t 66) (.seq (.reg Dt2) .ret) .skip)))) (.reg Dt3))))
def Dt4 : Sts := zB 68 0<|zA 69 (.loadA 4 (.t 3))<|zA 70 (.call 83 [(.t 68), (.t 69)])<|zA 71 (.bin .eql (.t 70) (zN 0))<|zB 4 71<|.nil
def Q34 : RFun := ⟨72, [0, 1, 3, 4, 5, 8, 9, 17, 18, 19], (.seq (.reg Ds6) (.seq (.reg Ds7) (.seq (.seq (.reg Ds8) (.block 0 (.loop Bm5))) (.seq (.reg Dt4) .ret)))), [.tmp 4]⟩
theorem Q34_ok : Aj Tryz.prog [0, 1, 3, 4, 5, 8, 9, 17, 18, 19] [15, 20, 31, 71, 88, 41, 76, 86, 65, 83, 81, 114, 117, 119, 122, 68, 100, 103, 104, 105, 137, 138, 64, 72, 96, 99, 158, 159, 132, 56, 93, 94, 130, 131, 155, 62, 23, 170] 81 = some Q34 := by kernel_rfl

def Dt5 : Sts := zA 2 (.box 74 (.t 0))<|zA 3 (.box 34 (.t 1))<|zA 4 (.mv (.c .nilFunc))<|.nil
def Dt6 : Sts := zA 5 (.mkfn 115 [] [(.t 2), (.t 3)])<|zB 4 5<|.nil
def Q26 : RFun := ⟨6, [0, 1, 2, 3, 4], (.seq (.reg Dt5) (.seq (.reg Dt6) .ret)), [.tmp 4]⟩
theorem Q26_ok : Aj Tryz.prog [0, 1, 2, 3, 4] [15, 20, 31, 71, 88, 41, 76, 86, 65, 83, 81, 114, 117, 119, 122, 68, 100, 103, 104, 105, 137, 138, 64, 72, 96, 99, 158, 159, 132, 56, 93, 94, 130, 131, 155, 62, 23, 170] 82 = some Q26 := by kernel_rfl

def Dt7 : Sts := zA 3 (.box 45 (.t 1))<|zG 4 0<|.nil
def Dt8 : Sts := zB 17 0<|zA 18 (.loadA 4 (.t 3))<|zA 19 (.call 102 [(.t 17), (.t 18)])<|zB 5 19<|.nil
def Dt9 : Sts := zA 20 (zI 0 3)<|zA 21 (zK 20)<|zA 22 (zM 21)<|zG 23 0<|.nil
def Du0 : Sts := zA 24 (.bin .lss (.t 23) (.t 22))<|.nil
def Du1 : Sts := zB 25 23<|zA 26 (zH 1 21 23)<|zA 27 (zJ 26)<|zB 6 25<|zB 7 27<|.nil
def Du2 : Sts := zB 28 7<|zA 29 (.bin .geq (.t 28) (zN 0))<|.nil
def Du3 : Sts := zB 30 5<|zB 31 7<|zB 32 6<|zA 33 (.call 121 [(.t 30), (.t 31), (.t 32)])<|.nil
def Du4 : Sts := zA 34 (.bin .add (.t 23) (zN 1))<|zB 23 34<|.nil
def Bm6 : RCode := (.seq (.reg Du0) (.seq (.cond (.t 24) .skip (.exit 0)) (.seq (.block 1 (.seq (.reg Du1) (.seq (.reg Du2) (.cond (.t 29) (.reg Du3) .skip)))) (.reg Du4))))
def Du5 : Sts := zB 35 5<|zA 36 (.call 106 [(.t 35)])<|zA 37 (.call 122 [(.t 36)])<|.nil
def Du6 : Sts := zG 4 2<|.nil
def Yg : AT := .q (zD 0 38 0<|zC 1 39 (.loadA 4 (.t 3))<|zD 3 41 0<|zC 4 42 (.loadA 4 (.t 3))<|.nil)<|zE 2 40 (.call 67 [(.t 38), (.t 39)]) false (zF<|zE 5 43 (.call 123 [(.t 41), (.t 42)]) true (.q (zD 6 8 40<|zD 7 9 43<|.nil)<|.fin)<|.no)<|.no
def Bm7 : Sts := zB 44 8<|zA 45 (.call 122 [(.t 44)])<|.nil
def Bm8 : Sts := zG 4 3<|.nil
def Bm9 : Sts := zB 46 0<|zA 47 (zM 46)<|zG 48 0<|.nil
def Bn0 : Sts := zA 49 (.bin .lss (.t 48) (.t 47))<|.nil
def Bn1 : Sts := zB 50 48<|zB 10 50<|.nil
def Bn2 : Sts := zB 51 0<|zA 52 (zM 51)<|zG 53 0<|.nil
def Bn3 : Sts := zA 54 (.bin .lss (.t 53) (.t 52))<|.nil
def Bn4 : Sts := zB 55 53<|zB 11 55<|.nil
def Bn5 : Sts := zB 56 8<|zB 57 10<|zB 58 11<|zA 59 (.call 68 [(.t 56), (.t 57), (.t 58)])<|zB 60 59<|.cnd 60 true (zB 61 9<|zB 62 11<|zB 63 10<|zA 64 (.call 68 [(.t 61), (.t 62), (.t 63)])<|.nil) 65 (.t 64)<|.nil
def Bn6 : Sts := zG 4 3<|.nil
def Bn7 : Sts := zA 66 (.bin .add (.t 53) (zN 1))<|zB 53 66<|.nil
def Al9 : RCode := (.seq (.reg Bn3) (.seq (.cond (.t 54) .skip (.exit 4)) (.seq (.block 5 (.seq (.reg Bn4) (.seq (.reg Bn5) (.cond (.t 65) (.seq (.reg Bn6) .ret) .skip)))) (.reg Bn7))))
def Bn8 : Sts := zA 67 (.bin .add (.t 48) (zN 1))<|zB 48 67<|.nil
def Am0 : RCode := (.seq (.reg Bn0) (.seq (.cond (.t 49) .skip (.exit 2)) (.seq (.block 3 (.seq (.reg Bn1) (.seq (.reg Bn2) (.block 4 (.loop Al9))))) (.reg Bn8))))
def Bn9 : Sts := zA 68 (zI 2 3)<|zA 69 (zK 68)<|zA 70 (zM 69)<|zG 71 0<|.nil
def Bo0 : Sts := zA 72 (.bin .lss (.t 71) (.t 70))<|.nil
def Bo1 : Sts := zA 73 (zH 1 69 71)<|zA 74 (zK 73)<|zB 13 74<|.nil
def Bo2 : Sts := zA 14 (.mv (.c (.int .i64 (-1))))<|.nil
def Bo3 : Sts := zB 75 13<|zA 76 (zM 75)<|zG 77 0<|.nil
def Bo4 : Sts := zA 78 (.bin .lss (.t 77) (.t 76))<|.nil
def Bo5 : Sts := zA 79 (zH 1 75 77)<|zA 80 (zJ 79)<|zB 16 80<|.nil
def Bo6 : Sts := zB 81 0<|zB 82 16<|zA 83 (zH 6 81 82)<|zA 84 (.loadA 6 (.t 83))<|zA 85 (.call 86 [(.t 84)])<|zB 86 85<|.cnd 86 true (zA 87 (zI 0 3)<|zA 88 (zK 87)<|zB 89 16<|zA 90 (zH 1 88 89)<|zA 91 (zJ 90)<|zB 92 14<|zA 93 (.bin .neq (.t 91) (.t 92))<|.nil) 94 (.t 93)<|.nil
def Bo7 : Sts := zG 4 4<|.nil
def Bo8 : Sts := zB 95 16<|zB 14 95<|.nil
def Bo9 : Sts := zA 96 (.bin .add (.t 77) (zN 1))<|zB 77 96<|.nil
def Am1 : RCode := (.seq (.reg Bo4) (.seq (.cond (.t 78) .skip (.exit 8)) (.seq (.block 9 (.seq (.reg Bo5) (.seq (.seq (.reg Bo6) (.cond (.t 94) (.seq (.reg Bo7) .ret) .skip)) (.reg Bo8)))) (.reg Bo9))))
def Bp0 : Sts := zA 97 (.bin .add (.t 71) (zN 1))<|zB 71 97<|.nil
def Am2 : RCode := (.seq (.reg Bo0) (.seq (.cond (.t 72) .skip (.exit 6)) (.seq (.block 7 (.seq (.reg Bo1) (.seq (.reg Bo2) (.seq (.reg Bo3) (.block 8 (.loop Am1)))))) (.reg Bp0))))
def Bp1 : Sts := zG 4 0<|.nil
def Q10 : RFun := ⟨98, [0, 1, 3, 4, 5, 6, 7, 8, 9, 10, 11, 13, 14, 16, 21, 22, 23, 47, 48, 52, 53, 69, 70, 71, 75, 76, 77], (.seq (.reg Dt7) (.seq (.reg Dt8) (.seq (.seq (.reg Dt9) (.block 0 (.loop Bm6))) (.seq (.seq (.reg Du5) (.cond (.t 37) (.seq (.reg Du6) .ret) .skip)) (.seq (.any Yg) (.seq (.seq (.reg Bm7) (.cond (.t 45) (.seq (.reg Bm8) .ret) .skip)) (.seq (.seq (.reg Bm9) (.block 2 (.loop Am0))) (.seq (.seq (.reg Bn9) (.block 6 (.loop Am2))) (.seq (.reg Bp1) .ret))))))))), [.tmp 4]⟩
theorem Q10_ok : Aj Tryz.prog [0, 1, 3, 4, 5, 6, 7, 8, 9, 10, 11, 13, 14, 16, 21, 22, 23, 47, 48, 52, 53, 69, 70, 71, 75, 76, 77] [15, 20, 31, 71, 88, 41, 76, 86, 65, 83, 81, 114, 117, 119, 122, 68, 100, 103, 104, 105, 137, 138, 64, 72, 96, 99, 158, 159, 132, 56, 93, 94, 130, 131, 155, 62, 23, 170] 83 = some Q10 := by kernel_rfl

def Es9 : Sts := zA 1 (.box 45 (.t 0))<|zA 2 (.alloc 45 [(.slice none 0 0), (.slice none 0 0), (.slice none 0 0), (.slice none 0 0)])<|.nil
def Et0 : AT := .q (zC 0 6 (zI 0 1)<|zC 1 7 (zK 6)<|zC 3 9 (zI 1 1)<|zC 4 10 (zK 9)<|zC 6 12 (zI 3 1)<|zC 7 13 (zK 12)<|.nil)<|zE 2 8 (.call 113 [(.t 7)]) false (zF<|zE 5 11 (.call 124 [(.t 10)]) false (zF<|zE 8 14 (.call 113 [(.t 13)]) true (.q (zC 9 15 (.build [(.slice none 0 0), (.slice none 0 0), (.slice none 0 0), (.slice none 0 0)] [(0, 1, (.t 8)), (1, 1, (.t 11)), (3, 1, (.t 14))])<|.nil)<|zE 10 3 (.alloc 45 [(.slice none 0 0), (.slice none 0 0), (.slice none 0 0), (.slice none 0 0)]) false (zF<|.s 11 none (.store 4 (.t 3) (.t 15)) true (zF<|.fin)<|.no)<|.no)<|zE 10 3 (.alloc 45 [(.slice none 0 0), (.slice none 0 0), (.slice none 0 0), (.slice none 0 0)]) false (zF<|zE 8 14 (.call 113 [(.t 13)]) false (.q (zC 9 15 (.build [(.slice none 0 0), (.slice none 0 0), (.slice none 0 0), (.slice none 0 0)] [(0, 1, (.t 8)), (1, 1, (.t 11)), (3, 1, (.t 14))])<|.nil)<|.s 11 none (.store 4 (.t 3) (.t 15)) true (zF<|.fin)<|.no)<|.no)<|.no)<|zE 10 3 (.alloc 45 [(.slice none 0 0), (.slice none 0 0), (.slice none 0 0), (.slice none 0 0)]) false (zF<|zE 5 11 (.call 124 [(.t 10)]) false (zF<|zE 8 14 (.call 113 [(.t 13)]) false (.q (zC 9 15 (.build [(.slice none 0 0), (.slice none 0 0), (.slice none 0 0), (.slice none 0 0)] [(0, 1, (.t 8)), (1, 1, (.t 11)), (3, 1, (.t 14))])<|.nil)<|.s 11 none (.store 4 (.t 3) (.t 15)) true (zF<|.fin)<|.no)<|.no)<|.no)<|.no)<|zE 10 3 (.alloc 45 [(.slice none 0 0), (.slice none 0 0), (.slice none 0 0), (.slice none 0 0)]) false (zF<|zE 2 8 (.call 113 [(.t 7)]) false (zF<|zE 5 11 (.call 124 [(.t 10)]) false (zF<|zE 8 14 (.call 113 [(.t 13)]) false (.q (zC 9 15 (.build [(.slice none 0 0), (.slice none 0 0), (.slice none 0 0), (.slice none 0 0)] [(0, 1, (.t 8)), (1, 1, (.t 11)), (3, 1, (.t 14))])<|.nil)<|.s 11 none (.store 4 (.t 3) (.t 15)) true (zF<|.fin)<|.no)<|.no)<|.no)<|.no)<|.no
def Ex3 : Sts := zA 16 (zI 2 1)<|zA 17 (zK 16)<|zA 18 (zM 17)<|zG 19 0<|.nil
def Ex4 : Sts := zA 20 (.bin .lss (.t 19) (.t 18))<|.nil
def Ex5 : Sts := zA 21 (zH 1 17 19)<|zA 22 (zK 21)<|zB 5 22<|.nil
def Et1 : AT := .q (zC 0 23 (zI 2 3)<|zC 1 24 (zK 23)<|zD 2 25 5<|.nil)<|zE 3 26 (.call 113 [(.t 25)]) false (zF<|zE 4 27 (.buildSl 34 1 [(.slice none 0 0)] [(0, 1, (.t 26))]) false (zF<|zE 5 28 (.append 34 1 24 [(.slice none 0 0)] (.t 24) (.t 27)) true (.q (zC 6 29 (zI 2 3)<|.nil)<|.s 7 none (.store 1 (.t 29) (.t 28)) true (zF<|.fin)<|.no)<|.no)<|.no)<|.no
def Ex6 : Sts := zA 30 (.bin .add (.t 19) (zN 1))<|zB 19 30<|.nil
def Du7 : RCode := (.seq (.reg Ex4) (.seq (.cond (.t 20) .skip (.exit 0)) (.seq (.block 1 (.seq (.reg Ex5) (.any Et1))) (.reg Ex6))))
def Ex7 : Sts := zA 31 (.loadA 4 (.t 3))<|.op none (.store 4 (.t 2) (.t 31))<|.nil
def Q0 : RFun := ⟨32, [0, 1, 2, 3, 5, 17, 18, 19], (.seq (.reg Es9) (.seq (.any Et0) (.seq (.seq (.reg Ex3) (.block 0 (.loop Du7))) (.seq (.reg Ex7) .ret)))), [.cellA 2 4]⟩
theorem Q0_ok : Aj Tryz.prog [0, 1, 2, 3, 5, 17, 18, 19] [15, 20, 31, 71, 88, 41, 76, 86, 65, 83, 81, 114, 117, 119, 122, 68, 100, 103, 104, 105, 137, 138, 64, 72, 96, 99, 158, 159, 132, 56, 93, 94, 130, 131, 155, 62, 23, 170] 84 = some Q0 := by kernel_rfl

def Bp2 : Sts := zA 3 (.box 45 (.t 1))<|zA 4 (.mv (.c (.slice none 0 0)))<|zA 5 (.mv (.c (.slice none 0 0)))<|zA 6 (.mv (.c (.slice none 0 0)))<|.nil
def Du8 : AT := .q (zD 0 11 0<|zC 1 12 (zM 11)<|zD 3 14 0<|zC 4 15 (zM 14)<|zD 6 17 0<|zC 7 18 (zM 17)<|.nil)<|zE 2 13 (.makeSl 3 1 8 [(.int .i64 0)] (.t 12) (.t 12)) false (.q (zD 9 4 13<|.nil)<|zE 5 16 (.makeSl 3 1 8 [(.int .i64 0)] (.t 15) (.t 15)) false (.q (zD 10 5 16<|.nil)<|zE 8 19 (.makeSl 4 1 1 [(.bool false)] (.t 18) (.t 18)) false (.q (zD 11 6 19<|.nil)<|.fin)<|.no)<|zE 8 19 (.makeSl 4 1 1 [(.bool false)] (.t 18) (.t 18)) false (zF<|zE 5 16 (.makeSl 3 1 8 [(.int .i64 0)] (.t 15) (.t 15)) false (.q (zD 10 5 16<|zD 11 6 19<|.nil)<|.fin)<|.no)<|.no)<|zE 5 16 (.makeSl 3 1 8 [(.int .i64 0)] (.t 15) (.t 15)) false (zF<|zE 2 13 (.makeSl 3 1 8 [(.int .i64 0)] (.t 12) (.t 12)) false (.q (zD 9 4 13<|zD 10 5 16<|.nil)<|zE 8 19 (.makeSl 4 1 1 [(.bool false)] (.t 18) (.t 18)) false (.q (zD 11 6 19<|.nil)<|.fin)<|.no)<|zE 8 19 (.makeSl 4 1 1 [(.bool false)] (.t 18) (.t 18)) false (zF<|zE 2 13 (.makeSl 3 1 8 [(.int .i64 0)] (.t 12) (.t 12)) false (.q (zD 9 4 13<|zD 10 5 16<|zD 11 6 19<|.nil)<|.fin)<|.no)<|.no)<|zE 8 19 (.makeSl 4 1 1 [(.bool false)] (.t 18) (.t 18)) false (zF<|zE 2 13 (.makeSl 3 1 8 [(.int .i64 0)] (.t 12) (.t 12)) false (.q (zD 9 4 13<|.nil)<|zE 5 16 (.makeSl 3 1 8 [(.int .i64 0)] (.t 15) (.t 15)) false (.q (zD 10 5 16<|zD 11 6 19<|.nil)<|.fin)<|.no)<|zE 5 16 (.makeSl 3 1 8 [(.int .i64 0)] (.t 15) (.t 15)) false (zF<|zE 2 13 (.makeSl 3 1 8 [(.int .i64 0)] (.t 12) (.t 12)) false (.q (zD 9 4 13<|zD 10 5 16<|zD 11 6 19<|.nil)<|.fin)<|.no)<|.no)<|.no
def Du9 : Sts := zB 20 0<|zA 21 (zM 20)<|zA 22 (.makeSl 4 1 1 [(.bool false)] (.t 21) (.t 21))<|zB 7 22<|.nil
def Dv0 : Sts := zB 23 0<|zA 24 (zM 23)<|zA 25 (.bin .add (.t 24) (zN 1))<|zG 26 0<|.nil
def Dv1 : Sts := zA 27 (.bin .lss (.t 26) (.t 25))<|.nil
def Dv2 : Sts := zB 28 0<|zA 29 (zM 28)<|zG 30 0<|.nil
def Dv3 : Sts := zA 31 (.bin .lss (.t 30) (.t 29))<|.nil
def Dv4 : Sts := zB 32 30<|zA 33 (zH 6 28 30)<|zA 34 (.loadA 6 (.t 33))<|zA 9 (.alloc 121 [(.int .i64 0), (.int .i64 0), (.int .i64 0), (.int .i64 0), (.int .i64 0), (.int .i64 0)])<|zB 8 32<|.op none (.store 6 (.t 9) (.t 34))<|.nil
def Dv5 : Sts := zA 35 (zI 0 3)<|zA 36 (zK 35)<|zB 37 8<|zA 38 (zH 1 36 37)<|zA 39 (zJ 38)<|zB 10 39<|.nil
def Dv6 : Sts := zA 41 (.loadA 6 (.t 9))<|zA 42 (.call 86 [(.t 41)])<|zB 43 42<|.cnd 43 true (zB 44 10<|zA 45 (.bin .eql (.t 44) (.c (.int .i64 (-1))))<|.nil) 46 (.t 45)<|zB 40 46<|.nil
def Bp3 : Sts := zB 47 6<|zB 48 8<|zA 49 (zH 1 47 48)<|.op none (.store 1 (.t 49) (.c (.bool true)))<|.nil
def Bp4 : Sts := zA 51 (.loadA 6 (.t 9))<|zA 52 (.call 86 [(.t 51)])<|zB 53 52<|.cnd 53 true (zB 54 7<|zB 55 10<|zA 56 (zH 1 54 55)<|zA 57 (.loadB (.t 56))<|.nil) 58 (.t 57)<|zB 50 58<|.nil
def Bp5 : Sts := zB 59 4<|zB 60 8<|zB 61 6<|zB 62 8<|zB 63 5<|zB 64 10<|zA 65 (zH 1 63 64)<|zA 66 (zJ 65)<|zA 67 (zH 1 59 60)<|.op none (.store 1 (.t 67) (.t 66))<|zA 68 (zH 1 61 62)<|.op none (.store 1 (.t 68) (.c (.bool true)))<|.nil
def Bp6 : Sts := zA 69 (zI 0 9)<|zA 70 (zI 0 69)<|zA 71 (zJ 70)<|.nil
def Bp7 : Sts := zA 73 (.bin .eql (.t 71) (zN 1))<|zB 72 73<|.nil
def Bp8 : Sts := zB 74 5<|zB 75 8<|zB 76 7<|zB 77 8<|zA 78 (zI 0 9)<|zA 79 (zI 2 78)<|zA 80 (zJ 79)<|zA 81 (zH 1 74 75)<|.op none (.store 1 (.t 81) (.t 80))<|zA 82 (zH 1 76 77)<|.op none (.store 1 (.t 82) (.c (.bool true)))<|.nil
def Bp9 : Sts := zA 84 (.bin .eql (.t 71) (zN 2))<|zB 83 84<|.nil
def Yh : AT := .q (zD 0 85 5<|zD 1 86 8<|zD 2 87 7<|zD 3 88 8<|zD 4 89 4<|zD 5 90 8<|zC 6 91 (zH 1 89 90)<|zC 7 92 (zJ 91)<|zC 8 93 (zI 0 9)<|zC 9 94 (zI 2 93)<|zC 10 95 (zJ 94)<|zC 11 96 (.bin .add (.t 92) (.t 95))<|zD 12 97 6<|zD 13 98 8<|zC 14 99 (zH 1 97 98)<|zC 15 100 (.loadB (.t 99))<|zC 16 101 (zH 1 85 86)<|.nil)<|.s 17 none (.store 1 (.t 101) (.t 96)) false (.q (zC 18 102 (zH 1 87 88)<|.nil)<|.s 19 none (.store 1 (.t 102) (.t 100)) true (zF<|.fin)<|.no)<|.no
def Bq0 : Sts := zA 104 (.bin .eql (.t 71) (zN 3))<|zB 103 104<|.nil
def Bq1 : Sts := zA 105 (.bin .eql (.t 71) (zN 4))<|zB 103 105<|.nil
def Bq2 : Sts := zB 106 5<|zB 107 8<|zB 108 7<|zB 109 8<|zA 110 (zI 0 9)<|zA 111 (zI 3 110)<|zA 112 (zJ 111)<|zA 113 (zH 1 106 107)<|.op none (.store 1 (.t 113) (.t 112))<|zA 114 (zH 1 108 109)<|.op none (.store 1 (.t 114) (.c (.bool true)))<|.nil
def Bq3 : Sts := zA 115 (.bin .add (.t 30) (zN 1))<|zB 30 115<|.nil
def Am3 : RCode := (.seq (.reg Dv3) (.seq (.cond (.t 31) .skip (.exit 2)) (.seq (.block 3 (.seq (.reg Dv4) (.seq (.seq (.reg Dv5) (.block 4 (.seq (.reg Dv6) (.cond (.t 40) (.reg Bp3) (.seq (.reg Bp4) (.cond (.t 50) (.reg Bp5) .skip)))))) (.seq (.reg Bp6) (.block 5 (.seq (.reg Bp7) (.cond (.t 72) (.reg Bp8) (.seq (.reg Bp9) (.cond (.t 83) (.any Yh) (.seq (.seq (.reg Bq0) (.cond (.t 103) .skip (.reg Bq1))) (.cond (.t 103) (.reg Bq2) .skip))))))))))) (.reg Bq3))))
def Bq4 : Sts := zA 116 (.bin .add (.t 26) (zN 1))<|zB 26 116<|.nil
def Am4 : RCode := (.seq (.reg Dv1) (.seq (.cond (.t 27) .skip (.exit 0)) (.seq (.block 1 (.seq (.reg Dv2) (.block 2 (.loop Am3)))) (.reg Bq4))))
def Bq5 : Sts := zB 117 4<|zB 118 5<|zB 119 6<|zB 4 117<|zB 5 118<|zB 6 119<|.nil
def Q39 : RFun := ⟨120, [0, 1, 3, 4, 5, 6, 7, 8, 9, 10, 25, 26, 28, 29, 30, 71], (.seq (.reg Bp2) (.seq (.any Du8) (.seq (.reg Du9) (.seq (.seq (.reg Dv0) (.block 0 (.loop Am4))) (.seq (.reg Bq5) .ret))))), [.tmp 4, .tmp 5, .tmp 6]⟩
theorem Q39_ok : Aj Tryz.prog [0, 1, 3, 4, 5, 6, 7, 8, 9, 10, 25, 26, 28, 29, 30, 71] [15, 20, 31, 71, 88, 41, 76, 86, 65, 83, 81, 114, 117, 119, 122, 68, 100, 103, 104, 105, 137, 138, 64, 72, 96, 99, 158, 159, 132, 56, 93, 94, 130, 131, 155, 62, 23, 170] 85 = some Q39 := by kernel_rfl

def Ex8 : Sts := zA 1 (.box 121 (.t 0))<|zA 2 (.mv (.c (.bool false)))<|.nil
def Ex9 : Sts := zA 3 (zI 0 1)<|zA 4 (zI 0 3)<|zA 5 (zJ 4)<|zA 6 (.bin .neq (.t 5) (zN 1))<|zB 7 6<|.cnd 7 true (zA 8 (zI 0 1)<|zA 9 (zI 0 8)<|zA 10 (zJ 9)<|zA 11 (.bin .neq (.t 10) (zN 5))<|.nil) 12 (.t 11)<|zB 2 12<|.nil
def Q5 : RFun := ⟨13, [0, 1, 2], (.seq (.reg Ex8) (.seq (.reg Ex9) .ret)), [.tmp 2]⟩
theorem Q5_ok : Aj Tryz.prog [0, 1, 2] [15, 20, 31, 71, 88, 41, 76, 86, 65, 83, 81, 114, 117, 119, 122, 68, 100, 103, 104, 105, 137, 138, 64, 72, 96, 99, 158, 159, 132, 56, 93, 94, 130, 131, 155, 62, 23, 170] 86 = some Q5 := by kernel_rfl

def Bq6 : Sts := zG 4 0<|.nil
def Bq7 : Sts := zB 9 0<|zA 10 (zM 9)<|zG 11 0<|.nil
def Bq8 : Sts := zA 12 (.bin .lss (.t 11) (.t 10))<|.nil
def Bq9 : Sts := zB 13 11<|zA 14 (zH 1 9 11)<|zA 15 (zJ 14)<|zB 5 13<|zB 6 15<|.nil
def Br0 : Sts := zB 16 5<|zB 17 1<|zA 18 (zM 17)<|zA 19 (.bin .geq (.t 16) (.t 18))<|.nil
def Br1 : Sts := zG 4 1<|.nil
def Br2 : Sts := zB 20 1<|zB 21 5<|zA 22 (zH 1 20 21)<|zA 23 (zJ 22)<|zB 7 23<|.nil
def Br3 : Sts := zB 24 6<|zB 25 7<|zA 26 (.call 127 [(.t 24), (.t 25)])<|zB 8 26<|.nil
def Br4 : Sts := zB 27 8<|zA 28 (.bin .neq (.t 27) (zN 0))<|.nil
def Br5 : Sts := zB 29 8<|zB 4 29<|.nil
def Am5 : Sts := zA 30 (.bin .add (.t 11) (zN 1))<|zB 11 30<|.nil
def Ab3 : RCode := (.seq (.reg Bq8) (.seq (.cond (.t 12) .skip (.exit 0)) (.seq (.block 1 (.seq (.reg Bq9) (.seq (.seq (.reg Br0) (.cond (.t 19) (.seq (.reg Br1) .ret) .skip)) (.seq (.reg Br2) (.seq (.reg Br3) (.seq (.reg Br4) (.cond (.t 28) (.seq (.reg Br5) .ret) .skip))))))) (.reg Am5))))
def Am6 : Sts := zB 31 0<|zA 32 (zM 31)<|zB 33 1<|zA 34 (zM 33)<|zA 35 (.bin .lss (.t 32) (.t 34))<|.nil
def Am7 : Sts := zA 4 (.mv (.c (.int .i64 (-1))))<|.nil
def Am8 : Sts := zG 4 0<|.nil
def Dv7 : RFun := ⟨36, [0, 1, 4, 5, 6, 7, 8, 9, 10, 11], (.seq (.reg Bq6) (.seq (.seq (.reg Bq7) (.block 0 (.loop Ab3))) (.seq (.seq (.reg Am6) (.cond (.t 35) (.seq (.reg Am7) .ret) .skip)) (.seq (.reg Am8) .ret)))), [.tmp 4]⟩
theorem Q104_ok : Aj Tryz.prog [0, 1, 4, 5, 6, 7, 8, 9, 10, 11] [15, 20, 31, 71, 88, 41, 76, 86, 65, 83, 81, 114, 117, 119, 122, 68, 100, 103, 104, 105, 137, 138, 64, 72, 96, 99, 158, 159, 132, 56, 93, 94, 130, 131, 155, 62, 23, 170] 88 = some Dv7 := by kernel_rfl

def Br6 : Sts := zA 4 (.mv (.c (.slice none 0 0)))<|.nil
def Br7 : Sts := zB 8 0<|zA 9 (zM 8)<|zA 10 (.bin .lss (.t 9) (zN 2))<|.nil
def Br8 : Sts := zB 11 0<|zB 4 11<|.nil
def Br9 : Sts := zG 5 1<|.nil
def Bs0 : Sts := zB 12 5<|zB 13 0<|zA 14 (zM 13)<|zA 15 (.bin .lss (.t 12) (.t 14))<|.nil
def U6 : AT := .q (zD 0 18 1<|zD 1 19 0<|zD 2 20 5<|zC 3 21 (zH 1 19 20)<|zC 4 22 (zK 21)<|zD 5 23 0<|zD 6 24 5<|zC 7 25 (.bin .sub (.t 24) (zN 1))<|zC 8 26 (zH 1 23 25)<|zC 9 27 (zK 26)<|.nil)<|zE 10 28 (.callv (.t 18) [(.t 22), (.t 27)]) true (zF<|.fin)<|.no
def Bs1 : Sts := zB 29 0<|zB 30 5<|zA 31 (.slS 1 (.t 29) (some (.t 30)) none none)<|zB 6 31<|.nil
def Bs2 : Sts := zG 7 1<|.nil
def Bs3 : Sts := zB 32 7<|zB 33 6<|zA 34 (zM 33)<|zA 35 (.bin .lss (.t 32) (.t 34))<|.nil
def U7 : AT := .q (zD 0 38 1<|zD 1 39 6<|zD 2 40 7<|zC 3 41 (zH 1 39 40)<|zC 4 42 (zK 41)<|zD 5 43 6<|zD 6 44 7<|zC 7 45 (.bin .sub (.t 44) (zN 1))<|zC 8 46 (zH 1 43 45)<|zC 9 47 (zK 46)<|.nil)<|zE 10 48 (.callv (.t 38) [(.t 42), (.t 47)]) true (.q (zC 11 49 (.notb (.t 48))<|.nil)<|.fin)<|.no
def Am9 : Sts := zB 50 0<|zB 51 5<|zB 52 6<|zB 53 7<|zA 54 (zH 1 52 53)<|zA 55 (zK 54)<|zA 56 (zH 1 50 51)<|.op none (.store 1 (.t 56) (.t 55))<|.nil
def An0 : Sts := zB 57 5<|zA 58 (.bin .add (.t 57) (zN 1))<|zB 5 58<|.nil
def An1 : Sts := zB 36 7<|zA 37 (.bin .add (.t 36) (zN 1))<|zB 7 37<|.nil
def Ab4 : RCode := (.seq (.seq (.reg Bs3) (.cond (.t 35) .skip (.exit 2))) (.seq (.block 3 (.seq (.any U7) (.cond (.t 49) (.seq (.reg Am9) (.reg An0)) .skip))) (.reg An1)))
def An2 : Sts := zB 59 0<|zB 60 5<|zA 61 (.slS 1 (.t 59) (some (.t 60)) none none)<|.op none (.clearS (.slice none 0 0) (.t 61))<|.nil
def An3 : Sts := zB 62 0<|zB 63 5<|zA 64 (.slS 1 (.t 62) none (some (.t 63)) none)<|zB 4 64<|.nil
def An4 : Sts := zB 16 5<|zA 17 (.bin .add (.t 16) (zN 1))<|zB 5 17<|.nil
def Ab5 : RCode := (.seq (.seq (.reg Bs0) (.cond (.t 15) .skip (.exit 0))) (.seq (.block 1 (.seq (.any U6) (.cond (.t 28) (.seq (.reg Bs1) (.seq (.seq (.reg Bs2) (.block 2 (.loop Ab4))) (.seq (.reg An2) (.seq (.reg An3) .ret)))) .skip))) (.reg An4)))
def An5 : Sts := zB 65 0<|zB 4 65<|.nil
def Bs4 : RFun := ⟨66, [0, 1, 4, 5, 6, 7], (.seq (.reg Br6) (.seq (.seq (.reg Br7) (.cond (.t 10) (.seq (.reg Br8) .ret) .skip)) (.seq (.seq (.reg Br9) (.block 0 (.loop Ab5))) (.seq (.reg An5) .ret)))), [.tmp 4]⟩
theorem Q103_ok : Aj Tryz.prog [0, 1, 4, 5, 6, 7] [15, 20, 31, 71, 88, 41, 76, 86, 65, 83, 81, 114, 117, 119, 122, 68, 100, 103, 104, 105, 137, 138, 64, 72, 96, 99, 158, 159, 132, 56, 93, 94, 130, 131, 155, 62, 23, 170] 89 = some Bs4 := by kernel_rfl

def Dv8 : Sts := zA 4 (.mv (.c (.bool false)))<|.nil
def Dv9 : Sts := zB 5 1<|zA 6 (.bin .lss (.t 5) (zN 0))<|zB 7 6<|.cnd 7 false (zB 8 1<|zA 9 (.bin .gtr (.t 8) (zN 4))<|.nil) 10 (.t 9)<|.nil
def Dw0 : Sts := zA 4 (.mv (.c (.bool false)))<|.nil
def Dw1 : Sts := zB 11 0<|zA 12 (.bin .eql (.t 11) (zN 0))<|.nil
def Dw2 : Sts := zB 13 1<|zA 14 (.bin .eql (.t 13) (zN 0))<|zB 15 14<|.cnd 15 false (zB 16 1<|zA 17 (.bin .eql (.t 16) (zN 1))<|.nil) 18 (.t 17)<|zB 19 18<|.cnd 19 false (zB 20 1<|zA 21 (.bin .eql (.t 20) (zN 4))<|.nil) 22 (.t 21)<|zB 4 22<|.nil
def Dw3 : Sts := zB 23 0<|zA 24 (.bin .eql (.t 23) (zN 1))<|.nil
def Dw4 : Sts := zB 25 1<|zA 26 (.bin .eql (.t 25) (zN 0))<|zB 27 26<|.cnd 27 false (zB 28 1<|zA 29 (.bin .eql (.t 28) (zN 2))<|.nil) 30 (.t 29)<|zB 31 30<|.cnd 31 false (zB 32 1<|zA 33 (.bin .eql (.t 32) (zN 4))<|.nil) 34 (.t 33)<|zB 4 34<|.nil
def Dw5 : Sts := zB 35 0<|zA 36 (.bin .eql (.t 35) (zN 5))<|.nil
def Dw6 : Sts := zB 37 1<|zA 38 (.bin .neq (.t 37) (zN 0))<|zB 4 38<|.nil
def Dw7 : Sts := zB 39 0<|zA 40 (.bin .geq (.t 39) (zN 2))<|zB 41 40<|.cnd 41 true (zB 42 0<|zA 43 (.bin .leq (.t 42) (zN 4))<|.nil) 44 (.t 43)<|zB 4 44<|.nil
def Q69 : RFun := ⟨45, [0, 1, 4], (.seq (.reg Dv8) (.seq (.seq (.reg Dv9) (.cond (.t 10) (.seq (.reg Dw0) .ret) .skip)) (.seq (.seq (.reg Dw1) (.cond (.t 12) (.seq (.reg Dw2) .ret) .skip)) (.seq (.seq (.reg Dw3) (.cond (.t 24) (.seq (.reg Dw4) .ret) .skip)) (.seq (.seq (.reg Dw5) (.cond (.t 36) (.seq (.reg Dw6) .ret) .skip)) (.seq (.reg Dw7) .ret)))))), [.tmp 4]⟩
theorem Q69_ok : Aj Tryz.prog [0, 1, 4] [15, 20, 31, 71, 88, 41, 76, 86, 65, 83, 81, 114, 117, 119, 122, 68, 100, 103, 104, 105, 137, 138, 64, 72, 96, 99, 158, 159, 132, 56, 93, 94, 130, 131, 155, 62, 23, 170] 90 = some Q69 := by kernel_rfl

def Dw8 : Sts := zA 1 (.box 24 (.t 0))<|zA 2 (.alloc 24 [(.slice none 0 0)])<|zG 3 0<|.nil
def Dw9 : Sts := zA 11 (.loadA 1 (.t 1))<|zA 12 (.call 13 [(.t 11)])<|zB 4 12<|.nil
def Dx0 : Sts := zB 13 4<|zA 14 (.bin .neq (.t 13) (zN 0))<|.nil
def Dx1 : Sts := zA 15 (.build [(.slice none 0 0)] [])<|zB 16 4<|.op none (.store 1 (.t 2) (.t 15))<|zB 3 16<|.nil
def Dx2 : Sts := zA 5 (.alloc 24 [(.slice none 0 0)])<|.nil
def Dx3 : Sts := zA 17 (.build [(.int .i64 0), (.int .i64 0), (.int .i64 0), (.int .i64 0), (.int .i64 0)] [(0, 1, (zN 5)), (4, 1, (zN 4))])<|zA 6 (.alloc 83 [(.int .i64 0), (.int .i64 0), (.int .i64 0), (.int .i64 0), (.int .i64 0)])<|.op none (.store 5 (.t 6) (.t 17))<|.nil
def Dx4 : Sts := zG 7 0<|.nil
def Dx5 : Sts := zB 18 7<|zA 19 (zI 0 1)<|zA 20 (zK 19)<|zA 21 (zM 20)<|zA 22 (.bin .lss (.t 18) (.t 21))<|.nil
def Dx6 : Sts := zA 8 (.mv (.c (.slice none 0 0)))<|.nil
def Dx7 : Sts := zG 9 0<|.nil
def Bs5 : Sts := zB 25 9<|zA 26 (zI 0 1)<|zA 27 (zK 26)<|zB 28 7<|zA 29 (zH 1 27 28)<|zA 30 (zK 29)<|zA 31 (zM 30)<|zA 32 (.bin .lss (.t 25) (.t 31))<|.nil
def Bs6 : Sts := zA 35 (zI 0 1)<|zA 36 (zK 35)<|zB 37 7<|zA 38 (zH 1 36 37)<|zA 39 (zK 38)<|zB 40 9<|zA 41 (zH 5 39 40)<|zA 42 (.loadA 5 (.t 41))<|zA 10 (.alloc 83 [(.int .i64 0), (.int .i64 0), (.int .i64 0), (.int .i64 0), (.int .i64 0)])<|.op none (.store 5 (.t 10) (.t 42))<|.nil
def Bs7 : Sts := zA 43 (zI 0 10)<|zA 44 (zJ 43)<|zA 45 (.bin .eql (.t 44) (zN 5))<|zB 46 45<|.cnd 46 false (zA 47 (zI 4 10)<|zA 48 (zJ 47)<|zA 49 (.bin .neq (.t 48) (zN 4))<|.nil) 50 (.t 49)<|.nil
def Bs8 : Sts := zB 51 8<|zA 52 (.loadA 5 (.t 10))<|zA 53 (.buildSl 83 1 [(.int .i64 0), (.int .i64 0), (.int .i64 0), (.int .i64 0), (.int .i64 0)] [(0, 5, (.t 52))])<|zA 54 (.append 83 5 40 [(.int .i64 0), (.int .i64 0), (.int .i64 0), (.int .i64 0), (.int .i64 0)] (.t 51) (.t 53))<|zB 8 54<|.nil
def Bs9 : Sts := zA 55 (.loadA 5 (.t 10))<|zA 56 (.call 128 [(.t 55)])<|zA 57 (zI 4 10)<|.op none (.store 1 (.t 57) (.t 56))<|.nil
def Bt0 : Sts := zB 58 8<|zA 59 (.loadA 5 (.t 6))<|zA 60 (.loadA 5 (.t 10))<|zA 61 (.loadA 5 (.t 6))<|zA 62 (.buildSl 83 3 [(.int .i64 0), (.int .i64 0), (.int .i64 0), (.int .i64 0), (.int .i64 0), (.int .i64 0), (.int .i64 0), (.int .i64 0), (.int .i64 0), (.int .i64 0), (.int .i64 0), (.int .i64 0), (.int .i64 0), (.int .i64 0), (.int .i64 0)] [(0, 5, (.t 59)), (5, 5, (.t 60)), (10, 5, (.t 61))])<|zA 63 (.append 83 5 40 [(.int .i64 0), (.int .i64 0), (.int .i64 0), (.int .i64 0), (.int .i64 0)] (.t 58) (.t 62))<|zB 8 63<|.nil
def Bt1 : Sts := zB 33 9<|zA 34 (.bin .add (.t 33) (zN 1))<|zB 9 34<|.nil
def An6 : RCode := (.seq (.seq (.reg Bs5) (.cond (.t 32) .skip (.exit 2))) (.seq (.block 3 (.seq (.reg Bs6) (.seq (.seq (.reg Bs7) (.cond (.t 50) (.seq (.reg Bs8) (.exit 3)) .skip)) (.seq (.reg Bs9) (.reg Bt0))))) (.reg Bt1)))
def Bt2 : Sts := zA 64 (zI 0 5)<|zA 65 (zK 64)<|zB 66 8<|zA 67 (.buildSl 70 1 [(.slice none 0 0)] [(0, 1, (.t 66))])<|zA 68 (.append 70 1 24 [(.slice none 0 0)] (.t 65) (.t 67))<|zA 69 (zI 0 5)<|.op none (.store 1 (.t 69) (.t 68))<|.nil
def Bt3 : Sts := zB 23 7<|zA 24 (.bin .add (.t 23) (zN 1))<|zB 7 24<|.nil
def An7 : RCode := (.seq (.seq (.reg Dx5) (.cond (.t 22) .skip (.exit 0))) (.seq (.block 1 (.seq (.reg Dx6) (.seq (.seq (.reg Dx7) (.block 2 (.loop An6))) (.reg Bt2)))) (.reg Bt3)))
def Bt4 : Sts := zA 70 (.loadA 1 (.t 5))<|.op none (.store 1 (.t 2) (.t 70))<|zG 3 0<|.nil
def Q66 : RFun := ⟨71, [0, 1, 2, 3, 4, 5, 6, 7, 8, 9, 10], (.seq (.reg Dw8) (.seq (.seq (.reg Dw9) (.seq (.reg Dx0) (.cond (.t 14) (.seq (.reg Dx1) .ret) .skip))) (.seq (.reg Dx2) (.seq (.reg Dx3) (.seq (.seq (.reg Dx4) (.block 0 (.loop An7))) (.seq (.reg Bt4) .ret)))))), [.cellA 2 1, .tmp 3]⟩
theorem Q66_ok : Aj Tryz.prog [0, 1, 2, 3, 4, 5, 6, 7, 8, 9, 10] [15, 20, 31, 71, 88, 41, 76, 86, 65, 83, 81, 114, 117, 119, 122, 68, 100, 103, 104, 105, 137, 138, 64, 72, 96, 99, 158, 159, 132, 56, 93, 94, 130, 131, 155, 62, 23, 170] 91 = some Q66 := by kernel_rfl

def Dx8 : Sts := zA 1 (.box 83 (.t 0))<|zA 2 (.mv (.c (.bool false)))<|.nil
def Dx9 : Sts := zA 3 (zI 0 1)<|zA 4 (zJ 3)<|zA 5 (.bin .geq (.t 4) (zN 1))<|zB 6 5<|.cnd 6 true (zA 7 (zI 0 1)<|zA 8 (zJ 7)<|zA 9 (.bin .leq (.t 8) (zN 4))<|.nil) 10 (.t 9)<|zB 2 10<|.nil
def Q90 : RFun := ⟨11, [0, 1, 2], (.seq (.reg Dx8) (.seq (.reg Dx9) .ret)), [.tmp 2]⟩
theorem Q90_ok : Aj Tryz.prog [0, 1, 2] [15, 20, 31, 71, 88, 41, 76, 86, 65, 83, 81, 114, 117, 119, 122, 68, 100, 103, 104, 105, 137, 138, 64, 72, 96, 99, 158, 159, 132, 56, 93, 94, 130, 131, 155, 62, 23, 170] 93 = some Q90 := by kernel_rfl

def Dy0 : Sts := zA 1 (.box 83 (.t 0))<|zA 2 (.mv (.c (.bool false)))<|.nil
def Dy1 : Sts := zA 3 (zI 0 1)<|zA 4 (zJ 3)<|zA 5 (.bin .eql (.t 4) (zN 5))<|zB 6 5<|.cnd 6 true (zA 7 (zI 4 1)<|zA 8 (zJ 7)<|zA 9 (.bin .eql (.t 8) (zN 4))<|.nil) 10 (.t 9)<|zB 2 10<|.nil
def Q78 : RFun := ⟨11, [0, 1, 2], (.seq (.reg Dy0) (.seq (.reg Dy1) .ret)), [.tmp 2]⟩
theorem Q78_ok : Aj Tryz.prog [0, 1, 2] [15, 20, 31, 71, 88, 41, 76, 86, 65, 83, 81, 114, 117, 119, 122, 68, 100, 103, 104, 105, 137, 138, 64, 72, 96, 99, 158, 159, 132, 56, 93, 94, 130, 131, 155, 62, 23, 170] 94 = some Q78 := by kernel_rfl

def Dy2 : Sts := zA 3 (.box 37 (.t 1))<|zA 4 (.alloc 95 [(.int .u64 0), (.int .u64 0), (.int .u64 0), (.int .u64 0), (.int .u64 0), (.int .u64 0), (.int .u64 0), (.int .u64 0), (.int .u64 0), (.int .u64 0), (.int .u64 0), (.int .u64 0), (.int .u64 0), (.int .u64 0), (.int .u64 0), (.int .u64 0)])<|.nil
def Dy3 : Sts := zA 5 (.alloc 95 [(.int .u64 0), (.int .u64 0), (.int .u64 0), (.int .u64 0), (.int .u64 0), (.int .u64 0), (.int .u64 0), (.int .u64 0), (.int .u64 0), (.int .u64 0), (.int .u64 0), (.int .u64 0), (.int .u64 0), (.int .u64 0), (.int .u64 0), (.int .u64 0)])<|.nil
def Dy4 : Sts := zG 6 0<|.nil
def Dy5 : Sts := zB 16 6<|zB 17 0<|zA 18 (zM 17)<|zA 19 (.bin .lss (.t 16) (.t 18))<|.nil
def Dy6 : Sts := zA 22 (zI 1 3)<|zA 23 (zK 22)<|zB 24 6<|zA 25 (zH 1 23 24)<|zA 26 (.loadB (.t 25))<|zA 27 (.notb (.t 26))<|.nil
def Dy7 : Sts := zB 28 6<|zA 29 (.conv .u64 (.t 28))<|zA 30 (.bin .shl (.c (.int .u64 1)) (.t 29))<|zB 7 30<|.nil
def Dy8 : Sts := zG 8 0<|.nil
def Dy9 : Sts := zB 31 8<|zB 32 0<|zA 33 (zM 32)<|zA 34 (.bin .lss (.t 31) (.t 33))<|.nil
def Dz0 : Sts := zG 9 0<|.nil
def Dz1 : Sts := zB 37 9<|zB 38 0<|zA 39 (zM 38)<|zA 40 (.bin .lss (.t 37) (.t 39))<|.nil
def Bt5 : Sts := zA 43 (zI 1 3)<|zA 44 (zK 43)<|zB 45 9<|zA 46 (zH 1 44 45)<|zA 47 (.loadB (.t 46))<|zB 48 47<|.cnd 48 true (zA 49 (zI 0 3)<|zA 50 (zK 49)<|zB 51 9<|zA 52 (zH 1 50 51)<|zA 53 (zJ 52)<|zA 54 (.bin .geq (.t 53) (zN 0))<|.nil) 55 (.t 54)<|zB 56 55<|.cnd 56 true (zB 57 7<|zA 58 (zI 0 3)<|zA 59 (zK 58)<|zB 60 9<|zA 61 (zH 1 59 60)<|zA 62 (zJ 61)<|zA 63 (.conv .u64 (.t 62))<|zA 64 (.bin .shr (.t 57) (.t 63))<|zA 65 (.bin .and (.t 64) (.c (.int .u64 1)))<|zA 66 (.bin .eql (.t 65) (.c (.int .u64 1)))<|.nil) 67 (.t 66)<|.nil
def Bt6 : Sts := zB 68 7<|zB 69 9<|zA 70 (.conv .u64 (.t 69))<|zA 71 (.bin .shl (.c (.int .u64 1)) (.t 70))<|zA 72 (.bin .or (.t 68) (.t 71))<|zB 7 72<|.nil
def Bt7 : Sts := zB 41 9<|zA 42 (.bin .add (.t 41) (zN 1))<|zB 9 42<|.nil
def An8 : RCode := (.seq (.seq (.reg Dz1) (.cond (.t 40) .skip (.exit 4))) (.seq (.block 5 (.seq (.reg Bt5) (.cond (.t 67) (.reg Bt6) .skip))) (.reg Bt7)))
def Bt8 : Sts := zB 35 8<|zA 36 (.bin .add (.t 35) (zN 1))<|zB 8 36<|.nil
def An9 : RCode := (.seq (.seq (.reg Dy9) (.cond (.t 34) .skip (.exit 2))) (.seq (.block 3 (.seq (.reg Dz0) (.block 4 (.loop An8)))) (.reg Bt8)))
def Bt9 : Sts := zG 10 0<|.nil
def Bu0 : Sts := zB 73 10<|zB 74 0<|zA 75 (zM 74)<|zA 76 (.bin .lss (.t 73) (.t 75))<|.nil
def Bu1 : Sts := zA 79 (zI 0 3)<|zA 80 (zK 79)<|zB 81 10<|zA 82 (zH 1 80 81)<|zA 83 (zJ 82)<|zA 84 (.bin .lss (.t 83) (zN 0))<|zB 85 84<|.cnd 85 false (zB 86 7<|zA 87 (zI 0 3)<|zA 88 (zK 87)<|zB 89 10<|zA 90 (zH 1 88 89)<|zA 91 (zJ 90)<|zA 92 (.conv .u64 (.t 91))<|zA 93 (.bin .shr (.t 86) (.t 92))<|zA 94 (.bin .and (.t 93) (.c (.int .u64 1)))<|zA 95 (.bin .eql (.t 94) (.c (.int .u64 0)))<|.nil) 96 (.t 95)<|.nil
def Bu2 : Sts := zA 11 (.mv (.c (.int .u64 0)))<|zA 12 (.mv (.c (.int .u64 0)))<|.nil
def Bu3 : Sts := zG 13 0<|.nil
def Bu4 : Sts := zB 97 13<|zB 98 0<|zA 99 (zM 98)<|zA 100 (.bin .lss (.t 97) (.t 99))<|.nil
def Bu5 : Sts := zB 103 0<|zB 104 13<|zA 105 (zH 6 103 104)<|zA 106 (zI 1 105)<|zA 107 (.loadA 5 (.t 106))<|zA 14 (.alloc 83 [(.int .i64 0), (.int .i64 0), (.int .i64 0), (.int .i64 0), (.int .i64 0)])<|.op none (.store 5 (.t 14) (.t 107))<|.nil
def Af7 : AT := .q (zC 0 108 (zI 4 14)<|zC 1 109 (zJ 108)<|zC 2 110 (.call 130 [(.t 109)])<|zD 3 111 110<|.g 111 true (zD 4 112 13<|zD 5 113 6<|zC 6 114 (.bin .eql (.t 112) (.t 113))<|zD 7 115 114<|.g 115 false (zC 8 116 (zI 0 14)<|zC 9 117 (zJ 116)<|zC 10 118 (.bin .eql (.t 117) (zN 5))<|zD 11 119 118<|.g 119 true (zD 12 120 0<|zD 13 121 13<|zC 14 122 (zH 6 120 121)<|zC 15 123 (zI 0 122)<|zC 16 124 (zJ 123)<|zD 17 125 0<|zD 18 126 6<|zC 19 127 (zH 6 125 126)<|zC 20 128 (zI 0 127)<|zC 21 129 (zJ 128)<|zC 22 130 (.bin .eql (.t 124) (.t 129))<|.nil) 23 131 (.t 130)<|zD 24 132 131<|.g 132 true (zD 25 133 13<|zD 26 134 6<|zC 27 135 (.bin .lss (.t 133) (.t 134))<|.nil) 28 136 (.t 135)<|.nil) 29 137 (.t 136)<|.nil) 30 138 (.t 137)<|.nil)<|.fin
def Bu6 : Sts := zB 139 11<|zB 140 13<|zA 141 (.conv .u64 (.t 140))<|zA 142 (.bin .shl (.c (.int .u64 1)) (.t 141))<|zA 143 (.bin .or (.t 139) (.t 142))<|zB 11 143<|.nil
def Af8 : AT := .q (zC 0 144 (zI 4 14)<|zC 1 145 (zJ 144)<|zC 2 146 (.call 131 [(.t 145)])<|zD 3 147 146<|.g 147 true (zD 4 148 13<|zD 5 149 10<|zC 6 150 (.bin .eql (.t 148) (.t 149))<|zD 7 151 150<|.g 151 false (zC 8 152 (zI 0 14)<|zC 9 153 (zJ 152)<|zC 10 154 (.bin .eql (.t 153) (zN 5))<|zD 11 155 154<|.g 155 true (zD 12 156 0<|zD 13 157 13<|zC 14 158 (zH 6 156 157)<|zC 15 159 (zI 0 158)<|zC 16 160 (zJ 159)<|zD 17 161 0<|zD 18 162 10<|zC 19 163 (zH 6 161 162)<|zC 20 164 (zI 0 163)<|zC 21 165 (zJ 164)<|zC 22 166 (.bin .eql (.t 160) (.t 165))<|.nil) 23 167 (.t 166)<|zD 24 168 167<|.g 168 true (zD 25 169 13<|zD 26 170 10<|zC 27 171 (.bin .gtr (.t 169) (.t 170))<|.nil) 28 172 (.t 171)<|.nil) 29 173 (.t 172)<|.nil) 30 174 (.t 173)<|.nil)<|.fin
def Bu7 : Sts := zB 175 12<|zB 176 13<|zA 177 (.conv .u64 (.t 176))<|zA 178 (.bin .shl (.c (.int .u64 1)) (.t 177))<|zA 179 (.bin .or (.t 175) (.t 178))<|zB 12 179<|.nil
def Bu8 : Sts := zB 101 13<|zA 102 (.bin .add (.t 101) (zN 1))<|zB 13 102<|.nil
def Yi : RCode := (.seq (.seq (.reg Bu4) (.cond (.t 100) .skip (.exit 8))) (.seq (.block 9 (.seq (.reg Bu5) (.seq (.seq (.any Af7) (.cond (.t 138) (.reg Bu6) .skip)) (.seq (.any Af8) (.cond (.t 174) (.reg Bu7) .skip))))) (.reg Bu8)))
def Af9 : Sts := zG 15 0<|.nil
def Bu9 : Sts := zB 180 15<|zB 181 0<|zA 182 (zM 181)<|zA 183 (.bin .lss (.t 180) (.t 182))<|.nil
def Bv0 : Sts := zB 186 11<|zB 187 15<|zA 188 (.conv .u64 (.t 187))<|zA 189 (.bin .shr (.t 186) (.t 188))<|zA 190 (.bin .and (.t 189) (.c (.int .u64 1)))<|zA 191 (.bin .eql (.t 190) (.c (.int .u64 1)))<|.nil
def Bv1 : Sts := zB 192 15<|zB 193 15<|zA 194 (.iaddrA 16 1 (.t 5) (.t 193))<|zA 195 (.loadI .u64 (.t 194))<|zB 196 12<|zA 197 (.bin .or (.t 195) (.t 196))<|zA 198 (.iaddrA 16 1 (.t 5) (.t 192))<|.op none (.store 1 (.t 198) (.t 197))<|.nil
def Bv2 : Sts := zB 184 15<|zA 185 (.bin .add (.t 184) (zN 1))<|zB 15 185<|.nil
def Yj : RCode := (.seq (.seq (.reg Bu9) (.cond (.t 183) .skip (.exit 10))) (.seq (.block 11 (.seq (.reg Bv0) (.cond (.t 191) (.reg Bv1) .skip))) (.reg Bv2)))
def Bv3 : Sts := zB 77 10<|zA 78 (.bin .add (.t 77) (zN 1))<|zB 10 78<|.nil
def Ao0 : RCode := (.seq (.seq (.reg Bu0) (.cond (.t 76) .skip (.exit 6))) (.seq (.block 7 (.seq (.seq (.reg Bu1) (.cond (.t 96) (.exit 7) .skip)) (.seq (.reg Bu2) (.seq (.seq (.reg Bu3) (.block 8 (.loop Yi))) (.seq (.reg Af9) (.block 10 (.loop Yj))))))) (.reg Bv3)))
def Bv4 : Sts := zB 20 6<|zA 21 (.bin .add (.t 20) (zN 1))<|zB 6 21<|.nil
def Ao1 : RCode := (.seq (.seq (.reg Dy5) (.cond (.t 19) .skip (.exit 0))) (.seq (.block 1 (.seq (.seq (.reg Dy6) (.cond (.t 27) (.exit 1) .skip)) (.seq (.reg Dy7) (.seq (.seq (.reg Dy8) (.block 2 (.loop An9))) (.seq (.reg Bt9) (.block 6 (.loop Ao0))))))) (.reg Bv4)))
def Bv5 : Sts := zA 199 (.loadA 16 (.t 5))<|.op none (.store 16 (.t 4) (.t 199))<|.nil
def Q80 : RFun := ⟨200, [0, 1, 3, 4, 5, 6, 7, 8, 9, 10, 11, 12, 13, 14, 15], (.seq (.reg Dy2) (.seq (.reg Dy3) (.seq (.seq (.reg Dy4) (.block 0 (.loop Ao1))) (.seq (.reg Bv5) .ret)))), [.cellA 4 16]⟩
theorem Q80_ok : Aj Tryz.prog [0, 1, 3, 4, 5, 6, 7, 8, 9, 10, 11, 12, 13, 14, 15] [15, 20, 31, 71, 88, 41, 76, 86, 65, 83, 81, 114, 117, 119, 122, 68, 100, 103, 104, 105, 137, 138, 64, 72, 96, 99, 158, 159, 132, 56, 93, 94, 130, 131, 155, 62, 23, 170] 95 = some Q80 := by kernel_rfl

def Dz2 : Sts := zA 2 (.mv (.c (.bool false)))<|.nil
def Dz3 : Sts := zB 3 0<|zA 4 (.bin .geq (.t 3) (zN 0))<|zB 5 4<|.cnd 5 true (zB 6 0<|zA 7 (.bin .lss (.t 6) (zN 5))<|.nil) 8 (.t 7)<|zB 2 8<|.nil
def Q96 : RFun := ⟨9, [0, 2], (.seq (.reg Dz2) (.seq (.reg Dz3) .ret)), [.tmp 2]⟩
theorem Q96_ok : Aj Tryz.prog [0, 2] [15, 20, 31, 71, 88, 41, 76, 86, 65, 83, 81, 114, 117, 119, 122, 68, 100, 103, 104, 105, 137, 138, 64, 72, 96, 99, 158, 159, 132, 56, 93, 94, 130, 131, 155, 62, 23, 170] 96 = some Q96 := by kernel_rfl

def Bv6 : Sts := zG 2 0<|.nil
def Bv7 : Sts := zB 5 0<|zA 6 (zM 5)<|zA 7 (.bin .lss (.t 6) (zN 1))<|.nil
def Bv8 : Sts := zA 8 (.bad)<|.op none (.bad)<|.nil
def Bv9 : Sts := zB 9 0<|zA 10 (.iaddrS 1 (.t 9) (zN 0))<|zA 11 (zJ 10)<|zB 3 11<|.nil
def Bw0 : Sts := zG 4 1<|.nil
def Bw1 : Sts := zB 12 4<|zB 13 0<|zA 14 (zM 13)<|zA 15 (.bin .lss (.t 12) (.t 14))<|.nil
def Bw2 : Sts := zB 18 3<|zB 19 0<|zB 20 4<|zA 21 (zH 1 19 20)<|zA 22 (zJ 21)<|zA 23 (.maxi (.t 18) (.t 22))<|zB 3 23<|.nil
def Bw3 : Sts := zB 16 4<|zA 17 (.bin .add (.t 16) (zN 1))<|zB 4 17<|.nil
def Ao2 : RCode := (.seq (.seq (.reg Bw1) (.cond (.t 15) .skip (.exit 0))) (.seq (.block 1 (.reg Bw2)) (.reg Bw3)))
def Bw4 : Sts := zB 24 3<|zB 2 24<|.nil
def Dz4 : RFun := ⟨25, [0, 2, 3, 4], (.seq (.reg Bv6) (.seq (.seq (.reg Bv7) (.cond (.t 7) (.reg Bv8) .skip)) (.seq (.reg Bv9) (.seq (.seq (.reg Bw0) (.block 0 (.loop Ao2))) (.seq (.reg Bw4) .ret))))), [.tmp 2]⟩
theorem Q111_ok : Aj Tryz.prog [0, 2, 3, 4] [15, 20, 31, 71, 88, 41, 76, 86, 65, 83, 81, 114, 117, 119, 122, 68, 100, 103, 104, 105, 137, 138, 64, 72, 96, 99, 158, 159, 132, 56, 93, 94, 130, 131, 155, 62, 23, 170] 98 = some Dz4 := by kernel_rfl

def Dz5 : Sts := zA 4 (.mv (.c (.bool false)))<|.nil
def Dz6 : Sts := zB 5 0<|.nil
def Dz7 : Sts := zA 7 (.bin .eql (.t 5) (zN 0))<|zB 6 7<|.nil
def Dz8 : Sts := zB 8 1<|zA 9 (.bin .neq (.t 8) (zN 2))<|zB 10 9<|.cnd 10 true (zB 11 1<|zA 12 (.bin .neq (.t 11) (zN 3))<|.nil) 13 (.t 12)<|zB 4 13<|.nil
def Dz9 : Sts := zA 15 (.bin .eql (.t 5) (zN 1))<|zB 14 15<|.nil
def Ea0 : Sts := zB 16 1<|zA 17 (.bin .neq (.t 16) (zN 1))<|zB 18 17<|.cnd 18 true (zB 19 1<|zA 20 (.bin .neq (.t 19) (zN 3))<|.nil) 21 (.t 20)<|zB 4 21<|.nil
def Ea1 : Sts := zA 23 (.bin .eql (.t 5) (zN 5))<|zB 22 23<|.nil
def Ea2 : Sts := zB 24 1<|zA 25 (.bin .neq (.t 24) (zN 0))<|zB 4 25<|.nil
def Ea3 : Sts := zA 4 (.mv (.c (.bool true)))<|.nil
def Q97 : RFun := ⟨26, [0, 1, 4, 5], (.seq (.reg Dz5) (.seq (.seq (.reg Dz6) (.block 0 (.seq (.reg Dz7) (.cond (.t 6) (.seq (.reg Dz8) .ret) (.seq (.reg Dz9) (.cond (.t 14) (.seq (.reg Ea0) .ret) (.seq (.reg Ea1) (.cond (.t 22) (.seq (.reg Ea2) .ret) .skip)))))))) (.seq (.reg Ea3) .ret))), [.tmp 4]⟩
theorem Q97_ok : Aj Tryz.prog [0, 1, 4, 5] [15, 20, 31, 71, 88, 41, 76, 86, 65, 83, 81, 114, 117, 119, 122, 68, 100, 103, 104, 105, 137, 138, 64, 72, 96, 99, 158, 159, 132, 56, 93, 94, 130, 131, 155, 62, 23, 170] 99 = some Q97 := by kernel_rfl

def Ea4 : Sts := zA 2 (.mv (.c (.bool false)))<|.nil
def Ea5 : Sts := zB 3 0<|zA 4 (.bin .geq (.t 3) (zN 0))<|zB 5 4<|.cnd 5 true (zB 6 0<|zA 7 (.bin .leq (.t 6) (zN 9))<|.nil) 8 (.t 7)<|zB 2 8<|.nil
def Q53 : RFun := ⟨9, [0, 2], (.seq (.reg Ea4) (.seq (.reg Ea5) .ret)), [.tmp 2]⟩
theorem Q53_ok : Aj Tryz.prog [0, 2] [15, 20, 31, 71, 88, 41, 76, 86, 65, 83, 81, 114, 117, 119, 122, 68, 100, 103, 104, 105, 137, 138, 64, 72, 96, 99, 158, 159, 132, 56, 93, 94, 130, 131, 155, 62, 23, 170] 100 = some Q53 := by kernel_rfl

def Ea6 : Sts := zA 2 (.box 74 (.t 0))<|zA 3 (.box 45 (.t 1))<|zA 4 (.mv (.c (.bool false)))<|.nil
def Ea7 : Sts := zA 14 (zI 0 3)<|zA 15 (zK 14)<|zA 16 (zM 15)<|zA 17 (zK 2)<|zA 18 (zM 17)<|zA 19 (.bin .neq (.t 16) (.t 18))<|zB 20 19<|.cnd 20 false (zA 21 (zI 1 3)<|zA 22 (zK 21)<|zA 23 (zM 22)<|zA 24 (zK 2)<|zA 25 (zM 24)<|zA 26 (.bin .neq (.t 23) (.t 25))<|.nil) 27 (.t 26)<|zB 28 27<|.cnd 28 false (zA 29 (zI 2 3)<|zA 30 (zK 29)<|zA 31 (zM 30)<|zA 32 (.bin .neq (.t 31) (zN 3))<|.nil) 33 (.t 32)<|.nil
def Ea8 : Sts := zA 4 (.mv (.c (.bool false)))<|.nil
def Ea9 : Sts := zA 34 (zK 2)<|zA 35 (zM 34)<|zG 36 0<|.nil
def Eb0 : Sts := zA 37 (.bin .lss (.t 36) (.t 35))<|.nil
def Eb1 : Sts := zB 38 36<|zB 5 38<|.nil
def Eb2 : Sts := zA 39 (zK 2)<|zA 40 (.loadA 4 (.t 3))<|zB 41 5<|zA 42 (.call 133 [(.t 39), (.t 40), (.t 41)])<|zA 43 (.notb (.t 42))<|.nil
def Eb3 : Sts := zA 4 (.mv (.c (.bool false)))<|.nil
def Eb4 : Sts := zA 44 (.bin .add (.t 36) (zN 1))<|zB 36 44<|.nil
def Bw5 : RCode := (.seq (.reg Eb0) (.seq (.cond (.t 37) .skip (.exit 0)) (.seq (.block 1 (.seq (.reg Eb1) (.seq (.reg Eb2) (.cond (.t 43) (.seq (.reg Eb3) .ret) .skip)))) (.reg Eb4))))
def Eb5 : Sts := zA 46 (zK 2)<|zA 47 (.loadA 4 (.t 3))<|zA 48 (.call 85 [(.t 46), (.t 47)])<|zB 45 48<|zA 49 (.extract 0 (.t 45))<|zA 50 (.extract 1 (.t 45))<|zA 51 (.extract 2 (.t 45))<|zB 6 49<|zB 7 50<|zB 8 51<|.nil
def Bw6 : Sts := zA 52 (zK 2)<|zA 53 (zM 52)<|zG 54 0<|.nil
def Bw7 : Sts := zA 55 (.bin .lss (.t 54) (.t 53))<|.nil
def Bw8 : Sts := zB 56 54<|zA 57 (zH 6 52 54)<|zA 58 (.loadA 6 (.t 57))<|zA 10 (.alloc 121 [(.int .i64 0), (.int .i64 0), (.int .i64 0), (.int .i64 0), (.int .i64 0), (.int .i64 0)])<|zB 9 56<|.op none (.store 6 (.t 10) (.t 58))<|.nil
def Bw9 : Sts := zA 11 (.mv (.c (.bool true)))<|.nil
def Bx0 : Sts := zA 59 (zI 0 10)<|zA 60 (zI 0 59)<|zA 61 (zJ 60)<|.nil
def Bx1 : Sts := zA 63 (.bin .eql (.t 61) (zN 1))<|zB 62 63<|.nil
def Bx2 : Sts := zA 64 (.bin .eql (.t 61) (zN 2))<|zB 62 64<|.nil
def Bx3 : Sts := zA 65 (zI 1 3)<|zA 66 (zK 65)<|zB 67 9<|zA 68 (zH 1 66 67)<|zA 69 (.loadB (.t 68))<|zB 11 69<|.nil
def Bx4 : Sts := zA 71 (.bin .eql (.t 61) (zN 0))<|zB 70 71<|.nil
def Bx5 : Sts := zA 72 (.bin .eql (.t 61) (zN 5))<|zB 70 72<|.nil
def Bx6 : Sts := zA 73 (zI 1 3)<|zA 74 (zK 73)<|zB 75 9<|zA 76 (zH 1 74 75)<|zA 77 (.loadB (.t 76))<|zA 78 (.notb (.t 77))<|zB 11 78<|.nil
def Bx7 : Sts := zA 80 (.bin .eql (.t 61) (zN 3))<|zB 79 80<|.nil
def Ag0 : AT := .q (zD 0 81 8<|zD 1 82 9<|zC 2 83 (zH 1 81 82)<|zC 3 84 (.loadB (.t 83))<|zC 4 85 (.notb (.t 84))<|zD 5 86 85<|.g 86 false (zC 6 87 (zI 1 3)<|zC 7 88 (zK 87)<|zD 8 89 9<|zC 9 90 (zH 1 88 89)<|zC 10 91 (.loadB (.t 90))<|zD 11 92 6<|zD 12 93 9<|zC 13 94 (zH 1 92 93)<|zC 14 95 (zJ 94)<|zC 15 96 (zI 0 10)<|zC 16 97 (zI 2 96)<|zC 17 98 (zJ 97)<|zC 18 99 (.bin .eql (.t 95) (.t 98))<|zC 19 100 (.eqb false (.t 91) (.t 99))<|.nil) 20 101 (.t 100)<|zD 21 11 101<|.nil)<|.fin
def Bx8 : Sts := zA 103 (.bin .eql (.t 61) (zN 4))<|zB 102 103<|.nil
def Ag1 : AT := .q (zD 0 104 8<|zD 1 105 9<|zC 2 106 (zH 1 104 105)<|zC 3 107 (.loadB (.t 106))<|zC 4 108 (.notb (.t 107))<|zD 5 109 108<|.g 109 false (zC 6 110 (zI 1 3)<|zC 7 111 (zK 110)<|zD 8 112 9<|zC 9 113 (zH 1 111 112)<|zC 10 114 (.loadB (.t 113))<|zC 11 115 (.notb (.t 114))<|.nil) 12 116 (.t 115)<|zD 13 117 116<|.g 117 false (zD 14 118 6<|zD 15 119 9<|zC 16 120 (zH 1 118 119)<|zC 17 121 (zJ 120)<|zC 18 122 (zI 0 10)<|zC 19 123 (zI 2 122)<|zC 20 124 (zJ 123)<|zC 21 125 (.bin .eql (.t 121) (.t 124))<|.nil) 22 126 (.t 125)<|zD 23 11 126<|.nil)<|.fin
def Bx9 : Sts := zB 127 11<|zA 128 (.notb (.t 127))<|.nil
def By0 : Sts := zA 4 (.mv (.c (.bool false)))<|.nil
def By1 : Sts := zA 129 (.bin .add (.t 54) (zN 1))<|zB 54 129<|.nil
def Ao3 : RCode := (.seq (.reg Bw7) (.seq (.cond (.t 55) .skip (.exit 2)) (.seq (.block 3 (.seq (.reg Bw8) (.seq (.reg Bw9) (.seq (.seq (.reg Bx0) (.block 4 (.seq (.seq (.reg Bx1) (.cond (.t 62) .skip (.reg Bx2))) (.cond (.t 62) (.reg Bx3) (.seq (.seq (.reg Bx4) (.cond (.t 70) .skip (.reg Bx5))) (.cond (.t 70) (.reg Bx6) (.seq (.reg Bx7) (.cond (.t 79) (.any Ag0) (.seq (.reg Bx8) (.cond (.t 102) (.any Ag1) .skip)))))))))) (.seq (.reg Bx9) (.cond (.t 128) (.seq (.reg By0) .ret) .skip)))))) (.reg By1))))
def By2 : Sts := zA 130 (zI 2 3)<|zA 131 (zK 130)<|zA 132 (zM 131)<|zG 133 0<|.nil
def By3 : Sts := zA 134 (.bin .lss (.t 133) (.t 132))<|.nil
def By4 : Sts := zB 135 133<|zA 136 (zH 1 131 133)<|zA 137 (zK 136)<|zB 12 135<|zB 13 137<|.nil
def By5 : Sts := zB 138 13<|zA 139 (zK 2)<|zA 140 (zI 1 3)<|zA 141 (zK 140)<|zB 142 12<|zA 143 (.call 110 [(.t 139), (.t 141), (.t 142)])<|zA 144 (.call 134 [(.t 138), (.t 143)])<|zA 145 (.notb (.t 144))<|.nil
def By6 : Sts := zA 4 (.mv (.c (.bool false)))<|.nil
def By7 : Sts := zA 146 (.bin .add (.t 133) (zN 1))<|zB 133 146<|.nil
def Ao4 : RCode := (.seq (.reg By3) (.seq (.cond (.t 134) .skip (.exit 5)) (.seq (.block 6 (.seq (.reg By4) (.seq (.reg By5) (.cond (.t 145) (.seq (.reg By6) .ret) .skip)))) (.reg By7))))
def Ag2 : AT := .q (zC 0 147 (zI 3 3)<|zC 1 148 (zK 147)<|zC 2 149 (zK 2)<|zC 3 150 (.mkfn 135 [] [(.t 2)])<|.nil)<|zE 4 151 (.call 74 [(.t 149), (.t 150)]) false (zF<|zE 5 152 (.call 134 [(.t 148), (.t 151)]) true (.q (zD 6 4 152<|.nil)<|.fin)<|.no)<|.no
def Q21 : RFun := ⟨153, [0, 1, 2, 3, 4, 5, 6, 8, 9, 10, 11, 12, 13, 35, 36, 52, 53, 54, 61, 131, 132, 133], (.seq (.reg Ea6) (.seq (.seq (.reg Ea7) (.cond (.t 33) (.seq (.reg Ea8) .ret) .skip)) (.seq (.seq (.reg Ea9) (.block 0 (.loop Bw5))) (.seq (.reg Eb5) (.seq (.seq (.reg Bw6) (.block 2 (.loop Ao3))) (.seq (.seq (.reg By2) (.block 5 (.loop Ao4))) (.seq (.any Ag2) .ret))))))), [.tmp 4]⟩
theorem Q21_ok : Aj Tryz.prog [0, 1, 2, 3, 4, 5, 6, 8, 9, 10, 11, 12, 13, 35, 36, 52, 53, 54, 61, 131, 132, 133] [15, 20, 31, 71, 88, 41, 76, 86, 65, 83, 81, 114, 117, 119, 122, 68, 100, 103, 104, 105, 137, 138, 64, 72, 96, 99, 158, 159, 132, 56, 93, 94, 130, 131, 155, 62, 23, 170] 101 = some Q21 := by kernel_rfl

def Eb6 : Sts := zA 3 (.box 45 (.t 1))<|zA 4 (.mv (.c (.slice none 0 0)))<|.nil
def Eb7 : Sts := zB 8 0<|zA 9 (.call 136 [(.t 8)])<|zB 5 9<|.nil
def Eb8 : Sts := zG 6 1<|.nil
def Eb9 : Sts := zB 10 6<|zB 11 0<|zA 12 (zM 11)<|zA 13 (.bin .lss (.t 10) (.t 12))<|.nil
def Ec0 : AT := .q (zD 0 16 0<|zD 1 17 6<|zC 2 18 (zH 6 16 17)<|zC 3 19 (zI 5 18)<|zC 4 20 (zJ 19)<|zD 5 21 0<|zD 6 22 6<|zC 7 23 (.bin .sub (.t 22) (zN 1))<|zC 8 24 (zH 6 21 23)<|zC 9 25 (zI 5 24)<|zC 10 26 (zJ 25)<|zC 11 27 (.bin .eql (.t 20) (.t 26))<|.nil)<|.fin
def Ec1 : Sts := zB 28 5<|zB 29 6<|zA 30 (.bin .sub (.t 29) (zN 1))<|zB 31 6<|zA 32 (.call 121 [(.t 28), (.t 30), (.t 31)])<|.nil
def Ec2 : Sts := zB 14 6<|zA 15 (.bin .add (.t 14) (zN 1))<|zB 6 15<|.nil
def By8 : RCode := (.seq (.seq (.reg Eb9) (.cond (.t 13) .skip (.exit 0))) (.seq (.block 1 (.seq (.any Ec0) (.cond (.t 27) (.reg Ec1) .skip))) (.reg Ec2)))
def Ec3 : Sts := zG 7 1<|.nil
def Ec4 : Sts := zB 33 7<|zA 34 (zI 3 3)<|zA 35 (zK 34)<|zA 36 (zM 35)<|zA 37 (.bin .lss (.t 33) (.t 36))<|.nil
def Ao5 : AT := .q (zD 0 40 5<|zC 1 41 (zI 3 3)<|zC 2 42 (zK 41)<|zD 3 43 7<|zC 4 44 (.bin .sub (.t 43) (zN 1))<|zC 5 45 (zH 1 42 44)<|zC 6 46 (zJ 45)<|zC 7 47 (zI 3 3)<|zC 8 48 (zK 47)<|zD 9 49 7<|zC 10 50 (zH 1 48 49)<|zC 11 51 (zJ 50)<|.nil)<|zE 12 52 (.call 121 [(.t 40), (.t 46), (.t 51)]) true (zF<|.fin)<|.no
def By9 : Sts := zB 38 7<|zA 39 (.bin .add (.t 38) (zN 1))<|zB 7 39<|.nil
def Ao6 : RCode := (.seq (.seq (.reg Ec4) (.cond (.t 37) .skip (.exit 2))) (.seq (.block 3 (.any Ao5)) (.reg By9)))
def Bz0 : Sts := zB 53 5<|zB 4 53<|.nil
def Q38 : RFun := ⟨54, [0, 1, 3, 4, 5, 6, 7], (.seq (.reg Eb6) (.seq (.reg Eb7) (.seq (.seq (.reg Eb8) (.block 0 (.loop By8))) (.seq (.seq (.reg Ec3) (.block 2 (.loop Ao6))) (.seq (.reg Bz0) .ret))))), [.tmp 4]⟩
theorem Q38_ok : Aj Tryz.prog [0, 1, 3, 4, 5, 6, 7] [15, 20, 31, 71, 88, 41, 76, 86, 65, 83, 81, 114, 117, 119, 122, 68, 100, 103, 104, 105, 137, 138, 64, 72, 96, 99, 158, 159, 132, 56, 93, 94, 130, 131, 155, 62, 23, 170] 102 = some Q38 := by kernel_rfl

def Bz1 : Sts := zA 4 (.mv (.c (.int .u32 0)))<|.nil
def Bz2 : Sts := zA 5 (.mv (.c (.int .u32 0)))<|.nil
def Ec5 : Sts := zB 7 0<|zB 8 1<|zA 9 (zH 6 7 8)<|zA 10 (.loadA 6 (.t 9))<|zA 11 (.call 137 [(.t 10)])<|.nil
def Ec6 : Sts := zB 12 5<|zB 13 1<|zA 14 (.bin .shl (.c (.int .u32 1)) (.t 13))<|zA 15 (.bin .or (.t 12) (.t 14))<|zB 5 15<|.nil
def Ec7 : Sts := zB 16 1<|zA 17 (.bin .sub (.t 16) (zN 1))<|zB 6 17<|.nil
def Ec8 : AT := .q (zD 0 18 6<|zC 1 19 (.bin .geq (.t 18) (zN 0))<|zD 2 20 19<|.g 20 true (zD 3 21 0<|zD 4 22 6<|zC 5 23 (zH 6 21 22)<|zC 6 24 (zI 5 23)<|zC 7 25 (zJ 24)<|zD 8 26 0<|zD 9 27 1<|zC 10 28 (zH 6 26 27)<|zC 11 29 (zI 5 28)<|zC 12 30 (zJ 29)<|zC 13 31 (.bin .eql (.t 25) (.t 30))<|.nil) 14 32 (.t 31)<|.nil)<|.fin
def Ec9 : Sts := zB 35 0<|zB 36 6<|zA 37 (zH 6 35 36)<|zA 38 (zI 0 37)<|zA 39 (zI 0 38)<|zA 40 (zJ 39)<|zA 41 (.bin .eql (.t 40) (zN 5))<|zB 42 41<|.cnd 42 true (zB 43 0<|zB 44 6<|zA 45 (zH 6 43 44)<|zA 46 (.loadA 6 (.t 45))<|zA 47 (.call 137 [(.t 46)])<|.nil) 48 (.t 47)<|.nil
def Ed0 : Sts := zB 49 5<|zB 50 6<|zA 51 (.bin .shl (.c (.int .u32 1)) (.t 50))<|zA 52 (.bin .or (.t 49) (.t 51))<|zB 5 52<|.nil
def Ed1 : Sts := zB 33 6<|zA 34 (.bin .sub (.t 33) (zN 1))<|zB 6 34<|.nil
def Bz3 : RCode := (.seq (.seq (.any Ec8) (.cond (.t 32) .skip (.exit 0))) (.seq (.block 1 (.seq (.reg Ec9) (.cond (.t 48) (.reg Ed0) .skip))) (.reg Ed1)))
def Ed2 : Sts := zB 53 5<|zB 4 53<|.nil
def Q37 : RFun := ⟨54, [0, 1, 4, 5, 6], (.seq (.reg Bz1) (.seq (.reg Bz2) (.seq (.seq (.reg Ec5) (.cond (.t 11) (.reg Ec6) .skip)) (.seq (.seq (.reg Ec7) (.block 0 (.loop Bz3))) (.seq (.reg Ed2) .ret))))), [.tmp 4]⟩
theorem Q37_ok : Aj Tryz.prog [0, 1, 4, 5, 6] [15, 20, 31, 71, 88, 41, 76, 86, 65, 83, 81, 114, 117, 119, 122, 68, 100, 103, 104, 105, 137, 138, 64, 72, 96, 99, 158, 159, 132, 56, 93, 94, 130, 131, 155, 62, 23, 170] 103 = some Q37 := by kernel_rfl

def Ed3 : Sts := zA 4 (.box 45 (.t 1))<|zA 6 (.mv (.c (.bool false)))<|.nil
def Ed4 : Sts := zB 7 0<|zB 8 2<|zA 9 (zH 6 7 8)<|zA 10 (.loadA 6 (.t 9))<|zA 11 (.call 86 [(.t 10)])<|zB 12 11<|.cnd 12 true (zA 13 (zI 1 4)<|zA 14 (zK 13)<|zB 15 2<|zA 16 (zH 1 14 15)<|zA 17 (.loadB (.t 16))<|.nil) 18 (.t 17)<|zB 6 18<|.nil
def Q16 : RFun := ⟨19, [0, 1, 2, 4, 6], (.seq (.reg Ed3) (.seq (.reg Ed4) .ret)), [.tmp 6]⟩
theorem Q16_ok : Aj Tryz.prog [0, 1, 2, 4, 6] [15, 20, 31, 71, 88, 41, 76, 86, 65, 83, 81, 114, 117, 119, 122, 68, 100, 103, 104, 105, 137, 138, 64, 72, 96, 99, 158, 159, 132, 56, 93, 94, 130, 131, 155, 62, 23, 170] 104 = some Q16 := by kernel_rfl

def Bz4 : Sts := zA 4 (.mv (.c (.int .u32 0)))<|.nil
def Bz5 : Sts := zA 5 (.mv (.c (.int .u32 0)))<|.nil
def Ed5 : Sts := zB 7 0<|zB 8 1<|zA 9 (zH 6 7 8)<|zA 10 (.loadA 6 (.t 9))<|zA 11 (.call 138 [(.t 10)])<|.nil
def Ed6 : Sts := zB 12 5<|zB 13 1<|zA 14 (.bin .shl (.c (.int .u32 1)) (.t 13))<|zA 15 (.bin .or (.t 12) (.t 14))<|zB 5 15<|.nil
def Ed7 : Sts := zB 16 1<|zA 17 (.bin .add (.t 16) (zN 1))<|zB 6 17<|.nil
def Ed8 : AT := .q (zD 0 18 6<|zD 1 19 0<|zC 2 20 (zM 19)<|zC 3 21 (.bin .lss (.t 18) (.t 20))<|zD 4 22 21<|.g 22 true (zD 5 23 0<|zD 6 24 6<|zC 7 25 (zH 6 23 24)<|zC 8 26 (zI 5 25)<|zC 9 27 (zJ 26)<|zD 10 28 0<|zD 11 29 1<|zC 12 30 (zH 6 28 29)<|zC 13 31 (zI 5 30)<|zC 14 32 (zJ 31)<|zC 15 33 (.bin .eql (.t 27) (.t 32))<|.nil) 16 34 (.t 33)<|.nil)<|.fin
def Ed9 : Sts := zB 37 0<|zB 38 6<|zA 39 (zH 6 37 38)<|zA 40 (zI 0 39)<|zA 41 (zI 0 40)<|zA 42 (zJ 41)<|zA 43 (.bin .eql (.t 42) (zN 5))<|zB 44 43<|.cnd 44 true (zB 45 0<|zB 46 6<|zA 47 (zH 6 45 46)<|zA 48 (.loadA 6 (.t 47))<|zA 49 (.call 138 [(.t 48)])<|.nil) 50 (.t 49)<|.nil
def Ee0 : Sts := zB 51 5<|zB 52 6<|zA 53 (.bin .shl (.c (.int .u32 1)) (.t 52))<|zA 54 (.bin .or (.t 51) (.t 53))<|zB 5 54<|.nil
def Ee1 : Sts := zB 35 6<|zA 36 (.bin .add (.t 35) (zN 1))<|zB 6 36<|.nil
def Bz6 : RCode := (.seq (.seq (.any Ed8) (.cond (.t 34) .skip (.exit 0))) (.seq (.block 1 (.seq (.reg Ed9) (.cond (.t 50) (.reg Ee0) .skip))) (.reg Ee1)))
def Ee2 : Sts := zB 55 5<|zB 4 55<|.nil
def Q15 : RFun := ⟨56, [0, 1, 4, 5, 6], (.seq (.reg Bz4) (.seq (.reg Bz5) (.seq (.seq (.reg Ed5) (.cond (.t 11) (.reg Ed6) .skip)) (.seq (.seq (.reg Ed7) (.block 0 (.loop Bz6))) (.seq (.reg Ee2) .ret))))), [.tmp 4]⟩
theorem Q15_ok : Aj Tryz.prog [0, 1, 4, 5, 6] [15, 20, 31, 71, 88, 41, 76, 86, 65, 83, 81, 114, 117, 119, 122, 68, 100, 103, 104, 105, 137, 138, 64, 72, 96, 99, 158, 159, 132, 56, 93, 94, 130, 131, 155, 62, 23, 170] 105 = some Q15 := by kernel_rfl

def Ee3 : Sts := zA 2 (.mv (.c (.slice none 0 0)))<|.nil
def Ee4 : Sts := zB 5 0<|zA 6 (zM 5)<|zG 7 0<|.nil
def Ee5 : Sts := zA 8 (.bin .lss (.t 7) (.t 6))<|.nil
def Ee6 : Sts := zB 9 7<|zB 3 9<|.nil
def Ee7 : Sts := zB 10 0<|zA 11 (zM 10)<|zG 12 0<|.nil
def Ee8 : Sts := zA 13 (.bin .lss (.t 12) (.t 11))<|.nil
def Ee9 : Sts := zB 14 12<|zB 4 14<|.nil
def Ef0 : Sts := zB 15 0<|zB 16 4<|zB 17 3<|zA 18 (.call 68 [(.t 15), (.t 16), (.t 17)])<|.nil
def Ef1 : AT := .q (zD 0 19 0<|zD 1 20 4<|zC 2 21 (zH 1 19 20)<|zC 3 22 (.loadI .u32 (.t 21))<|zD 4 23 0<|zD 5 24 3<|zC 6 25 (zH 1 23 24)<|zC 7 26 (.loadI .u32 (.t 25))<|zC 8 27 (.bin .or (.t 22) (.t 26))<|zC 9 28 (zH 1 19 20)<|.nil)<|.s 10 none (.store 1 (.t 28) (.t 27)) true (zF<|.fin)<|.no
def Ef2 : Sts := zA 29 (.bin .add (.t 12) (zN 1))<|zB 12 29<|.nil
def Ao7 : RCode := (.seq (.reg Ee8) (.seq (.cond (.t 13) .skip (.exit 2)) (.seq (.block 3 (.seq (.reg Ee9) (.seq (.reg Ef0) (.cond (.t 18) (.any Ef1) .skip)))) (.reg Ef2))))
def Bz7 : Sts := zA 30 (.bin .add (.t 7) (zN 1))<|zB 7 30<|.nil
def Ao8 : RCode := (.seq (.reg Ee5) (.seq (.cond (.t 8) .skip (.exit 0)) (.seq (.block 1 (.seq (.reg Ee6) (.seq (.reg Ee7) (.block 2 (.loop Ao7))))) (.reg Bz7))))
def Bz8 : Sts := zB 31 0<|zB 2 31<|.nil
def Q43 : RFun := ⟨32, [0, 2, 3, 4, 6, 7, 11, 12], (.seq (.reg Ee3) (.seq (.seq (.reg Ee4) (.block 0 (.loop Ao8))) (.seq (.reg Bz8) .ret))), [.tmp 2]⟩
theorem Q43_ok : Aj Tryz.prog [0, 2, 3, 4, 6, 7, 11, 12] [15, 20, 31, 71, 88, 41, 76, 86, 65, 83, 81, 114, 117, 119, 122, 68, 100, 103, 104, 105, 137, 138, 64, 72, 96, 99, 158, 159, 132, 56, 93, 94, 130, 131, 155, 62, 23, 170] 106 = some Q43 := by kernel_rfl

def Ef3 : Sts := zA 10 (zK 1)<|zA 11 (.mkfn 108 [] [(.t 1)])<|zA 12 (.call 74 [(.t 10), (.t 11)])<|zB 3 12<|.nil
def Ef4 : Sts := zB 13 3<|zA 14 (zM 13)<|zA 15 (.bin .shl (zN 1) (.t 14))<|zG 16 0<|.nil
def Ef5 : Sts := zA 17 (.bin .lss (.t 16) (.t 15))<|.nil
def Ef6 : Sts := zB 18 16<|zB 4 18<|.nil
def Ef7 : Sts := zA 19 (zK 1)<|zA 20 (zM 19)<|zA 21 (.makeSl 4 1 1 [(.bool false)] (.t 20) (.t 20))<|zB 5 21<|.nil
def Ef8 : Sts := zA 22 (zK 1)<|zA 23 (zM 22)<|zG 24 0<|.nil
def Ef9 : Sts := zA 25 (.bin .lss (.t 24) (.t 23))<|.nil
def Eg0 : Sts := zB 26 24<|zA 27 (zH 6 22 24)<|zA 28 (.loadA 6 (.t 27))<|zA 7 (.alloc 121 [(.int .i64 0), (.int .i64 0), (.int .i64 0), (.int .i64 0), (.int .i64 0), (.int .i64 0)])<|zB 6 26<|.op none (.store 6 (.t 7) (.t 28))<|.nil
def Eg1 : Sts := zB 29 5<|zB 30 6<|zA 31 (zI 0 7)<|zA 32 (zI 0 31)<|zA 33 (zJ 32)<|zA 34 (.bin .eql (.t 33) (zN 1))<|zB 35 34<|.cnd 35 false (zA 36 (zI 0 7)<|zA 37 (zI 0 36)<|zA 38 (zJ 37)<|zA 39 (.bin .eql (.t 38) (zN 2))<|.nil) 40 (.t 39)<|zA 41 (zH 1 29 30)<|.op none (.store 1 (.t 41) (.t 40))<|.nil
def Eg2 : Sts := zA 42 (.bin .add (.t 24) (zN 1))<|zB 24 42<|.nil
def Ao9 : RCode := (.seq (.reg Ef9) (.seq (.cond (.t 25) .skip (.exit 2)) (.seq (.block 3 (.seq (.reg Eg0) (.reg Eg1))) (.reg Eg2))))
def Bz9 : Sts := zB 43 3<|zA 44 (zM 43)<|zG 45 0<|.nil
def Ca0 : Sts := zA 46 (.bin .lss (.t 45) (.t 44))<|.nil
def Ca1 : Sts := zB 47 45<|zA 48 (zH 1 43 45)<|zA 49 (zJ 48)<|zB 8 47<|zB 9 49<|.nil
def Ca2 : Sts := zB 50 5<|zB 51 9<|zB 52 4<|zB 53 8<|zA 54 (.bin .shr (.t 52) (.t 53))<|zA 55 (.bin .and (.t 54) (zN 1))<|zA 56 (.bin .eql (.t 55) (zN 1))<|zA 57 (zH 1 50 51)<|.op none (.store 1 (.t 57) (.t 56))<|.nil
def Ca3 : Sts := zA 58 (.bin .add (.t 45) (zN 1))<|zB 45 58<|.nil
def Ap0 : RCode := (.seq (.reg Ca0) (.seq (.cond (.t 46) .skip (.exit 4)) (.seq (.block 5 (.seq (.reg Ca1) (.reg Ca2))) (.reg Ca3))))
def Ca4 : Sts := zB 59 0<|zB 60 5<|zA 61 (.callv (.t 59) [(.t 60)])<|zA 62 (.notb (.t 61))<|.nil
def Ca5 : Sts := zA 63 (.bin .add (.t 16) (zN 1))<|zB 16 63<|.nil
def Ap1 : RCode := (.seq (.reg Ef5) (.seq (.cond (.t 17) .skip (.exit 0)) (.seq (.block 1 (.seq (.reg Ef6) (.seq (.reg Ef7) (.seq (.seq (.reg Ef8) (.block 2 (.loop Ao9))) (.seq (.seq (.reg Bz9) (.block 4 (.loop Ap0))) (.seq (.reg Ca4) (.cond (.t 62) .ret .skip))))))) (.reg Ca5))))
def Q13 : RFun := ⟨64, [0, 1, 3, 4, 5, 6, 7, 8, 9, 15, 16, 22, 23, 24, 43, 44, 45], (.seq (.reg Ef3) (.seq (.reg Ef4) (.block 0 (.loop Ap1)))), []⟩
theorem Q13_ok : Aj Tryz.prog [0, 1, 3, 4, 5, 6, 7, 8, 9, 15, 16, 22, 23, 24, 43, 44, 45] [15, 20, 31, 71, 88, 41, 76, 86, 65, 83, 81, 114, 117, 119, 122, 68, 100, 103, 104, 105, 137, 138, 64, 72, 96, 99, 158, 159, 132, 56, 93, 94, 130, 131, 155, 62, 23, 170] 107 = some Q13 := by kernel_rfl

def Eg3 : Sts := zA 3 (.mv (.c (.bool false)))<|.nil
def Eg4 : Sts := zA 4 (zK 1)<|zB 5 0<|zA 6 (zH 6 4 5)<|zA 7 (zI 0 6)<|zA 8 (zI 0 7)<|zA 9 (zJ 8)<|zA 10 (.bin .eql (.t 9) (zN 3))<|zB 11 10<|.cnd 11 false (zA 12 (zK 1)<|zB 13 0<|zA 14 (zH 6 12 13)<|zA 15 (zI 0 14)<|zA 16 (zI 0 15)<|zA 17 (zJ 16)<|zA 18 (.bin .eql (.t 17) (zN 4))<|.nil) 19 (.t 18)<|zB 3 19<|.nil
def Q14 : RFun := ⟨20, [0, 1, 3], (.seq (.reg Eg3) (.seq (.reg Eg4) .ret)), [.tmp 3]⟩
theorem Q14_ok : Aj Tryz.prog [0, 1, 3] [15, 20, 31, 71, 88, 41, 76, 86, 65, 83, 81, 114, 117, 119, 122, 68, 100, 103, 104, 105, 137, 138, 64, 72, 96, 99, 158, 159, 132, 56, 93, 94, 130, 131, 155, 62, 23, 170] 108 = some Q14 := by kernel_rfl

def Ca6 : Sts := zA 4 (.box 149 (.t 0))<|.nil
def Eg5 : Sts := zA 7 (zJ 1)<|zA 8 (.bin .eql (.t 7) (zN 3))<|.nil
def Eg6 : Sts := zA 9 (.loadX (.t 4))<|zA 10 (.callv (.t 9) [(.c (.slice none 0 0))])<|.nil
def Ca7 : AT := .q (zC 0 11 (zK 2)<|zC 1 12 (zK 2)<|zC 2 13 (zK 3)<|zC 3 14 (zJ 1)<|.nil)<|zE 4 15 (.call 110 [(.t 12), (.t 13), (.t 14)]) false (zF<|zE 5 16 (.call 82 [(.t 11), (.t 15)]) true (zF<|.fin)<|.no)<|.no
def Ap2 : Sts := zA 5 (.alloc 34 [(.slice none 0 0)])<|.op none (.store 1 (.t 5) (.t 17))<|.nil
def Eg7 : Sts := zA 18 (zK 2)<|zA 19 (zK 3)<|zA 20 (zJ 1)<|zA 21 (.bin .add (.t 20) (zN 1))<|zA 22 (.call 79 [(.t 18), (.t 19), (.t 21)])<|.nil
def Ap3 : Sts := zB 6 23<|.nil
def Ca8 : AT := .q (zC 0 24 (.loadX (.t 4))<|zC 1 25 (zK 5)<|zD 3 27 6<|.nil)<|zE 2 26 (.buildSl 34 1 [(.slice none 0 0)] [(0, 1, (.t 25))]) false (zF<|zE 4 28 (.append 34 1 24 [(.slice none 0 0)] (.t 26) (.t 27)) false (zF<|zE 5 29 (.callv (.t 24) [(.t 28)]) true (.q (zC 6 30 (.notb (.t 29))<|.nil)<|.fin)<|.no)<|.no)<|.no
def Ej : RCode := (.reg Ap3)
def Ek : RCode := (.block 3 (.seq (.any Ca8) (.cond (.t 30) .ret .skip)))
def Em : RCode := (.reg Ap2)
def En : RCode := (.block 1 (.seq (.reg Eg7) (.block 2 (.rangeF (.t 22) [23] Ej Ek))))
def Q31 : RFun := ⟨31, [0, 1, 2, 3, 4, 5, 6, 16, 17, 22, 23], (.seq (.reg Ca6) (.seq (.seq (.reg Eg5) (.cond (.t 8) (.seq (.reg Eg6) .ret) .skip)) (.seq (.any Ca7) (.block 0 (.rangeF (.t 16) [17] Em En))))), []⟩
theorem Q31_ok : Aj Tryz.prog [0, 1, 2, 3, 4, 5, 6, 16, 17, 22, 23] [15, 20, 31, 71, 88, 41, 76, 86, 65, 83, 81, 114, 117, 119, 122, 68, 100, 103, 104, 105, 137, 138, 64, 72, 96, 99, 158, 159, 132, 56, 93, 94, 130, 131, 155, 62, 23, 170] 109 = some Q31 := by kernel_rfl

def Eg8 : Sts := zA 3 (.box 74 (.t 0))<|zA 4 (.box 35 (.t 1))<|zA 5 (.box 3 (.t 2))<|zA 6 (.mv (.c (.slice none 0 0)))<|.nil
def Eg9 : Sts := zA 7 (zK 3)<|zA 8 (.mkfn 139 [] [(.t 3), (.t 4), (.t 5)])<|zA 9 (.call 74 [(.t 7), (.t 8)])<|zB 6 9<|.nil
def Q40 : RFun := ⟨10, [0, 1, 2, 3, 4, 5, 6], (.seq (.reg Eg8) (.seq (.reg Eg9) .ret)), [.tmp 6]⟩
theorem Q40_ok : Aj Tryz.prog [0, 1, 2, 3, 4, 5, 6] [15, 20, 31, 71, 88, 41, 76, 86, 65, 83, 81, 114, 117, 119, 122, 68, 100, 103, 104, 105, 137, 138, 64, 72, 96, 99, 158, 159, 132, 56, 93, 94, 130, 131, 155, 62, 23, 170] 110 = some Q40 := by kernel_rfl

def Ca9 : Sts := zA 4 (.box 151 (.t 0))<|.nil
def Eh0 : Sts := zA 7 (zK 1)<|zA 8 (zM 7)<|zA 9 (.makeSl 3 1 8 [(.int .i64 0)] (.t 8) (.t 8))<|zA 5 (.alloc 34 [(.slice none 0 0)])<|.op none (.store 1 (.t 5) (.t 9))<|.nil
def Eh1 : Sts := zA 6 (.alloc 123 [.nilFunc])<|.nil
def Eh2 : Sts := zA 10 (.mkfn 112 [] [(.t 1), (.t 4), (.t 5), (.t 6), (.t 2), (.t 3)])<|.op none (.store 1 (.t 6) (.t 10))<|.nil
def Eh3 : Sts := zA 11 (.loadX (.t 6))<|zA 12 (.callv (.t 11) [(zN 0)])<|.nil
def Q24 : RFun := ⟨13, [0, 1, 2, 3, 4, 5, 6], (.seq (.reg Ca9) (.seq (.reg Eh0) (.seq (.reg Eh1) (.seq (.reg Eh2) (.reg Eh3))))), []⟩
theorem Q24_ok : Aj Tryz.prog [0, 1, 2, 3, 4, 5, 6] [15, 20, 31, 71, 88, 41, 76, 86, 65, 83, 81, 114, 117, 119, 122, 68, 100, 103, 104, 105, 137, 138, 64, 72, 96, 99, 158, 159, 132, 56, 93, 94, 130, 131, 155, 62, 23, 170] 111 = some Q24 := by kernel_rfl

def Eh4 : Sts := zA 8 (.mv (.c (.bool false)))<|.nil
def Eh5 : Sts := zB 13 0<|zA 14 (zK 1)<|zA 15 (zM 14)<|zA 16 (.bin .eql (.t 13) (.t 15))<|.nil
def Cb0 : AT := .q (zC 0 17 (.loadX (.t 2))<|zC 1 18 (zK 3)<|.nil)<|zE 2 19 (.call 113 [(.t 18)]) false (zF<|zE 3 20 (.callv (.t 17) [(.t 19)]) true (.q (zD 4 8 20<|.nil)<|.fin)<|.no)<|.no
def Eh6 : Sts := zA 21 (zK 1)<|zB 22 0<|zA 23 (zH 6 21 22)<|zA 24 (.loadA 6 (.t 23))<|zA 25 (.call 86 [(.t 24)])<|zA 26 (.notb (.t 25))<|.nil
def Eh7 : Sts := zA 27 (zK 3)<|zB 28 0<|zA 29 (zH 1 27 28)<|.op none (.store 1 (.t 29) (.c (.int .i64 (-2))))<|.nil
def Eh8 : Sts := zA 30 (.loadX (.t 4))<|zB 31 0<|zA 32 (.bin .add (.t 31) (zN 1))<|zA 33 (.callv (.t 30) [(.t 32)])<|zB 8 33<|.nil
def Cb1 : AT := .q (zC 1 35 (zK 5)<|zC 2 36 (zK 1)<|zD 3 37 0<|zC 4 38 (zH 6 36 37)<|zC 5 39 (zI 0 38)<|zC 6 40 (zI 1 39)<|zC 7 41 (zJ 40)<|zC 8 42 (zH 1 35 41)<|zC 9 43 (zK 42)<|.nil)<|zE 0 34 (.buildSl 3 1 [(.int .i64 0)] [(0, 1, (.c (.int .i64 (-1))))]) false (zF<|zE 10 44 (.append 3 1 8 [(.int .i64 0)] (.t 34) (.t 43)) true (.q (zD 11 9 44<|.nil)<|.fin)<|.no)<|.no
def Eh9 : Sts := zA 45 (zK 6)<|zB 46 0<|zA 47 (zH 1 45 46)<|zA 48 (.loadB (.t 47))<|.nil
def Ei0 : Sts := zB 49 9<|zB 50 0<|zA 51 (.call 114 [(.t 49), (.t 50)])<|zB 10 51<|.nil
def Ei1 : Sts := zB 52 9<|zB 53 10<|zA 54 (.bin .sub (.t 53) (zN 1))<|zB 55 10<|zA 56 (.slS 1 (.t 52) (some (.t 54)) (some (.t 55)) none)<|zB 9 56<|.nil
def Cb2 : Sts := zB 57 9<|zA 58 (zM 57)<|zG 59 0<|.nil
def Cb3 : Sts := zA 60 (.bin .lss (.t 59) (.t 58))<|.nil
def Cb4 : Sts := zA 61 (zH 1 57 59)<|zA 62 (zJ 61)<|zB 12 62<|.nil
def Cb5 : Sts := zA 63 (zK 3)<|zB 64 0<|zB 65 12<|zA 66 (zH 1 63 64)<|.op none (.store 1 (.t 66) (.t 65))<|.nil
def Cb6 : Sts := zA 67 (.loadX (.t 4))<|zB 68 0<|zA 69 (.bin .add (.t 68) (zN 1))<|zA 70 (.callv (.t 67) [(.t 69)])<|zA 71 (.notb (.t 70))<|.nil
def Cb7 : Sts := zA 8 (.mv (.c (.bool false)))<|.nil
def Cb8 : Sts := zA 72 (.bin .add (.t 59) (zN 1))<|zB 59 72<|.nil
def Ap4 : RCode := (.seq (.reg Cb3) (.seq (.cond (.t 60) .skip (.exit 0)) (.seq (.block 1 (.seq (.reg Cb4) (.seq (.reg Cb5) (.seq (.reg Cb6) (.cond (.t 71) (.seq (.reg Cb7) .ret) .skip))))) (.reg Cb8))))
def Cb9 : Sts := zA 8 (.mv (.c (.bool true)))<|.nil
def Q25 : RFun := ⟨73, [0, 1, 2, 3, 4, 5, 6, 8, 9, 10, 12, 57, 58, 59], (.seq (.reg Eh4) (.seq (.seq (.reg Eh5) (.cond (.t 16) (.seq (.any Cb0) .ret) .skip)) (.seq (.seq (.reg Eh6) (.cond (.t 26) (.seq (.reg Eh7) (.seq (.reg Eh8) .ret)) .skip)) (.seq (.any Cb1) (.seq (.seq (.reg Eh9) (.cond (.t 48) (.seq (.reg Ei0) (.reg Ei1)) .skip)) (.seq (.seq (.reg Cb2) (.block 0 (.loop Ap4))) (.seq (.reg Cb9) .ret))))))), [.tmp 8]⟩
theorem Q25_ok : Aj Tryz.prog [0, 1, 2, 3, 4, 5, 6, 8, 9, 10, 12, 57, 58, 59] [15, 20, 31, 71, 88, 41, 76, 86, 65, 83, 81, 114, 117, 119, 122, 68, 100, 103, 104, 105, 137, 138, 64, 72, 96, 99, 158, 159, 132, 56, 93, 94, 130, 131, 155, 62, 23, 170] 112 = some Q25 := by kernel_rfl

def Cc0 : Sts := zA 2 (.mv (.c (.slice none 0 0)))<|.nil
def Cc1 : Sts := zB 3 0<|zA 4 (.eqS false (.t 3))<|.nil
def Cc2 : Sts := zA 2 (.mv (.c (.slice none 0 0)))<|.nil
def Cc3 : Sts := zA 5 (.buildSl 3 0 [] [])<|zB 6 0<|zA 7 (.append 3 1 8 [(.int .i64 0)] (.t 5) (.t 6))<|zB 2 7<|.nil
def Ei2 : RFun := ⟨8, [0, 2], (.seq (.reg Cc0) (.seq (.seq (.reg Cc1) (.cond (.t 4) (.seq (.reg Cc2) .ret) .skip)) (.seq (.reg Cc3) .ret))), [.tmp 2]⟩
theorem Q101_ok : Aj Tryz.prog [0, 2] [15, 20, 31, 71, 88, 41, 76, 86, 65, 83, 81, 114, 117, 119, 122, 68, 100, 103, 104, 105, 137, 138, 64, 72, 96, 99, 158, 159, 132, 56, 93, 94, 130, 131, 155, 62, 23, 170] 113 = some Ei2 := by kernel_rfl

def Cc4 : Sts := zG 4 0<|.nil
def Cc5 : Sts := zB 6 0<|zA 7 (zM 6)<|zG 8 0<|.nil
def Cc6 : Sts := zA 9 (.bin .lss (.t 8) (.t 7))<|.nil
def Cc7 : Sts := zB 10 8<|zB 5 10<|.nil
def Cc8 : Sts := zB 11 1<|zB 12 0<|zB 13 5<|zA 14 (zH 1 12 13)<|zA 15 (zJ 14)<|zA 16 (.bin .eql (.t 11) (.t 15))<|.nil
def Cc9 : Sts := zB 17 5<|zB 4 17<|.nil
def Cd0 : Sts := zA 18 (.bin .add (.t 8) (zN 1))<|zB 8 18<|.nil
def Ap5 : RCode := (.seq (.reg Cc6) (.seq (.cond (.t 9) .skip (.exit 0)) (.seq (.block 1 (.seq (.reg Cc7) (.seq (.reg Cc8) (.cond (.t 16) (.seq (.reg Cc9) .ret) .skip)))) (.reg Cd0))))
def Cd1 : Sts := zA 4 (.mv (.c (.int .i64 (-1))))<|.nil
def Ei3 : RFun := ⟨19, [0, 1, 4, 5, 7, 8], (.seq (.reg Cc4) (.seq (.seq (.reg Cc5) (.block 0 (.loop Ap5))) (.seq (.reg Cd1) .ret))), [.tmp 4]⟩
theorem Q110_ok : Aj Tryz.prog [0, 1, 4, 5, 7, 8] [15, 20, 31, 71, 88, 41, 76, 86, 65, 83, 81, 114, 117, 119, 122, 68, 100, 103, 104, 105, 137, 138, 64, 72, 96, 99, 158, 159, 132, 56, 93, 94, 130, 131, 155, 62, 23, 170] 114 = some Ei3 := by kernel_rfl

def Cd2 : Sts := zA 3 (.box 151 (.t 0))<|.nil
def Cd3 : Sts := zA 4 (.alloc 50 [.nilFunc])<|.nil
def Ei4 : Sts := zA 5 (.mkfn 116 [] [(.t 3), (.t 1), (.t 4)])<|.op none (.store 1 (.t 4) (.t 5))<|.nil
def Ei5 : Sts := zA 6 (.loadX (.t 4))<|zA 7 (zK 2)<|zA 8 (.callv (.t 6) [(.c (.slice none 0 0)), (.t 7)])<|.nil
def Q27 : RFun := ⟨9, [0, 1, 2, 3, 4], (.seq (.reg Cd2) (.seq (.reg Cd3) (.seq (.reg Ei4) (.reg Ei5)))), []⟩
theorem Q27_ok : Aj Tryz.prog [0, 1, 2, 3, 4] [15, 20, 31, 71, 88, 41, 76, 86, 65, 83, 81, 114, 117, 119, 122, 68, 100, 103, 104, 105, 137, 138, 64, 72, 96, 99, 158, 159, 132, 56, 93, 94, 130, 131, 155, 62, 23, 170] 115 = some Q27 := by kernel_rfl

def Ei6 : Sts := zA 7 (.mv (.c (.bool false)))<|.nil
def Ei7 : Sts := zB 11 1<|zA 12 (zM 11)<|zA 13 (.bin .eql (.t 12) (zN 0))<|.nil
def Ap6 : AT := .q (zC 0 14 (.loadX (.t 2))<|zD 1 15 0<|.nil)<|zE 2 16 (.call 113 [(.t 15)]) false (zF<|zE 3 17 (.callv (.t 14) [(.t 16)]) true (.q (zD 4 7 17<|.nil)<|.fin)<|.no)<|.no
def Ei8 : Sts := zB 18 1<|zA 19 (zM 18)<|zG 20 0<|.nil
def Ei9 : Sts := zA 21 (.bin .lss (.t 20) (.t 19))<|.nil
def Ej0 : Sts := zB 22 20<|zA 23 (zH 1 18 20)<|zA 24 (zJ 23)<|zA 9 (.alloc 3 [(.int .i64 0)])<|zB 8 22<|.op none (.store 1 (.t 9) (.t 24))<|.nil
def Ej1 : Sts := zB 25 1<|zB 26 8<|zA 27 (.slS 1 (.t 25) none (some (.t 26)) none)<|zA 28 (.mkfn 118 [] [(.t 3), (.t 9)])<|zA 29 (.call 117 [(.t 27), (.t 28)])<|zB 10 29<|.nil
def Ap7 : AT := .q (zD 0 30 10<|zC 1 31 (.notb (.t 30))<|zD 2 32 31<|.nil)<|.br 32 (zF<|.q (zC 3 33 (.loadX (.t 4))<|.nil)<|zF<|.q (zD 4 34 0<|.nil)<|zF<|.q (zC 5 35 (.call 119 [(.t 34)])<|.nil)<|zF<|.q (zC 6 36 (zJ 9)<|.nil)<|zF<|.q (zD 9 39 1<|.nil)<|zF<|.q (zD 10 40 8<|.nil)<|zF<|.q (zC 11 41 (.slS 1 (.t 39) none (some (.t 40)) none)<|.nil)<|zF<|.q (zD 12 42 1<|.nil)<|zF<|.q (zD 13 43 8<|.nil)<|zF<|.q (zC 14 44 (.bin .add (.t 43) (zN 1))<|.nil)<|zF<|.q (zC 15 45 (.slS 1 (.t 42) (some (.t 44)) none none)<|.nil)<|zF<|zE 7 37 (.buildSl 3 1 [(.int .i64 0)] [(0, 1, (.t 36))]) false (zF<|zE 8 38 (.append 3 1 8 [(.int .i64 0)] (.t 35) (.t 37)) false (zF<|zE 16 46 (.buildSl 34 2 [(.slice none 0 0), (.slice none 0 0)] [(0, 1, (.t 41)), (1, 1, (.t 45))]) false (zF<|zE 17 47 (.call 120 [(.t 46)]) false (zF<|zE 18 48 (.callv (.t 33) [(.t 38), (.t 47)]) true (.q (.g 32 true (zC 19 49 (.notb (.t 48))<|.nil) 20 50 (.t 49)<|.nil)<|.fin)<|.no)<|.no)<|.no)<|zE 16 46 (.buildSl 34 2 [(.slice none 0 0), (.slice none 0 0)] [(0, 1, (.t 41)), (1, 1, (.t 45))]) false (zF<|zE 8 38 (.append 3 1 8 [(.int .i64 0)] (.t 35) (.t 37)) false (zF<|zE 17 47 (.call 120 [(.t 46)]) false (zF<|zE 18 48 (.callv (.t 33) [(.t 38), (.t 47)]) true (.q (.g 32 true (zC 19 49 (.notb (.t 48))<|.nil) 20 50 (.t 49)<|.nil)<|.fin)<|.no)<|.no)<|.no)<|.no)<|zE 16 46 (.buildSl 34 2 [(.slice none 0 0), (.slice none 0 0)] [(0, 1, (.t 41)), (1, 1, (.t 45))]) false (zF<|zE 7 37 (.buildSl 3 1 [(.int .i64 0)] [(0, 1, (.t 36))]) false (zF<|zE 8 38 (.append 3 1 8 [(.int .i64 0)] (.t 35) (.t 37)) false (zF<|zE 17 47 (.call 120 [(.t 46)]) false (zF<|zE 18 48 (.callv (.t 33) [(.t 38), (.t 47)]) true (.q (.g 32 true (zC 19 49 (.notb (.t 48))<|.nil) 20 50 (.t 49)<|.nil)<|.fin)<|.no)<|.no)<|.no)<|.no)<|.no)<|zF<|zL 3 33<|zF<|zL 4 34<|zF<|zL 5 35<|zF<|zL 6 36<|zF<|zL 7 37<|zF<|zL 8 38<|zF<|zL 9 39<|zF<|zL 10 40<|zF<|zL 11 41<|zF<|zL 12 42<|zF<|zL 13 43<|zF<|zL 14 44<|zF<|zL 15 45<|zF<|zL 16 46<|zF<|zL 17 47<|zF<|zL 18 48<|.q (.g 32 true (zC 19 49 (.notb (.t 48))<|.nil) 20 50 (.t 49)<|.nil)<|.fin
def Ej2 : Sts := zA 7 (.mv (.c (.bool false)))<|.nil
def Ej3 : Sts := zA 51 (.bin .add (.t 20) (zN 1))<|zB 20 51<|.nil
def Ap8 : RCode := (.seq (.reg Ei9) (.seq (.cond (.t 21) .skip (.exit 0)) (.seq (.block 1 (.seq (.reg Ej0) (.seq (.reg Ej1) (.seq (.any Ap7) (.cond (.t 50) (.seq (.reg Ej2) .ret) .skip))))) (.reg Ej3))))
def Cd4 : Sts := zA 7 (.mv (.c (.bool true)))<|.nil
def Q28 : RFun := ⟨52, [0, 1, 2, 3, 4, 7, 8, 9, 10, 18, 19, 20], (.seq (.reg Ei6) (.seq (.seq (.reg Ei7) (.cond (.t 13) (.seq (.any Ap6) .ret) .skip)) (.seq (.seq (.reg Ei8) (.block 0 (.loop Ap8))) (.seq (.reg Cd4) .ret)))), [.tmp 7]⟩
theorem Q28_ok : Aj Tryz.prog [0, 1, 2, 3, 4, 7, 8, 9, 10, 18, 19, 20] [15, 20, 31, 71, 88, 41, 76, 86, 65, 83, 81, 114, 117, 119, 122, 68, 100, 103, 104, 105, 137, 138, 64, 72, 96, 99, 158, 159, 132, 56, 93, 94, 130, 131, 155, 62, 23, 170] 116 = some Q28 := by kernel_rfl

def Cd5 : Sts := zA 4 (.mv (.c (.bool false)))<|.nil
def Cd6 : Sts := zB 5 0<|zB 6 1<|zA 7 (.call 140 [(.t 5), (.t 6)])<|zA 8 (.bin .geq (.t 7) (zN 0))<|zB 4 8<|.nil
def Ej4 : RFun := ⟨9, [0, 1, 4], (.seq (.reg Cd5) (.seq (.reg Cd6) .ret)), [.tmp 4]⟩
theorem Q106_ok : Aj Tryz.prog [0, 1, 4] [15, 20, 31, 71, 88, 41, 76, 86, 65, 83, 81, 114, 117, 119, 122, 68, 100, 103, 104, 105, 137, 138, 64, 72, 96, 99, 158, 159, 132, 56, 93, 94, 130, 131, 155, 62, 23, 170] 117 = some Ej4 := by kernel_rfl

def Ej5 : Sts := zA 4 (.mv (.c (.bool false)))<|.nil
def Ej6 : AT := .q (zC 0 5 (zK 1)<|zD 1 6 0<|zC 2 7 (zH 6 5 6)<|zC 3 8 (zI 5 7)<|zC 4 9 (zJ 8)<|zC 5 10 (zK 1)<|zC 6 11 (zJ 2)<|zC 7 12 (zH 6 10 11)<|zC 8 13 (zI 5 12)<|zC 9 14 (zJ 13)<|zC 10 15 (.bin .eql (.t 9) (.t 14))<|zD 11 4 15<|.nil)<|.fin
def Q29 : RFun := ⟨16, [0, 1, 2, 4], (.seq (.reg Ej5) (.seq (.any Ej6) .ret)), [.tmp 4]⟩
theorem Q29_ok : Aj Tryz.prog [0, 1, 2, 4] [15, 20, 31, 71, 88, 41, 76, 86, 65, 83, 81, 114, 117, 119, 122, 68, 100, 103, 104, 105, 137, 138, 64, 72, 96, 99, 158, 159, 132, 56, 93, 94, 130, 131, 155, 62, 23, 170] 118 = some Q29 := by kernel_rfl

def Ej7 : Sts := zA 2 (.mv (.c (.slice none 0 0)))<|.nil
def Ej8 : Sts := zB 3 0<|zB 4 0<|zA 5 (zM 4)<|zB 6 0<|zA 7 (zM 6)<|zA 8 (.slS 1 (.t 3) none (some (.t 5)) (some (.t 7)))<|zB 2 8<|.nil
def Q99 : RFun := ⟨9, [0, 2], (.seq (.reg Ej7) (.seq (.reg Ej8) .ret)), [.tmp 2]⟩
theorem Q99_ok : Aj Tryz.prog [0, 2] [15, 20, 31, 71, 88, 41, 76, 86, 65, 83, 81, 114, 117, 119, 122, 68, 100, 103, 104, 105, 137, 138, 64, 72, 96, 99, 158, 159, 132, 56, 93, 94, 130, 131, 155, 62, 23, 170] 119 = some Q99 := by kernel_rfl

def Cd7 : Sts := zA 2 (.mv (.c (.slice none 0 0)))<|.nil
def Cd8 : Sts := zG 3 0<|.nil
def Cd9 : Sts := zB 9 0<|zA 10 (zM 9)<|zG 11 0<|.nil
def Ce0 : Sts := zA 12 (.bin .lss (.t 11) (.t 10))<|.nil
def Ce1 : Sts := zA 13 (zH 1 9 11)<|zA 14 (zK 13)<|zB 5 14<|.nil
def Ce2 : Sts := zB 15 3<|zB 16 5<|zA 17 (zM 16)<|zA 18 (.bin .add (.t 15) (.t 17))<|zB 3 18<|.nil
def Ce3 : Sts := zB 19 3<|zA 20 (.bin .lss (.t 19) (zN 0))<|.nil
def Ce4 : Sts := zA 21 (.bad)<|.op none (.bad)<|.nil
def Ce5 : Sts := zA 22 (.bin .add (.t 11) (zN 1))<|zB 11 22<|.nil
def Ap9 : RCode := (.seq (.reg Ce0) (.seq (.cond (.t 12) .skip (.exit 0)) (.seq (.block 1 (.seq (.reg Ce1) (.seq (.reg Ce2) (.seq (.reg Ce3) (.cond (.t 20) (.reg Ce4) .skip))))) (.reg Ce5))))
def Ce6 : Sts := zB 23 3<|zA 24 (.call 141 [(.c (.slice none 0 0)), (.t 23)])<|zB 6 24<|.nil
def Aq0 : Sts := zB 25 0<|zA 26 (zM 25)<|zG 27 0<|.nil
def Aq1 : Sts := zA 28 (.bin .lss (.t 27) (.t 26))<|.nil
def Aq2 : Sts := zA 29 (zH 1 25 27)<|zA 30 (zK 29)<|zB 8 30<|.nil
def Aq3 : Sts := zB 31 6<|zB 32 8<|zA 33 (.append 3 1 8 [(.int .i64 0)] (.t 31) (.t 32))<|zB 6 33<|.nil
def Aq4 : Sts := zA 34 (.bin .add (.t 27) (zN 1))<|zB 27 34<|.nil
def Ab6 : RCode := (.seq (.reg Aq1) (.seq (.cond (.t 28) .skip (.exit 2)) (.seq (.block 3 (.seq (.reg Aq2) (.reg Aq3))) (.reg Aq4))))
def Aq5 : Sts := zB 35 6<|zB 2 35<|.nil
def Ej9 : RFun := ⟨36, [0, 2, 3, 5, 6, 8, 9, 10, 11, 25, 26, 27], (.seq (.reg Cd7) (.seq (.reg Cd8) (.seq (.seq (.reg Cd9) (.block 0 (.loop Ap9))) (.seq (.reg Ce6) (.seq (.seq (.reg Aq0) (.block 2 (.loop Ab6))) (.seq (.reg Aq5) .ret)))))), [.tmp 2]⟩
theorem Q105_ok : Aj Tryz.prog [0, 2, 3, 5, 6, 8, 9, 10, 11, 25, 26, 27] [15, 20, 31, 71, 88, 41, 76, 86, 65, 83, 81, 114, 117, 119, 122, 68, 100, 103, 104, 105, 137, 138, 64, 72, 96, 99, 158, 159, 132, 56, 93, 94, 130, 131, 155, 62, 23, 170] 120 = some Ej9 := by kernel_rfl

def Ek0 : AT := .q (zD 0 6 0<|zD 1 7 1<|zC 2 8 (zH 1 6 7)<|zC 3 9 (.loadI .u32 (.t 8))<|zD 4 10 2<|zC 5 11 (.bin .shl (.c (.int .u32 1)) (.t 10))<|zC 6 12 (.bin .or (.t 9) (.t 11))<|zC 7 13 (zH 1 6 7)<|.nil)<|.s 8 none (.store 1 (.t 13) (.t 12)) true (zF<|.fin)<|.no
def Q45 : RFun := ⟨14, [0, 1, 2], (.any Ek0), []⟩
theorem Q45_ok : Aj Tryz.prog [0, 1, 2] [15, 20, 31, 71, 88, 41, 76, 86, 65, 83, 81, 114, 117, 119, 122, 68, 100, 103, 104, 105, 137, 138, 64, 72, 96, 99, 158, 159, 132, 56, 93, 94, 130, 131, 155, 62, 23, 170] 121 = some Q45 := by kernel_rfl

def Ek1 : Sts := zA 2 (.mv (.c (.bool false)))<|.nil
def Ek2 : Sts := zB 4 0<|zA 5 (zM 4)<|zG 6 0<|.nil
def Ek3 : Sts := zA 7 (.bin .lss (.t 6) (.t 5))<|.nil
def Ek4 : Sts := zB 8 6<|zB 3 8<|.nil
def Ek5 : Sts := zB 9 0<|zB 10 3<|zB 11 3<|zA 12 (.call 68 [(.t 9), (.t 10), (.t 11)])<|.nil
def Ek6 : Sts := zA 2 (.mv (.c (.bool true)))<|.nil
def Ek7 : Sts := zA 13 (.bin .add (.t 6) (zN 1))<|zB 6 13<|.nil
def Ce7 : RCode := (.seq (.reg Ek3) (.seq (.cond (.t 7) .skip (.exit 0)) (.seq (.block 1 (.seq (.reg Ek4) (.seq (.reg Ek5) (.cond (.t 12) (.seq (.reg Ek6) .ret) .skip)))) (.reg Ek7))))
def Ek8 : Sts := zA 2 (.mv (.c (.bool false)))<|.nil
def Q42 : RFun := ⟨14, [0, 2, 3, 5, 6], (.seq (.reg Ek1) (.seq (.seq (.reg Ek2) (.block 0 (.loop Ce7))) (.seq (.reg Ek8) .ret))), [.tmp 2]⟩
theorem Q42_ok : Aj Tryz.prog [0, 2, 3, 5, 6] [15, 20, 31, 71, 88, 41, 76, 86, 65, 83, 81, 114, 117, 119, 122, 68, 100, 103, 104, 105, 137, 138, 64, 72, 96, 99, 158, 159, 132, 56, 93, 94, 130, 131, 155, 62, 23, 170] 122 = some Q42 := by kernel_rfl

def Ek9 : Sts := zA 3 (.box 45 (.t 1))<|zA 4 (.mv (.c (.slice none 0 0)))<|.nil
def El0 : Sts := zB 17 0<|zA 18 (.call 136 [(.t 17)])<|zB 5 18<|.nil
def El1 : Sts := zA 19 (zI 2 3)<|zA 20 (zK 19)<|zA 21 (zM 20)<|zG 22 0<|.nil
def El2 : Sts := zA 23 (.bin .lss (.t 22) (.t 21))<|.nil
def El3 : Sts := zA 24 (zH 1 20 22)<|zA 25 (zK 24)<|zB 7 25<|.nil
def El4 : Sts := zB 26 7<|zA 27 (zM 26)<|zG 28 0<|.nil
def El5 : Sts := zA 29 (.bin .lss (.t 28) (.t 27))<|.nil
def El6 : Sts := zB 30 28<|zA 31 (zH 1 26 28)<|zA 32 (zJ 31)<|zB 8 30<|zB 9 32<|.nil
def El7 : Sts := zB 33 7<|zB 34 8<|zA 35 (.bin .add (.t 34) (zN 1))<|zA 36 (.slS 1 (.t 33) (some (.t 35)) none none)<|zA 37 (zM 36)<|zG 38 0<|.nil
def El8 : Sts := zA 39 (.bin .lss (.t 38) (.t 37))<|.nil
def Ce8 : Sts := zA 40 (zH 1 36 38)<|zA 41 (zJ 40)<|zB 11 41<|.nil
def Ce9 : Sts := zB 42 5<|zB 43 9<|zB 44 11<|zA 45 (.call 121 [(.t 42), (.t 43), (.t 44)])<|.nil
def Cf0 : Sts := zA 46 (.bin .add (.t 38) (zN 1))<|zB 38 46<|.nil
def Aq6 : RCode := (.seq (.reg El8) (.seq (.cond (.t 39) .skip (.exit 4)) (.seq (.block 5 (.seq (.reg Ce8) (.reg Ce9))) (.reg Cf0))))
def Cf1 : Sts := zA 47 (.bin .add (.t 28) (zN 1))<|zB 28 47<|.nil
def Aq7 : RCode := (.seq (.reg El5) (.seq (.cond (.t 29) .skip (.exit 2)) (.seq (.block 3 (.seq (.reg El6) (.seq (.reg El7) (.block 4 (.loop Aq6))))) (.reg Cf1))))
def Cf2 : Sts := zA 48 (.bin .add (.t 22) (zN 1))<|zB 22 48<|.nil
def Aq8 : RCode := (.seq (.reg El2) (.seq (.cond (.t 23) .skip (.exit 0)) (.seq (.block 1 (.seq (.reg El3) (.seq (.reg El4) (.block 2 (.loop Aq7))))) (.reg Cf2))))
def Cf3 : Sts := zA 49 (zI 0 3)<|zA 50 (zK 49)<|zA 51 (zM 50)<|zG 52 0<|.nil
def Cf4 : Sts := zA 53 (.bin .lss (.t 52) (.t 51))<|.nil
def Cf5 : Sts := zB 54 52<|zA 55 (zH 1 50 52)<|zA 56 (zJ 55)<|zB 12 54<|zB 13 56<|.nil
def Cf6 : Sts := zB 57 0<|zB 58 12<|zA 59 (zH 6 57 58)<|zA 60 (.loadA 6 (.t 59))<|zA 61 (.call 86 [(.t 60)])<|zA 62 (.notb (.t 61))<|.nil
def Cf7 : Sts := zB 63 13<|zA 64 (.bin .geq (.t 63) (zN 0))<|.nil
def Cf8 : Sts := zB 65 5<|zB 66 13<|zB 67 12<|zA 68 (.call 121 [(.t 65), (.t 66), (.t 67)])<|.nil
def Cf9 : Sts := zB 69 13<|zA 70 (.bin .eql (.t 69) (.c (.int .i64 (-1))))<|zB 14 70<|.nil
def Cg0 : AT := .q (zC 0 71 (zI 2 3)<|zC 1 72 (zK 71)<|zD 2 73 0<|zD 3 74 12<|zC 4 75 (zH 6 73 74)<|zC 5 76 (zI 0 75)<|zC 6 77 (zI 1 76)<|zC 7 78 (zJ 77)<|zC 8 79 (zH 1 72 78)<|zC 9 80 (zK 79)<|zC 10 81 (zM 80)<|zC 11 82 (.mv (zN 0))<|.nil)<|.fin
def Cg1 : Sts := zA 83 (.bin .lss (.t 82) (.t 81))<|.nil
def Cg2 : Sts := zA 84 (zH 1 80 82)<|zA 85 (zJ 84)<|zB 16 85<|.nil
def Cg3 : Sts := zB 86 14<|zB 87 86<|.cnd 87 true (zB 88 16<|zB 89 12<|zA 90 (.bin .neq (.t 88) (.t 89))<|.nil) 91 (.t 90)<|.nil
def Cg4 : Sts := zB 92 5<|zB 93 12<|zB 94 16<|zA 95 (.call 121 [(.t 92), (.t 93), (.t 94)])<|.nil
def Cg5 : Sts := zB 96 14<|zB 97 96<|.cnd 97 false (zB 98 16<|zB 99 13<|zA 100 (.bin .eql (.t 98) (.t 99))<|.nil) 101 (.t 100)<|zB 14 101<|.nil
def Cg6 : Sts := zA 102 (.bin .add (.t 82) (zN 1))<|zB 82 102<|.nil
def Aq9 : RCode := (.seq (.reg Cg1) (.seq (.cond (.t 83) .skip (.exit 8)) (.seq (.block 9 (.seq (.reg Cg2) (.seq (.seq (.reg Cg3) (.cond (.t 91) (.reg Cg4) .skip)) (.reg Cg5)))) (.reg Cg6))))
def Cg7 : Sts := zA 103 (.bin .add (.t 52) (zN 1))<|zB 52 103<|.nil
def Ar0 : RCode := (.seq (.reg Cf4) (.seq (.cond (.t 53) .skip (.exit 6)) (.seq (.block 7 (.seq (.reg Cf5) (.seq (.seq (.reg Cf6) (.cond (.t 62) (.exit 7) .skip)) (.seq (.seq (.reg Cf7) (.cond (.t 64) (.reg Cf8) .skip)) (.seq (.reg Cf9) (.seq (.any Cg0) (.block 8 (.loop Aq9)))))))) (.reg Cg7))))
def Cg8 : Sts := zB 104 5<|zA 105 (.call 106 [(.t 104)])<|zB 4 105<|.nil
def Q11 : RFun := ⟨106, [0, 1, 3, 4, 5, 7, 8, 9, 11, 12, 13, 14, 16, 20, 21, 22, 26, 27, 28, 36, 37, 38, 50, 51, 52, 80, 81, 82], (.seq (.reg Ek9) (.seq (.reg El0) (.seq (.seq (.reg El1) (.block 0 (.loop Aq8))) (.seq (.seq (.reg Cf3) (.block 6 (.loop Ar0))) (.seq (.reg Cg8) .ret))))), [.tmp 4]⟩
theorem Q11_ok : Aj Tryz.prog [0, 1, 3, 4, 5, 7, 8, 9, 11, 12, 13, 14, 16, 20, 21, 22, 26, 27, 28, 36, 37, 38, 50, 51, 52, 80, 81, 82] [15, 20, 31, 71, 88, 41, 76, 86, 65, 83, 81, 114, 117, 119, 122, 68, 100, 103, 104, 105, 137, 138, 64, 72, 96, 99, 158, 159, 132, 56, 93, 94, 130, 131, 155, 62, 23, 170] 123 = some Q11 := by kernel_rfl

def Cg9 : Sts := zA 2 (.mv (.c (.slice none 0 0)))<|.nil
def Ch0 : Sts := zB 3 0<|zA 4 (.eqS false (.t 3))<|.nil
def Ch1 : Sts := zA 2 (.mv (.c (.slice none 0 0)))<|.nil
def Ch2 : Sts := zA 5 (.buildSl 4 0 [] [])<|zB 6 0<|zA 7 (.append 4 1 1 [(.bool false)] (.t 5) (.t 6))<|zB 2 7<|.nil
def El9 : RFun := ⟨8, [0, 2], (.seq (.reg Cg9) (.seq (.seq (.reg Ch0) (.cond (.t 4) (.seq (.reg Ch1) .ret) .skip)) (.seq (.reg Ch2) .ret))), [.tmp 2]⟩
theorem Q100_ok : Aj Tryz.prog [0, 2] [15, 20, 31, 71, 88, 41, 76, 86, 65, 83, 81, 114, 117, 119, 122, 68, 100, 103, 104, 105, 137, 138, 64, 72, 96, 99, 158, 159, 132, 56, 93, 94, 130, 131, 155, 62, 23, 170] 124 = some El9 := by kernel_rfl

def Em0 : Sts := zG 4 0<|.nil
def Em1 : Sts := zB 7 0<|zA 8 (.call 152 [(.t 7)])<|zB 5 8<|.nil
def Em2 : Sts := zB 9 1<|zA 10 (.call 152 [(.t 9)])<|zB 6 10<|.nil
def Em3 : Sts := zB 11 5<|.nil
def Em4 : Sts := zB 12 6<|.nil
def Em5 : Sts := zG 4 0<|.nil
def Em6 : Sts := zA 4 (.mv (.c (.int .i64 (-1))))<|.nil
def Em7 : Sts := zB 13 6<|.nil
def Em8 : Sts := zG 4 1<|.nil
def Em9 : Sts := zB 14 0<|zB 15 1<|zA 16 (.bin .lss (.t 14) (.t 15))<|.nil
def Ch3 : Sts := zA 4 (.mv (.c (.int .i64 (-1))))<|.nil
def Ch4 : Sts := zB 17 0<|zB 18 1<|zA 19 (.bin .gtr (.t 17) (.t 18))<|.nil
def Ch5 : Sts := zG 4 1<|.nil
def Ch6 : Sts := zG 4 0<|.nil
def Q47 : RFun := ⟨20, [0, 1, 4, 5, 6], (.seq (.reg Em0) (.seq (.reg Em1) (.seq (.reg Em2) (.seq (.seq (.reg Em3) (.cond (.t 11) (.seq (.seq (.reg Em4) (.cond (.t 12) (.seq (.reg Em5) .ret) .skip)) (.seq (.reg Em6) .ret)) .skip)) (.seq (.seq (.reg Em7) (.cond (.t 13) (.seq (.reg Em8) .ret) .skip)) (.seq (.seq (.reg Em9) (.cond (.t 16) (.seq (.reg Ch3) .ret) .skip)) (.seq (.seq (.reg Ch4) (.cond (.t 19) (.seq (.reg Ch5) .ret) .skip)) (.seq (.reg Ch6) .ret)))))))), [.tmp 4]⟩
theorem Q47_ok : Aj Tryz.prog [0, 1, 4, 5, 6] [15, 20, 31, 71, 88, 41, 76, 86, 65, 83, 81, 114, 117, 119, 122, 68, 100, 103, 104, 105, 137, 138, 64, 72, 96, 99, 158, 159, 132, 56, 93, 94, 130, 131, 155, 62, 23, 170] 127 = some Q47 := by kernel_rfl

def En0 : Sts := zA 1 (.box 83 (.t 0))<|zG 2 0<|.nil
def En1 : Sts := zA 3 (zI 4 1)<|zA 4 (zJ 3)<|zA 5 (.bin .neq (.t 4) (zN 4))<|.nil
def En2 : Sts := zA 6 (zI 4 1)<|zA 7 (zJ 6)<|zB 2 7<|.nil
def En3 : Sts := zA 8 (zI 0 1)<|zA 9 (zJ 8)<|zA 10 (.bin .eql (.t 9) (zN 0))<|.nil
def En4 : Sts := zG 2 1<|.nil
def En5 : Sts := zA 11 (zI 0 1)<|zA 12 (zJ 11)<|zA 13 (.bin .eql (.t 12) (zN 1))<|.nil
def En6 : Sts := zG 2 2<|.nil
def En7 : Sts := zG 2 3<|.nil
def Q70 : RFun := ⟨14, [0, 1, 2], (.seq (.reg En0) (.seq (.seq (.reg En1) (.cond (.t 5) (.seq (.reg En2) .ret) .skip)) (.seq (.seq (.reg En3) (.cond (.t 10) (.seq (.reg En4) .ret) .skip)) (.seq (.seq (.reg En5) (.cond (.t 13) (.seq (.reg En6) .ret) .skip)) (.seq (.reg En7) .ret))))), [.tmp 2]⟩
theorem Q70_ok : Aj Tryz.prog [0, 1, 2] [15, 20, 31, 71, 88, 41, 76, 86, 65, 83, 81, 114, 117, 119, 122, 68, 100, 103, 104, 105, 137, 138, 64, 72, 96, 99, 158, 159, 132, 56, 93, 94, 130, 131, 155, 62, 23, 170] 128 = some Q70 := by kernel_rfl

def En8 : Sts := zA 2 (.mv (.c (.bool false)))<|.nil
def En9 : Sts := zB 3 0<|zA 4 (.call 155 [(.t 3)])<|zA 5 (.bin .and (.t 4) (zN 2))<|zA 6 (.bin .eql (.t 5) (zN 2))<|zB 2 6<|.nil
def Q64 : RFun := ⟨7, [0, 2], (.seq (.reg En8) (.seq (.reg En9) .ret)), [.tmp 2]⟩
theorem Q64_ok : Aj Tryz.prog [0, 2] [15, 20, 31, 71, 88, 41, 76, 86, 65, 83, 81, 114, 117, 119, 122, 68, 100, 103, 104, 105, 137, 138, 64, 72, 96, 99, 158, 159, 132, 56, 93, 94, 130, 131, 155, 62, 23, 170] 130 = some Q64 := by kernel_rfl

def Eo0 : Sts := zA 2 (.mv (.c (.bool false)))<|.nil
def Eo1 : Sts := zB 3 0<|zA 4 (.call 155 [(.t 3)])<|zA 5 (.bin .and (.t 4) (zN 1))<|zA 6 (.bin .eql (.t 5) (zN 1))<|zB 2 6<|.nil
def Q62 : RFun := ⟨7, [0, 2], (.seq (.reg Eo0) (.seq (.reg Eo1) .ret)), [.tmp 2]⟩
theorem Q62_ok : Aj Tryz.prog [0, 2] [15, 20, 31, 71, 88, 41, 76, 86, 65, 83, 81, 114, 117, 119, 122, 68, 100, 103, 104, 105, 137, 138, 64, 72, 96, 99, 158, 159, 132, 56, 93, 94, 130, 131, 155, 62, 23, 170] 131 = some Q62 := by kernel_rfl

def Eo2 : Sts := zG 2 0<|.nil
def Eo3 : Sts := zB 3 0<|zA 4 (.bin .eql (.t 3) (zN 4))<|.nil
def Eo4 : Sts := zG 2 7<|.nil
def Eo5 : Sts := zB 5 0<|zB 2 5<|.nil
def Q95 : RFun := ⟨6, [0, 2], (.seq (.reg Eo2) (.seq (.seq (.reg Eo3) (.cond (.t 4) (.seq (.reg Eo4) .ret) .skip)) (.seq (.reg Eo5) .ret))), [.tmp 2]⟩
theorem Q95_ok : Aj Tryz.prog [0, 2] [15, 20, 31, 71, 88, 41, 76, 86, 65, 83, 81, 114, 117, 119, 122, 68, 100, 103, 104, 105, 137, 138, 64, 72, 96, 99, 158, 159, 132, 56, 93, 94, 130, 131, 155, 62, 23, 170] 132 = some Q95 := by kernel_rfl

def Eo6 : Sts := zA 4 (.box 45 (.t 1))<|zA 6 (.mv (.c (.bool false)))<|.nil
def Eo7 : Sts := zA 8 (zI 0 4)<|zA 9 (zK 8)<|zB 10 2<|zA 11 (zH 1 9 10)<|zA 12 (zJ 11)<|zB 7 12<|.nil
def Eo8 : Sts := zB 13 0<|zB 14 2<|zA 15 (zH 6 13 14)<|zA 16 (.loadA 6 (.t 15))<|zA 17 (.call 86 [(.t 16)])<|zA 18 (.notb (.t 17))<|.nil
def Eo9 : Sts := zB 19 7<|zA 20 (.bin .eql (.t 19) (.c (.int .i64 (-2))))<|zB 6 20<|.nil
def Ep0 : Sts := zB 21 7<|zA 22 (.bin .eql (.t 21) (.c (.int .i64 (-1))))<|.nil
def Ep1 : Sts := zA 6 (.mv (.c (.bool true)))<|.nil
def Ch7 : AT := .q (zD 0 23 7<|zC 1 24 (.bin .geq (.t 23) (zN 0))<|zD 2 25 24<|.g 25 true (zD 3 26 7<|zD 4 27 0<|zC 5 28 (zM 27)<|zC 6 29 (.bin .lss (.t 26) (.t 28))<|.nil) 7 30 (.t 29)<|zD 8 31 30<|.g 31 true (zC 9 32 (zI 1 4)<|zC 10 33 (zK 32)<|zD 11 34 7<|zC 12 35 (zH 1 33 34)<|zC 13 36 (.loadB (.t 35))<|.nil) 14 37 (.t 36)<|zD 15 38 37<|.g 38 true (zD 16 39 0<|zD 17 40 7<|zC 18 41 (zH 6 39 40)<|zC 19 42 (zI 0 41)<|zC 20 43 (zI 0 42)<|zC 21 44 (zJ 43)<|zC 22 45 (.bin .neq (.t 44) (zN 5))<|.nil) 23 46 (.t 45)<|zD 24 47 46<|.g 47 true (zD 25 48 0<|zD 26 49 7<|zC 27 50 (zH 6 48 49)<|zC 28 51 (zI 0 50)<|zC 29 52 (zI 1 51)<|zC 30 53 (zJ 52)<|zD 31 54 0<|zD 32 55 2<|zC 33 56 (zH 6 54 55)<|zC 34 57 (zI 0 56)<|zC 35 58 (zI 1 57)<|zC 36 59 (zJ 58)<|zC 37 60 (.bin .eql (.t 53) (.t 59))<|.nil) 38 61 (.t 60)<|zD 39 6 61<|.nil)<|.fin
def Q36 : RFun := ⟨62, [0, 1, 2, 4, 6, 7], (.seq (.reg Eo6) (.seq (.reg Eo7) (.seq (.seq (.reg Eo8) (.cond (.t 18) (.seq (.reg Eo9) .ret) .skip)) (.seq (.seq (.reg Ep0) (.cond (.t 22) (.seq (.reg Ep1) .ret) .skip)) (.seq (.any Ch7) .ret))))), [.tmp 6]⟩
theorem Q36_ok : Aj Tryz.prog [0, 1, 2, 4, 6, 7] [15, 20, 31, 71, 88, 41, 76, 86, 65, 83, 81, 114, 117, 119, 122, 68, 100, 103, 104, 105, 137, 138, 64, 72, 96, 99, 158, 159, 132, 56, 93, 94, 130, 131, 155, 62, 23, 170] 133 = some Q36 := by kernel_rfl

def Ep2 : Sts := zA 4 (.mv (.c (.bool false)))<|.nil
def Ep3 : Sts := zB 5 0<|zA 6 (.call 157 [(.t 5)])<|zA 7 (.call 156 [(.t 6)])<|zB 8 1<|zA 9 (.call 41 [(.t 7), (.t 8)])<|zB 4 9<|.nil
def Q46 : RFun := ⟨10, [0, 1, 4], (.seq (.reg Ep2) (.seq (.reg Ep3) .ret)), [.tmp 4]⟩
theorem Q46_ok : Aj Tryz.prog [0, 1, 4] [15, 20, 31, 71, 88, 41, 76, 86, 65, 83, 81, 114, 117, 119, 122, 68, 100, 103, 104, 105, 137, 138, 64, 72, 96, 99, 158, 159, 132, 56, 93, 94, 130, 131, 155, 62, 23, 170] 134 = some Q46 := by kernel_rfl

def Ep4 : Sts := zA 3 (.mv (.c (.bool false)))<|.nil
def Ep5 : Sts := zA 4 (zK 1)<|zB 5 0<|zA 6 (zH 6 4 5)<|zA 7 (.loadA 6 (.t 6))<|zA 8 (.call 76 [(.t 7)])<|zB 3 8<|.nil
def Q22 : RFun := ⟨9, [0, 1, 3], (.seq (.reg Ep4) (.seq (.reg Ep5) .ret)), [.tmp 3]⟩
theorem Q22_ok : Aj Tryz.prog [0, 1, 3] [15, 20, 31, 71, 88, 41, 76, 86, 65, 83, 81, 114, 117, 119, 122, 68, 100, 103, 104, 105, 137, 138, 64, 72, 96, 99, 158, 159, 132, 56, 93, 94, 130, 131, 155, 62, 23, 170] 135 = some Q22 := by kernel_rfl

def Ep6 : Sts := zA 2 (.mv (.c (.slice none 0 0)))<|.nil
def Ep7 : Sts := zB 3 0<|zA 4 (zM 3)<|zA 5 (.makeSl 144 1 4 [(.int .u32 0)] (.t 4) (.t 4))<|zB 2 5<|.nil
def Q35 : RFun := ⟨6, [0, 2], (.seq (.reg Ep6) (.seq (.reg Ep7) .ret)), [.tmp 2]⟩
theorem Q35_ok : Aj Tryz.prog [0, 2] [15, 20, 31, 71, 88, 41, 76, 86, 65, 83, 81, 114, 117, 119, 122, 68, 100, 103, 104, 105, 137, 138, 64, 72, 96, 99, 158, 159, 132, 56, 93, 94, 130, 131, 155, 62, 23, 170] 136 = some Q35 := by kernel_rfl

def Ey0 : Sts := zA 1 (.box 121 (.t 0))<|zA 2 (.mv (.c (.bool false)))<|.nil
def Ey1 : Sts := zA 6 (zI 0 1)<|zA 7 (zI 4 6)<|zA 8 (zJ 7)<|zA 9 (.call 158 [(.t 8)])<|zB 5 9<|zA 10 (.extract 0 (.t 5))<|zA 11 (.extract 1 (.t 5))<|zB 3 10<|zB 4 11<|.nil
def Ey2 : Sts := zB 12 3<|zB 2 12<|.nil
def Q6 : RFun := ⟨13, [0, 1, 2, 3], (.seq (.reg Ey0) (.seq (.reg Ey1) (.seq (.reg Ey2) .ret))), [.tmp 2]⟩
theorem Q6_ok : Aj Tryz.prog [0, 1, 2, 3] [15, 20, 31, 71, 88, 41, 76, 86, 65, 83, 81, 114, 117, 119, 122, 68, 100, 103, 104, 105, 137, 138, 64, 72, 96, 99, 158, 159, 132, 56, 93, 94, 130, 131, 155, 62, 23, 170] 137 = some Q6 := by kernel_rfl

def Ey3 : Sts := zA 1 (.box 121 (.t 0))<|zA 2 (.mv (.c (.bool false)))<|.nil
def Ey4 : Sts := zA 6 (zI 0 1)<|zA 7 (zI 4 6)<|zA 8 (zJ 7)<|zA 9 (.call 159 [(.t 8)])<|zB 5 9<|zA 10 (.extract 0 (.t 5))<|zA 11 (.extract 1 (.t 5))<|zB 3 10<|zB 4 11<|.nil
def Ey5 : Sts := zB 12 3<|zB 2 12<|.nil
def Q4 : RFun := ⟨13, [0, 1, 2, 3], (.seq (.reg Ey3) (.seq (.reg Ey4) (.seq (.reg Ey5) .ret))), [.tmp 2]⟩
theorem Q4_ok : Aj Tryz.prog [0, 1, 2, 3] [15, 20, 31, 71, 88, 41, 76, 86, 65, 83, 81, 114, 117, 119, 122, 68, 100, 103, 104, 105, 137, 138, 64, 72, 96, 99, 158, 159, 132, 56, 93, 94, 130, 131, 155, 62, 23, 170] 138 = some Q4 := by kernel_rfl

def Ep8 : Sts := zA 5 (.mv (.c (.bool false)))<|.nil
def Ep9 : AT := .q (zC 0 6 (zK 1)<|zD 1 7 0<|zC 2 8 (zH 6 6 7)<|zC 3 9 (zI 0 8)<|zC 4 10 (zI 0 9)<|zC 5 11 (zJ 10)<|zC 6 12 (.bin .neq (.t 11) (zN 5))<|zD 7 13 12<|.g 13 true (zC 8 14 (zK 2)<|zD 9 15 0<|zC 10 16 (zH 1 14 15)<|zC 11 17 (.loadB (.t 16))<|.nil) 12 18 (.t 17)<|zD 13 19 18<|.g 19 true (zC 14 20 (zK 1)<|zD 15 21 0<|zC 16 22 (zH 6 20 21)<|zC 17 23 (zI 0 22)<|zC 18 24 (zI 1 23)<|zC 19 25 (zJ 24)<|zC 20 26 (zJ 3)<|zC 21 27 (.bin .eql (.t 25) (.t 26))<|.nil) 22 28 (.t 27)<|zD 23 5 28<|.nil)<|.fin
def Q41 : RFun := ⟨29, [0, 1, 2, 3, 5], (.seq (.reg Ep8) (.seq (.any Ep9) .ret)), [.tmp 5]⟩
theorem Q41_ok : Aj Tryz.prog [0, 1, 2, 3, 5] [15, 20, 31, 71, 88, 41, 76, 86, 65, 83, 81, 114, 117, 119, 122, 68, 100, 103, 104, 105, 137, 138, 64, 72, 96, 99, 158, 159, 132, 56, 93, 94, 130, 131, 155, 62, 23, 170] 139 = some Q41 := by kernel_rfl

def Ch8 : Sts := zG 4 0<|.nil
def Ch9 : Sts := zB 6 0<|zA 7 (zM 6)<|zG 8 0<|.nil
def Ci0 : Sts := zA 9 (.bin .lss (.t 8) (.t 7))<|.nil
def Ci1 : Sts := zB 10 8<|zB 5 10<|.nil
def Ci2 : Sts := zB 11 1<|zB 12 0<|zB 13 5<|zA 14 (zH 1 12 13)<|zA 15 (zJ 14)<|zA 16 (.callv (.t 11) [(.t 15)])<|.nil
def Ci3 : Sts := zB 17 5<|zB 4 17<|.nil
def Ci4 : Sts := zA 18 (.bin .add (.t 8) (zN 1))<|zB 8 18<|.nil
def Ar1 : RCode := (.seq (.reg Ci0) (.seq (.cond (.t 9) .skip (.exit 0)) (.seq (.block 1 (.seq (.reg Ci1) (.seq (.reg Ci2) (.cond (.t 16) (.seq (.reg Ci3) .ret) .skip)))) (.reg Ci4))))
def Ci5 : Sts := zA 4 (.mv (.c (.int .i64 (-1))))<|.nil
def Eq0 : RFun := ⟨19, [0, 1, 4, 5, 7, 8], (.seq (.reg Ch8) (.seq (.seq (.reg Ch9) (.block 0 (.loop Ar1))) (.seq (.reg Ci5) .ret))), [.tmp 4]⟩
theorem Q109_ok : Aj Tryz.prog [0, 1, 4, 5, 7, 8] [15, 20, 31, 71, 88, 41, 76, 86, 65, 83, 81, 114, 117, 119, 122, 68, 100, 103, 104, 105, 137, 138, 64, 72, 96, 99, 158, 159, 132, 56, 93, 94, 130, 131, 155, 62, 23, 170] 140 = some Eq0 := by kernel_rfl

def Ci6 : Sts := zA 4 (.mv (.c (.slice none 0 0)))<|.nil
def Ci7 : Sts := zB 5 1<|zA 6 (.bin .lss (.t 5) (zN 0))<|.nil
def Ci8 : Sts := zA 7 (.bad)<|.op none (.bad)<|.nil
def Ci9 : Sts := zB 8 1<|zB 9 0<|zA 10 (.cap (.t 9))<|zB 11 0<|zA 12 (zM 11)<|zA 13 (.bin .sub (.t 10) (.t 12))<|zA 14 (.bin .sub (.t 8) (.t 13))<|zB 1 14<|.nil
def Cj0 : Sts := zB 15 1<|zA 16 (.bin .gtr (.t 15) (zN 0))<|.nil
def Cj1 : Sts := zB 17 0<|zB 18 0<|zA 19 (.cap (.t 18))<|zA 20 (.slS 1 (.t 17) none (some (.t 19)) none)<|zB 21 1<|zA 22 (.appendZ 3 1 8 [(.int .i64 0)] (.t 20) (.t 21))<|zB 23 0<|zA 24 (zM 23)<|zA 25 (.slS 1 (.t 22) none (some (.t 24)) none)<|zB 0 25<|.nil
def Cj2 : Sts := zB 26 0<|zB 4 26<|.nil
def Eq1 : RFun := ⟨27, [0, 1, 4], (.seq (.reg Ci6) (.seq (.seq (.reg Ci7) (.cond (.t 6) (.reg Ci8) .skip)) (.seq (.seq (.reg Ci9) (.seq (.reg Cj0) (.cond (.t 16) (.reg Cj1) .skip))) (.seq (.reg Cj2) .ret)))), [.tmp 4]⟩
theorem Q108_ok : Aj Tryz.prog [0, 1, 4] [15, 20, 31, 71, 88, 41, 76, 86, 65, 83, 81, 114, 117, 119, 122, 68, 100, 103, 104, 105, 137, 138, 64, 72, 96, 99, 158, 159, 132, 56, 93, 94, 130, 131, 155, 62, 23, 170] 141 = some Eq1 := by kernel_rfl

def Eq2 : Sts := zA 2 (.mv (.c (.bool false)))<|.nil
def Eq3 : Sts := zB 3 0<|zB 4 0<|zA 5 (.bin .neq (.t 3) (.t 4))<|zB 2 5<|.nil
def Q48 : RFun := ⟨6, [0, 2], (.seq (.reg Eq2) (.seq (.reg Eq3) .ret)), [.tmp 2]⟩
theorem Q48_ok : Aj Tryz.prog [0, 2] [15, 20, 31, 71, 88, 41, 76, 86, 65, 83, 81, 114, 117, 119, 122, 68, 100, 103, 104, 105, 137, 138, 64, 72, 96, 99, 158, 159, 132, 56, 93, 94, 130, 131, 155, 62, 23, 170] 152 = some Q48 := by kernel_rfl

def Eq4 : Sts := zG 2 0<|.nil
def Eq5 : Sts := zA 3 (.buildSl 3 5 [(.int .i64 0), (.int .i64 0), (.int .i64 0), (.int .i64 0), (.int .i64 0)] [(0, 1, (zN 0)), (1, 1, (zN 1)), (2, 1, (zN 2)), (3, 1, (zN 3)), (4, 1, (zN 7))])<|zB 4 0<|zA 5 (zH 1 3 4)<|zA 6 (zJ 5)<|zB 2 6<|.nil
def Q63 : RFun := ⟨7, [0, 2], (.seq (.reg Eq4) (.seq (.reg Eq5) .ret)), [.tmp 2]⟩
theorem Q63_ok : Aj Tryz.prog [0, 2] [15, 20, 31, 71, 88, 41, 76, 86, 65, 83, 81, 114, 117, 119, 122, 68, 100, 103, 104, 105, 137, 138, 64, 72, 96, 99, 158, 159, 132, 56, 93, 94, 130, 131, 155, 62, 23, 170] 155 = some Q63 := by kernel_rfl

def Cj3 : Sts := zA 2 (.mv (.c (.slice none 0 0)))<|.nil
def Cj4 : Sts := zB 4 0<|zA 5 (.call 166 [(.t 4)])<|zB 3 5<|.nil
def Cj5 : Sts := zB 6 3<|zA 7 (.call 167 [(.t 6)])<|.nil
def Cj6 : Sts := zB 8 3<|zB 2 8<|.nil
def Eq6 : RFun := ⟨9, [0, 2, 3], (.seq (.reg Cj3) (.seq (.reg Cj4) (.seq (.reg Cj5) (.seq (.reg Cj6) .ret)))), [.tmp 2]⟩
theorem Q112_ok : Aj Tryz.prog [0, 2, 3] [15, 20, 31, 71, 88, 41, 76, 86, 65, 83, 81, 114, 117, 119, 122, 68, 100, 103, 104, 105, 137, 138, 64, 72, 96, 99, 158, 159, 132, 56, 93, 94, 130, 131, 155, 62, 23, 170] 156 = some Eq6 := by kernel_rfl

def Cj7 : Sts := zA 1 (.box 34 (.t 0))<|zA 2 (.mv (.c .nilFunc))<|.nil
def Cj8 : Sts := zA 3 (.mkfn 168 [] [(.t 1)])<|zB 2 3<|.nil
def Eq7 : RFun := ⟨4, [0, 1, 2], (.seq (.reg Cj7) (.seq (.reg Cj8) .ret)), [.tmp 2]⟩
theorem Q113_ok : Aj Tryz.prog [0, 1, 2] [15, 20, 31, 71, 88, 41, 76, 86, 65, 83, 81, 114, 117, 119, 122, 68, 100, 103, 104, 105, 137, 138, 64, 72, 96, 99, 158, 159, 132, 56, 93, 94, 130, 131, 155, 62, 23, 170] 157 = some Eq7 := by kernel_rfl

def Eq8 : Sts := zA 2 (.mv (.c (.bool false)))<|zG 3 0<|.nil
def Eq9 : Sts := zB 4 0<|zA 5 (.call 96 [(.t 4)])<|zA 6 (.notb (.t 5))<|.nil
def Er0 : Sts := zA 2 (.mv (.c (.bool false)))<|zG 3 1<|.nil
def Er1 : Sts := zB 7 0<|zA 8 (.call 132 [(.t 7)])<|zA 9 (.bin .and (.t 8) (zN 2))<|zA 10 (.bin .neq (.t 9) (zN 0))<|zB 2 10<|zG 3 0<|.nil
def Q94 : RFun := ⟨11, [0, 2, 3], (.seq (.reg Eq8) (.seq (.seq (.reg Eq9) (.cond (.t 6) (.seq (.reg Er0) .ret) .skip)) (.seq (.reg Er1) .ret))), [.tmp 2, .tmp 3]⟩
theorem Q94_ok : Aj Tryz.prog [0, 2, 3] [15, 20, 31, 71, 88, 41, 76, 86, 65, 83, 81, 114, 117, 119, 122, 68, 100, 103, 104, 105, 137, 138, 64, 72, 96, 99, 158, 159, 132, 56, 93, 94, 130, 131, 155, 62, 23, 170] 158 = some Q94 := by kernel_rfl

def Er2 : Sts := zA 2 (.mv (.c (.bool false)))<|zG 3 0<|.nil
def Er3 : Sts := zB 4 0<|zA 5 (.call 96 [(.t 4)])<|zA 6 (.notb (.t 5))<|.nil
def Er4 : Sts := zA 2 (.mv (.c (.bool false)))<|zG 3 1<|.nil
def Er5 : Sts := zB 7 0<|zA 8 (.call 132 [(.t 7)])<|zA 9 (.bin .and (.t 8) (zN 1))<|zA 10 (.bin .neq (.t 9) (zN 0))<|zB 2 10<|zG 3 0<|.nil
def Q91 : RFun := ⟨11, [0, 2, 3], (.seq (.reg Er2) (.seq (.seq (.reg Er3) (.cond (.t 6) (.seq (.reg Er4) .ret) .skip)) (.seq (.reg Er5) .ret))), [.tmp 2, .tmp 3]⟩
theorem Q91_ok : Aj Tryz.prog [0, 2, 3] [15, 20, 31, 71, 88, 41, 76, 86, 65, 83, 81, 114, 117, 119, 122, 68, 100, 103, 104, 105, 137, 138, 64, 72, 96, 99, 158, 159, 132, 56, 93, 94, 130, 131, 155, 62, 23, 170] 159 = some Q91 := by kernel_rfl

def Cj9 : Sts := zA 2 (.mv (.c (.slice none 0 0)))<|.nil
def Ck0 : Sts := zB 3 0<|zA 4 (.call 172 [(.c (.slice none 0 0)), (.t 3)])<|zB 2 4<|.nil
def Er6 : RFun := ⟨5, [0, 2], (.seq (.reg Cj9) (.seq (.reg Ck0) .ret)), [.tmp 2]⟩
theorem Q102_ok : Aj Tryz.prog [0, 2] [15, 20, 31, 71, 88, 41, 76, 86, 65, 83, 81, 114, 117, 119, 122, 68, 100, 103, 104, 105, 137, 138, 64, 72, 96, 99, 158, 159, 132, 56, 93, 94, 130, 131, 155, 62, 23, 170] 166 = some Er6 := by kernel_rfl

def Ck1 : Sts := zA 5 (zK 1)<|zA 6 (zM 5)<|zG 7 0<|.nil
def Ck2 : Sts := zA 8 (.bin .lss (.t 7) (.t 6))<|.nil
def Ck3 : Sts := zA 9 (zH 1 5 7)<|zA 10 (zJ 9)<|zB 4 10<|.nil
def Ck4 : Sts := zB 11 0<|zB 12 4<|zA 13 (.callv (.t 11) [(.t 12)])<|zA 14 (.notb (.t 13))<|.nil
def Ck5 : Sts := zA 15 (.bin .add (.t 7) (zN 1))<|zB 7 15<|.nil
def Ar2 : RCode := (.seq (.reg Ck2) (.seq (.cond (.t 8) .skip (.exit 0)) (.seq (.block 1 (.seq (.reg Ck3) (.seq (.reg Ck4) (.cond (.t 14) .ret .skip)))) (.reg Ck5))))
def Cm7 : RFun := ⟨16, [0, 1, 4, 5, 6, 7], (.seq (.reg Ck1) (.block 0 (.loop Ar2))), []⟩
theorem Q114_ok : Aj Tryz.prog [0, 1, 4, 5, 6, 7] [15, 20, 31, 71, 88, 41, 76, 86, 65, 83, 81, 114, 117, 119, 122, 68, 100, 103, 104, 105, 137, 138, 64, 72, 96, 99, 158, 159, 132, 56, 93, 94, 130, 131, 155, 62, 23, 170] 168 = some Cm7 := by kernel_rfl

def Er7 : Sts := zA 2 (.box 34 (.t 0))<|zA 4 (.mv (.c (.slice none 0 0)))<|.nil
def Er8 : Sts := zB 6 1<|.nil
def Er9 : Sts := zB 5 7<|.nil
def Es0 : Sts := zA 8 (zK 2)<|zB 9 5<|zA 10 (.buildSl 3 1 [(.int .i64 0)] [(0, 1, (.t 9))])<|zA 11 (.append 3 1 8 [(.int .i64 0)] (.t 8) (.t 10))<|.op none (.store 1 (.t 2) (.t 11))<|.nil
def D8 : RCode := (.reg Er9)
def D9 : RCode := (.block 1 (.reg Es0))
def Es1 : Sts := zA 12 (zK 2)<|zB 4 12<|.nil
def Q98 : RFun := ⟨13, [0, 1, 2, 4, 5, 6, 7], (.seq (.reg Er7) (.seq (.seq (.reg Er8) (.block 0 (.rangeF (.t 6) [7] D8 D9))) (.seq (.reg Es1) .ret))), [.tmp 4]⟩
theorem Q98_ok : Aj Tryz.prog [0, 1, 2, 4, 5, 6, 7] [15, 20, 31, 71, 88, 41, 76, 86, 65, 83, 81, 114, 117, 119, 122, 68, 100, 103, 104, 105, 137, 138, 64, 72, 96, 99, 158, 159, 132, 56, 93, 94, 130, 131, 155, 62, 23, 170] 172 = some Q98 := by kernel_rfl

end Go.EV

namespace Go.EV
open Go.Proofs
abbrev vi (n : Int) : Value := .int .i64 n
abbrev vb (b : Bool) : Value := .bool b
def Ar3 (o : Int) : Int := if o = 4 then 7 else o
def Bq (o : Int) : Bool := decide (0 ≤ o) && decide (o < 5)
def Ag3 (k o : Int) : Bool :=
 if k = 0 then !decide (o = 2) && !decide (o = 3) else if k = 1 then !decide (o = 1) && !decide (o = 3) else if k = 5 then !decide (o = 0) else true
section
variable {M : Aa}
theorem Kj (o : Int) : Aq Tryz.prog 132 #[vi o] M (vi (Ar3 o)) := by
 refine Con.enter Q95_ok (args := [vi o]) (by simp [Q95]) fun w0 => ?_
 simp only [Q95, A3]
 repeat' first
   | refine EV.seq ?_
   | refine EV.skip ?_
   | refine rg ?_
   | (refine cX (fun h => ?_) (fun h => ?_) <;> try exact Ah h)
   | refine rt Q95_ok ?_
   | exact ⟨⟩
   | fail
 all_goals simp_all [Ar3]
theorem E1 (o : Int) : Aq Tryz.prog 96 #[vi o] M (vb (Bq o)) := by
 refine Con.enter Q96_ok (args := [vi o]) (by simp [Q96]) fun w0 => ?_
 simp only [Q96, A3]
 repeat' first
   | refine EV.seq ?_
   | refine rg ?_
   | with_reducible assumption
   | (refine Az.merge ?_ (fun hc K' hK => ?_) ?_; rotate_left)
   | refine rt Q96_ok ?_
   | exact ⟨⟩
   | fail
 all_goals simp_all [Bq]
theorem Tz (k o : Int) : Aq Tryz.prog 99 #[vi k, vi o] M (vb (Ag3 k o)) := by
 refine Con.enter Q97_ok (args := [vi k, vi o]) (by simp [Q97]) fun w0 => ?_
 simp only [Q97, A3]
 repeat' first
   | refine EV.seq ?_
   | refine EV.skip ?_
   | refine EV.block ?_
   | refine EV.inBlock ?_
   | refine rg ?_
   | with_reducible assumption
   | (refine Az.merge ?_ (fun hc K' hK => ?_) ?_; rotate_left)
   | (refine cX (fun h => ?_) (fun h => ?_) <;> try exact Ah h)
   | refine rt Q97_ok ?_
   | exact ⟨⟩
   | fail
 all_goals simp_all [Ag3]
def Te (k o : Int) : Bool := decide (0 ≤ k) && decide (k < 6) && Bq o
theorem Ly (k o : Int) : Aq Tryz.prog 64 #[vi k, vi o] M (.tuple #[vb (Te k o && Ag3 k o), vi (if Te k o then 0 else 1)]) := by
 refine Con.enter Q92_ok (args := [vi k, vi o]) (by simp [Q92]) fun w0 => ?_
 simp only [Q92, A3]
 repeat' first
   | refine EV.seq ?_
   | refine EV.skip ?_
   | refine rg ?_
   | ((first | refine Aq.call (Tz _ _) ?_ | refine Aq.call (E1 _) ?_ | fail); try refine nx ?_)
   | with_reducible assumption
   | (refine Az.merge ?_ (fun hc K' hK => ?_) ?_; rotate_left)
   | (refine cX (fun h => ?_) (fun h => ?_) <;> try exact Ah h)
   | refine rt Q92_ok ?_
   | exact ⟨⟩
   | fail
 all_goals (simp [Te]; grind)
def Cm8 (o : Int) : Bool := decide (o = 1) || decide (o = 3) || decide (o = 4)
def Cm9 (o : Int) : Bool := decide (o = 2) || decide (o = 3) || decide (o = 4)
theorem Dg {o : Int} (h : Bq o = true) : o = 0 ∨ o = 1 ∨ o = 2 ∨ o = 3 ∨ o = 4 := by
 simp [Bq] at h; omega
theorem Ld (o : Int) (ho : Bq o = true) : Aq Tryz.prog 159 #[vi o] M (.tuple #[vb (Cm8 o), vi 0]) := by
 refine Con.enter Q91_ok (args := [vi o]) (by simp [Q91]) fun w0 => ?_
 simp only [Q91, A3]
 repeat' first
   | refine EV.seq ?_
   | refine EV.skip ?_
   | refine rg ?_
   | ((first | refine Aq.call (Kj _) ?_ | refine Aq.call (E1 _) ?_ | fail); try refine nx ?_)
   | (refine cX (fun h => ?_) (fun h => ?_) <;> try exact Ah h)
   | refine rt Q91_ok ?_
   | exact ⟨⟩
   | fail
 all_goals (first | (cases (ho.symm.trans h); done) | (rcases Dg ho with rfl | rfl | rfl | rfl | rfl <;> (congr 3 <;> decide)))
theorem Lf (o : Int) (ho : Bq o = true) : Aq Tryz.prog 158 #[vi o] M (.tuple #[vb (Cm9 o), vi 0]) := by
 refine Con.enter Q94_ok (args := [vi o]) (by simp [Q94]) fun w0 => ?_
 simp only [Q94, A3]
 repeat' first
   | refine EV.seq ?_
   | refine EV.skip ?_
   | refine rg ?_
   | ((first | refine Aq.call (Kj _) ?_ | refine Aq.call (E1 _) ?_ | fail); try refine nx ?_)
   | (refine cX (fun h => ?_) (fun h => ?_) <;> try exact Ah h)
   | refine rt Q94_ok ?_
   | exact ⟨⟩
   | fail
 all_goals (first | (cases (ho.symm.trans h); done) | (rcases Dg ho with rfl | rfl | rfl | rfl | rfl <;> (congr 3 <;> decide)))
def Ie (k o : Int) : Int := if o ≠ 4 then o else if k = 0 then 1 else if k = 1 then 2 else 3
theorem P0 (k o : Int) (hk : Te k o = true) (hm : Ag3 k o = true) (h5 : k ≠ 5) : Aq Tryz.prog 72 #[vi k, vi o] M (.tuple #[vi (Ie k o), vi 0]) := by
 refine Con.enter Q93_ok (args := [vi k, vi o]) (by simp [Q93]) fun w0 => ?_
 simp only [Q93, A3]
 repeat' first
   | refine EV.seq ?_
   | refine EV.skip ?_
   | refine EV.block ?_
   | refine EV.inBlock ?_
   | refine rg ?_
   | (refine Aq.call (Ly _ _) ?_; try refine nx ?_)
   | with_reducible assumption
   | (refine Az.merge ?_ (fun hc K' hK => ?_) ?_; rotate_left)
   | (refine cX (fun h => ?_) (fun h => ?_) <;> try exact Ah h)
   | refine rt Q93_ok ?_
   | exact ⟨⟩
   | fail
 all_goals simp_all [Ie]
structure OpV where
 kind : Int
 loc : Int
 v : Int
 w : Int
 ord : Int
 deriving DecidableEq
abbrev Be (o : OpV) : List Value := [vi o.kind, vi o.loc, vi o.v, vi o.w, vi o.ord]
abbrev vop (o : OpV) : Value := .agg #[vi o.kind, vi o.loc, vi o.v, vi o.w, vi o.ord]
def Ox (n : Int) : Bool := decide (0 ≤ n) && decide (n ≤ 9)
theorem N0 (n : Int) : Aq Tryz.prog 100 #[vi n] M (vb (Ox n)) := by
 refine Con.enter Q53_ok (args := [vi n]) (by simp [Q53]) fun w0 => ?_
 simp only [Q53, A3]
 repeat' first
   | refine EV.seq ?_
   | refine rg ?_
   | with_reducible assumption
   | (refine Az.merge ?_ (fun hc K' hK => ?_) ?_; rotate_left)
   | refine rt Q53_ok ?_
   | exact ⟨⟩
   | fail
 all_goals simp_all [Ox]
def Bh (o : OpV) : Bool := decide (0 ≤ o.kind) && decide (o.kind ≤ 4)
theorem E2 (o : OpV) : Aq Tryz.prog 71 #[vop o] M (vb (Bh o)) := by
 refine Con.enter Q52_ok (args := [vop o]) (by simp [Q52]) fun w0 => ?_
 simp only [Q52, A3]
 repeat' first
   | refine EV.seq ?_
   | refine rg ?_
   | with_reducible assumption
   | (refine Az.merge ?_ (fun hc K' hK => ?_) ?_; rotate_left)
   | refine rt Q52_ok ?_
   | ((first | with_reducible intro b | refine xiA rfl ?_ | fail); try refine nx ?_)
   | exact ⟨⟩
   | fail
 all_goals simp_all [Bh]
def Wk (o : OpV) : Bool :=
 decide (0 ≤ o.loc) && decide (o.loc < 3) &&
 (if o.kind = 0 then decide (o.v = 0) && decide (o.w = 0) else if o.kind = 1 then Ox o.v && decide (o.w = 0) else if o.kind = 2 then decide (-9 ≤ o.v) && decide (o.v ≤ 9) && decide (o.w = 0)
  else if o.kind = 3 ∨ o.kind = 4 then Ox o.v && Ox o.w else if o.kind = 5 then decide (o.loc = 0) && decide (o.v = 0) && decide (o.w = 0) else false)
theorem P1 (o : OpV) : Aq Tryz.prog 65 #[vop o] M (vb (Wk o)) := by
 refine Con.enter Q54_ok (args := [vop o]) (by simp [Q54]) fun w0 => ?_
 simp only [Q54, A3]
 repeat' first
   | refine EV.seq ?_
   | refine EV.skip ?_
   | refine EV.block ?_
   | refine EV.inBlock ?_
   | refine rg ?_
   | (refine Aq.call (N0 _) ?_; try refine nx ?_)
   | with_reducible assumption
   | (refine Az.merge ?_ (fun hc K' hK => ?_) ?_; rotate_left)
   | (refine cX (fun h => ?_) (fun h => ?_) <;> try exact Ah h)
   | refine rt Q54_ok ?_
   | ((first | with_reducible intro b | refine xiA rfl ?_ | fail); try refine nx ?_)
   | exact ⟨⟩
   | fail
 all_goals (simp [Wk]; grind)
end
end Go.EV
