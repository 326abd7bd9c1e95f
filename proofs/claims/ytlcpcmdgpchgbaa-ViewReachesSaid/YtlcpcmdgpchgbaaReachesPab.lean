/- The calculus EV, part 15: regions and functions, resolved by reckoning. The calculus EV, part 16: what simp reckons. The calculus EV, part 17: helpers of proofs. The program's functions, resolved. Memory orders: what the functions of the package order compute. Litmus programs: what the functions of the package litmus compute. -/
import Derived.Test.YtlcpcmdgpchgbaaReachesPaa
import Derived.Test.YtlcpcmdgpchgbaaProg
set_option linter.unusedSimpArgs false
set_option linter.unusedVariables false
namespace Go.EV
variable {P : Program}

def findPick (ops : Array Oper) (s : Nat) (g : Option (Nat × Bool)) : Nat → Nat → Option Nat
  | _, 0 => none
  | i, n + 1 => match ops[i]? with
    | some o => if o.guard = g then (match o.op with
        | .pick (.tmp s') _ _ => if s' = s then some i else findPick ops s g (i + 1) n
        | _ => findPick ops s g (i + 1) n) else findPick ops s g (i + 1) n
    | none => none

def pickOf (want : Bool) (s : Nat) : Op → Option Operand
  | .pick (.tmp s') x y => if s' = s then (if want then (match y with | .const (.bool false) => some x | _ => none) else (match x with | .const (.bool true) => some y | _ => none)) else none
  | _ => none

theorem pickOf_ok {want : Bool} {s : Nat} {op : Op} {x : Operand} (h : pickOf want s op = some x) : op = if want then .pick (.tmp s) x (.const (.bool false)) else .pick (.tmp s) (.const (.bool true)) x := by
  unfold pickOf at h
  split at h
  · split at h
    · rename_i e
      subst e
      split at h
      · rename_i hw
        split at h
        · cases h; simp [hw]
        · cases h
      · rename_i hw
        split at h
        · cases h; simp [hw]
        · cases h
    · cases h
  · cases h

def okG (g : Option (Nat × Bool)) (i : Nat) : Bool :=
  match g with
  | none => true
  | some p => decide (p.1 < i)

theorem okG_ok {g : Option (Nat × Bool)} {i : Nat} (h : okG g i = true) : ∀ p, g = some p → p.1 < i := by
  intro p e; subst e; simpa [okG] using h

def isDefer : Op → Bool
  | .defer _ => true
  | _ => false

def dstOk (d : Option Nat) (nt : Nat) : Bool :=
  match d with
  | none => true
  | some d => decide (d < nt)

def inOk (g : Option (Nat × Bool)) (og : Oper) (i0 gi : Nat) : Bool :=
  match g with
  | none => true
  | some _ => decide (i0 ≤ gi) && decide (og.guard = g)

def compS (P : Program) (ops : Array Oper) (nt : Nat) : Nat → Option (Nat × Bool) → Nat → Nat → Nat → Option Sts
  | 0, _, _, _, _ => none
  | fuel + 1, g, i0, i, j =>
    if i = j then some .nil else
    (ops[i]?).bind fun o =>
    if o.guard = g then
      (if (okG g i && dstOk o.dst nt && !isDefer o.op) = true then (comp P o).bind fun r => (compS P ops nt fuel g i0 (i + 1) j).bind fun rest => some (.op o.dst r rest) else none)
    else match o.guard with
      | none => none
      | some (gi, want) => (ops[gi]?).bind fun og => og.dst.bind fun s => (findPick ops s g i (j - i)).bind fun m => (ops[m]?).bind fun p => p.dst.bind fun d =>
          (pickOf want s p.op).bind fun x => (cA x).bind fun last =>
          if (decide (gi < i) && inOk g og i0 gi && okG g i && decide (p.guard = g) && decide (d < nt)) = true then
            (compS P ops nt fuel (some (gi, want)) i i m).bind fun body => (compS P ops nt fuel g i0 (m + 1) j).bind fun rest => some (.cnd s want body d last rest)
          else none

theorem compS_ok {ops : Array Oper} {nt : Nat} : ∀ {fuel : Nat} {g : Option (Nat × Bool)} {i0 i j : Nat} {sts : Sts}, compS P ops nt fuel g i0 i j = some sts → CmpS P ops nt g i0 i j sts
  | 0, g, i0, i, j, sts, h => by simp [compS] at h
  | fuel + 1, g, i0, i, j, sts, h => by
    unfold compS at h
    split at h
    · rename_i e; cases h; subst e; exact .nil
    · simp only [Option.bind_eq_some_iff] at h
      obtain ⟨o, ho, h⟩ := h
      split at h
      · rename_i hg
        split at h
        · rename_i hc
          simp only [Bool.and_eq_true] at hc
          obtain ⟨⟨h1, h2⟩, h3⟩ := hc
          simp only [Option.bind_eq_some_iff] at h
          obtain ⟨r, hr, rest, hrest, e⟩ := h
          cases e
          refine .op ho hg (okG_ok h1) (comp_ok hr) ?_ ?_ (compS_ok hrest)
          · intro c e; simp [isDefer, e] at h3
          · intro d e; simpa [dstOk, e] using h2
        · cases h
      · split at h
        · cases h
        · rename_i gi want hgd
          simp only [Option.bind_eq_some_iff] at h
          obtain ⟨og, hog, s, hs, m, hm, p, hp, d, hd, x, hx, last, hl, h⟩ := h
          split at h
          · rename_i hc
            simp only [Bool.and_eq_true, decide_eq_true_eq] at hc
            obtain ⟨⟨⟨⟨h1, h2⟩, h3⟩, h4⟩, h5⟩ := hc
            simp only [Option.bind_eq_some_iff] at h
            obtain ⟨body, hb, rest, hr, e⟩ := h
            cases e
            refine .cnd hog hs h1 ?_ (okG_ok h3) (compS_ok hb) hp h4 (pickOf_ok hx) hl hd h5 (compS_ok hr)
            intro hsome
            cases g with
            | none => simp at hsome
            | some q => simpa [inOk] using h2
          · cases h

def oneDstB (ops : Array Oper) : Bool :=
  (List.range ops.size).all fun t => (List.range ops.size).all fun t' =>
    t == t' || (match (ops[t]?).bind (·.dst), (ops[t']?).bind (·.dst) with | some d, some d' => !(d == d') | _, _ => true)

theorem oneDst_ok {ops : Array Oper} (h : oneDstB ops = true) : OneDst ops := by
  intro t t' o o' d ho ho' hd hd'
  have h1 : t < ops.size := (Array.getElem?_eq_some_iff.1 ho).1
  have h2 : t' < ops.size := (Array.getElem?_eq_some_iff.1 ho').1
  have h3 := List.all_eq_true.1 (List.all_eq_true.1 h t (List.mem_range.2 h1)) t' (List.mem_range.2 h2)
  simpa [ho, ho', hd, hd'] using h3

def guardV (ops : Array Oper) (V : List Nat) : Bool :=
  ops.toList.all fun o => match o.guard, o.dst with | some _, some d => !V.contains d | _, _ => true

theorem guardV_ok {ops : Array Oper} {V : List Nat} (h : guardV ops V = true) : ∀ (t : Nat) (o : Oper) (d : Nat), ops[t]? = some o → o.dst = some d → o.guard ≠ none → d ∉ V := by
  intro t o d ho hd hg hm
  have := List.all_eq_true.1 h o (by simpa using Array.mem_of_getElem? ho)
  cases hgg : o.guard with
  | none => exact hg hgg
  | some g => simp [hgg, hd, hm] at this


def depsIn (o : Oper) (D : Nat) : Bool := o.after.toList.all fun e => !Region.binds .any e || bit D e.on

theorem depsIn_ok {ops : Array Oper} {i D : Nat} {o : Oper} (ho : ops[i]? = some o) (h : depsIn o D = true) : ∀ p, dep ops p i → bit D p = true := by
  rintro p ⟨o', ho', e, he, hb, rfl⟩
  rw [ho] at ho'; cases ho'
  have := List.all_eq_true.1 h e he
  simpa [hb] using this

theorem depsIn_no {ops : Array Oper} {i D : Nat} {o : Oper} (ho : ops[i]? = some o) (h : depsIn o D = false) : ∃ p, dep ops p i ∧ bit D p = false := by
  simp only [depsIn, List.all_eq_false] at h
  obtain ⟨e, he, h⟩ := h
  simp at h
  exact ⟨e.on, ⟨o, ho, e, he, h.1, rfl⟩, h.2⟩

def upMask (l : List Nat) (o : Oper) : Nat := o.after.toList.foldl (fun m e => if Region.binds .any e then m ||| (1 <<< e.on) ||| l.getD e.on 0 else m) 0

def ups (ops : Array Oper) : Nat → List Nat
  | 0 => []
  | n + 1 => let l := ups ops n; l ++ [match ops[n]? with | some o => upMask l o | none => 0]

theorem ups_length (ops : Array Oper) : ∀ n, (ups ops n).length = n
  | 0 => rfl
  | n + 1 => by simp [ups, ups_length ops n]

theorem upMask_ok {ops : Array Oper} {n : Nat} {o : Oper} (ho : ops[n]? = some o) {l : List Nat} (hl : ∀ i j, bit (l.getD j 0) i = true → Bef ops i j) {i : Nat} (h : bit (upMask l o) i = true) : Bef ops i n := by
  have key : ∀ (es : List Edge) (m : Nat), (∀ e ∈ es, e ∈ o.after.toList) → (bit m i = true → Bef ops i n) → bit (es.foldl (fun m e => if Region.binds .any e then m ||| (1 <<< e.on) ||| l.getD e.on 0 else m) m) i = true → Bef ops i n := by
    intro es
    induction es with
    | nil => intro m _ hm h; exact hm h
    | cons e es ih =>
      intro m hes hm h
      refine ih _ (fun e' he' => hes e' (by simp [he'])) ?_ h
      intro hb
      dsimp only at hb
      split at hb
      · rename_i hbd
        simp only [bit, Nat.testBit_or, Nat.one_shiftLeft, Nat.testBit_two_pow, Bool.or_eq_true, decide_eq_true_eq] at hb
        have hd : dep ops e.on n := ⟨o, ho, e, hes e (by simp), hbd, rfl⟩
        rcases hb with (hb | hb) | hb
        · exact hm hb
        · subst hb; exact .one hd
        · exact .step (hl _ _ hb) hd
      · exact hm hb
  exact key o.after.toList 0 (fun e he => he) (fun h => by simp [bit] at h) h

theorem ups_ok {ops : Array Oper} : ∀ n i j, bit ((ups ops n).getD j 0) i = true → Bef ops i j := by
  intro n
  induction n with
  | zero => intro i j h; simp [ups, bit] at h
  | succ n ih =>
    intro i j h
    have hlen := ups_length ops n
    simp only [ups, List.getD_eq_getElem?_getD] at h
    by_cases hj : j < n
    · rw [List.getElem?_append_left (by omega)] at h
      exact ih i j (by rw [List.getD_eq_getElem?_getD]; exact h)
    · by_cases e : j = n
      · subst e
        rw [List.getElem?_append_right (by omega), hlen, Nat.sub_self] at h
        simp only [List.getElem?_cons_zero, Option.getD_some] at h
        split at h
        · rename_i o ho; exact upMask_ok ho ih h
        · simp [bit] at h
      · rw [List.getElem?_eq_none (by simp [hlen]; omega)] at h
        simp [bit] at h

/-- An order in which all can be listed. -/
def liveB (md : Region.Mode) (ops : Array Oper) : List Nat → Nat → Bool
  | [], D => (List.range ops.size).all fun i => bit D i
  | i :: l, D => match ops[i]? with
    | some o => (o.after.toList.all fun e => !Region.binds md e || bit D e.on) && liveB md ops l (bset D i)
    | none => false

theorem liveB_ok {md : Region.Mode} {ops : Array Oper} {listed : Array Bool} (hsz : listed.size = ops.size) (hr : Region.ready md ops listed = []) : ∀ {l : List Nat} {D : Nat}, liveB md ops l D = true → (∀ i, bit D i = true → listed.getD i false = true) →
    ∀ i, i < ops.size → listed.getD i false = true
  | [], D, h, hD, i, hi => hD i (List.all_eq_true.1 h i (List.mem_range.2 hi))
  | x :: l, D, h, hD, i, hi => by
    simp only [liveB] at h
    split at h
    · rename_i o ho
      simp only [Bool.and_eq_true] at h
      refine liveB_ok hsz hr h.2 ?_ i hi
      intro j hj
      rw [bit_bset] at hj
      rcases setL_or hj with rfl | hj
      · cases hl : listed.getD j false with
        | true => rfl
        | false =>
          exfalso
          have hlt : j < listed.size := by have := (Array.getElem?_eq_some_iff.1 ho).1; omega
          have := ready_of (md := md) (listed := listed) ho (by simpa [Array.getD_eq_getD_getElem?, hlt] using hl) (fun e he hb => hD _ (by
            have := List.all_eq_true.1 h.1 e he
            simpa [hb] using this))
          rw [hr] at this; cases this
      · exact hD j hj
    · cases h

def ordL (md : Region.Mode) (ops : Array Oper) : Nat → Nat → List Nat
  | 0, _ => []
  | fuel + 1, D => match (List.range ops.size).find? fun i => !bit D i && (match ops[i]? with | some o => o.after.toList.all fun e => !Region.binds md e || bit D e.on | none => false) with
    | some i => i :: ordL md ops fuel (bset D i)
    | none => []

def liveAll (ops : Array Oper) : Bool :=
  liveB .any ops (ordL .any ops ops.size 0) 0 && liveB .text ops (ordL .text ops ops.size 0) 0 && liveB .gc ops (ordL .gc ops ops.size 0) 0

theorem liveAll_ok {ops : Array Oper} (h : liveAll ops = true) (md : Region.Mode) (listed : Array Bool) (hsz : listed.size = ops.size) (hr : Region.ready md ops listed = []) : ∀ i, i < ops.size → listed.getD i false = true := by
  simp only [liveAll, Bool.and_eq_true] at h
  obtain ⟨⟨h1, h2⟩, h3⟩ := h
  cases md
  · exact liveB_ok hsz hr h2 (by simp [bit])
  · exact liveB_ok hsz hr h3 (by simp [bit])
  · exact liveB_ok hsz hr h1 (by simp [bit])

def planB (ops : Array Oper) (nt : Nat) (us : List Nat) : Bool :=
  oneDstB ops && liveAll ops && (ops.toList.all fun o => dstOk o.dst nt && (match o.op with | .select _ _ => false | .defer _ => false | _ => true)) &&
  (List.range ops.size).all fun i => match ops[i]? with
    | none => true
    | some o => (o.after.toList.all fun e => !Region.binds .any e || decide (e.on < i)) &&
      (o.looksAt ops).all fun t => (List.range ops.size).all fun j => match (ops[j]?).bind (·.dst) with
        | some d => !(d == t) || bit (us.getD i 0) j || bit (us.getD j 0) i
        | none => true

theorem planB_ok {ops : Array Oper} {nt n : Nat} (h : planB ops nt (ups ops n) = true) : Plan ops nt := by
  simp only [planB, Bool.and_eq_true] at h
  obtain ⟨⟨⟨h1, hlive⟩, h2⟩, h3⟩ := h
  have hall : ∀ (i : Nat) (o : Oper), ops[i]? = some o → (∀ d, o.dst = some d → d < nt) ∧ (∀ cs b, o.op ≠ .select cs b) ∧ (∀ c, o.op ≠ .defer c) := by
    intro i o ho
    have := List.all_eq_true.1 h2 o (by simpa using Array.mem_of_getElem? ho)
    simp only [Bool.and_eq_true] at this
    refine ⟨fun d hd => by simpa [dstOk, hd] using this.1, fun cs b e => by simp [e] at this, fun c e => by simp [e] at this⟩
  have h3' : ∀ (i : Nat) (o : Oper), ops[i]? = some o → (∀ e ∈ o.after.toList, Region.binds .any e = true → e.on < i) ∧
      ∀ t ∈ o.looksAt ops, ∀ (j : Nat) (oj : Oper), ops[j]? = some oj → oj.dst = some t → Bef ops j i ∨ Bef ops i j := by
    intro i o ho
    have hi : i < ops.size := (Array.getElem?_eq_some_iff.1 ho).1
    have := List.all_eq_true.1 h3 i (List.mem_range.2 hi)
    simp only [ho, Bool.and_eq_true] at this
    refine ⟨fun e he hb => ?_, fun t ht j oj hj hd => ?_⟩
    · have := List.all_eq_true.1 this.1 e he
      simpa [hb] using this
    · have hj' : j < ops.size := (Array.getElem?_eq_some_iff.1 hj).1
      have := List.all_eq_true.1 (List.all_eq_true.1 this.2 t ht) j (List.mem_range.2 hj')
      simp only [hj, Option.bind_some, hd, beq_self_eq_true, Bool.not_true, Bool.false_or, Bool.or_eq_true] at this
      exact this.imp (ups_ok n _ _) (ups_ok n _ _)
  have hdown : ∀ i j, dep ops i j → i < j := by
    rintro i j ⟨o, ho, e, he, hb, rfl⟩
    exact (h3' j o ho).1 e he hb
  have hdown' : ∀ i j, Bef ops i j → i < j := by
    intro i j hb
    induction hb with
    | one h => exact hdown _ _ h
    | step _ hd ih => exact Nat.lt_trans ih (hdown _ _ hd)
  refine ⟨?_, fun i hb => by have := hdown' i i hb; omega, oneDst_ok h1, fun i o d ho hd => (hall i o ho).1 d hd, fun i o ho => (hall i o ho).2, liveAll_ok hlive⟩
  intro i j oi oj t hi hj hd ht
  exact (h3' i oi hi).2 t ht j oj hj hd

def inOkB (g : Option (Nat × Bool)) (og : Oper) (D0 gi : Nat) : Bool :=
  match g with
  | none => true
  | some _ => decide (og.guard = g) && !bit D0 gi

/-- The quiet ones that may come now, in the order of the text. -/
def takeQ (P : Program) (ops : Array Oper) (Q : List Nat) : Nat → Option (Nat × Bool) → Bool → Nat → Nat → Nat → Nat → Option (QL × Nat)
  | 0, _, _, _, _, _, _ => none
  | fuel + 1, g, must, D0, i, j, D =>
    if j ≤ i then some (.nil, D) else
    if bit D i = true then takeQ P ops Q fuel g must D0 (i + 1) j D else
    (ops[i]?).bind fun o =>
    if o.guard = g then
      (comp P o).bind fun r =>
      if (depsIn o D && quietR Q r) = true then (takeQ P ops Q fuel g must D0 (i + 1) j (bset D i)).bind fun q => some (.op i o.dst r q.1, q.2)
      else if must = true then none else takeQ P ops Q fuel g must D0 (i + 1) j D
    else match o.guard with
      | none => none
      | some (gi, want) => (ops[gi]?).bind fun og => og.dst.bind fun s => (findPick ops s g i (j - i)).bind fun m => (ops[m]?).bind fun p => p.dst.bind fun d =>
          (pickOf want s p.op).bind fun x => (cA x).bind fun last =>
          match (if bit D gi = true then takeQ P ops Q fuel (some (gi, want)) true D i m D else none) with
          | some q =>
            if (inOkB g og D0 gi && decide (p.guard = g) && !bit q.2 m && depsIn p q.2) = true then
              (takeQ P ops Q fuel g must D0 (m + 1) j (bset q.2 m)).bind fun q' => some (.g s want q.1 m d last q'.1, q'.2)
            else none
          | none => if must = true then none else takeQ P ops Q fuel g must D0 (m + 1) j D

theorem takeQ_ok {ops : Array Oper} {nt : Nat} {Q : List Nat} : ∀ {fuel : Nat} {g : Option (Nat × Bool)} {must : Bool} {D0 i j D : Nat} {q : QL × Nat}, takeQ P ops Q fuel g must D0 i j D = some q → CmpQL P ops nt Q g D0 D q.1 q.2
  | 0, g, must, D0, i, j, D, q, h => by simp [takeQ] at h
  | fuel + 1, g, must, D0, i, j, D, q, h => by
    unfold takeQ at h
    split at h
    · cases h; exact .nil
    · split at h
      · exact takeQ_ok h
      · rename_i hD
        simp only [Option.bind_eq_some_iff] at h
        obtain ⟨o, ho, h⟩ := h
        split at h
        · rename_i hg
          simp only [Option.bind_eq_some_iff] at h
          obtain ⟨r, hr, h⟩ := h
          split at h
          · rename_i hc
            simp only [Bool.and_eq_true] at hc
            simp only [Option.bind_eq_some_iff] at h
            obtain ⟨q', hq', e⟩ := h
            cases e
            exact .op ho hg (by simpa using hD) (depsIn_ok ho hc.1) (comp_ok hr) hc.2 (takeQ_ok hq')
          · split at h
            · cases h
            · exact takeQ_ok h
        · split at h
          · cases h
          · rename_i gi want hgd
            simp only [Option.bind_eq_some_iff] at h
            obtain ⟨og, hog, s, hs, m, hm, p, hp, d, hd, x, hx, last, hl, h⟩ := h
            split at h
            · rename_i q1 hq1
              split at hq1
              · rename_i hgi
                split at h
                · rename_i hc
                  simp only [Bool.and_eq_true, decide_eq_true_eq, Bool.not_eq_true'] at hc
                  obtain ⟨⟨⟨h1, h2⟩, h3⟩, h4⟩ := hc
                  simp only [Option.bind_eq_some_iff] at h
                  obtain ⟨q', hq', e⟩ := h
                  cases e
                  refine .g hog hs hgi ?_ (takeQ_ok hq1) hp h2 h3 (depsIn_ok hp h4) (pickOf_ok hx) hl hd (takeQ_ok hq')
                  intro hsome
                  cases g with
                  | none => simp at hsome
                  | some q => simpa [inOkB] using h1
                · cases h
              · cases hq1
            · split at h
              · cases h
              · exact takeQ_ok h

def mkT (P : Program) (ops : Array Oper) (Q : List Nat) (us : List Nat) : Nat → Option Nat → Nat → Option AT
  | 0, _, _ => none
  | fuel + 1, none, D => (takeQ P ops Q (ops.size + 1) none false D 0 ops.size D).bind fun q =>
      if ((List.range ops.size).all fun i => bit q.2 i) = true then some (.q q.1 .fin) else (mkT P ops Q us fuel (some 0) q.2).bind fun t => some (.q q.1 t)
  | fuel + 1, some i, D =>
      if ops.size ≤ i then some .no else
      if bit D i = true then mkT P ops Q us fuel (some (i + 1)) D else
      (ops[i]?).bind fun o =>
      if depsIn o D = true then
        if o.guard = none then (comp P o).bind fun r => (mkT P ops Q us fuel none (bset D i)).bind fun t => (mkT P ops Q us fuel (some (i + 1)) D).bind fun more =>
          some (.s i o.dst r (Nat.land D (us.getD i 0) == D) t more) else none
      else mkT P ops Q us fuel (some (i + 1)) D

theorem mkT_ok {ops : Array Oper} {nt n : Nat} {Q : List Nat} : ∀ {fuel : Nat} {mode : Option Nat} {D : Nat} {t : AT}, mkT P ops Q (ups ops n) fuel mode D = some t → CmpA P ops nt Q mode D t
  | 0, mode, D, t, h => by simp [mkT] at h
  | fuel + 1, none, D, t, h => by
    simp only [mkT, Option.bind_eq_some_iff] at h
    obtain ⟨q, hq, h⟩ := h
    split at h
    · rename_i hall
      cases h
      exact .q (takeQ_ok hq) (.fin fun i hi => List.all_eq_true.1 hall i (List.mem_range.2 hi))
    · rename_i hall
      simp only [Option.bind_eq_some_iff] at h
      obtain ⟨t', ht', e⟩ := h
      cases e
      refine .q (takeQ_ok hq) (.alts ?_ (mkT_ok ht'))
      have hall : ((List.range ops.size).all fun i => bit q.2 i) = false := by simpa using hall
      obtain ⟨i, hi, hb⟩ := List.all_eq_false.1 hall
      exact ⟨i, List.mem_range.1 hi, by simpa using hb⟩
  | fuel + 1, some i, D, t, h => by
    simp only [mkT] at h
    split at h
    · rename_i hi; cases h; exact .no hi
    · split at h
      · rename_i hD; exact .pass (.inl hD) (mkT_ok h)
      · rename_i hD
        simp only [Option.bind_eq_some_iff] at h
        obtain ⟨o, ho, h⟩ := h
        split at h
        · split at h
          · rename_i hg
            simp only [Option.bind_eq_some_iff] at h
            obtain ⟨r, hr, t', ht', more, hm, e⟩ := h
            cases e
            refine .s ho hg (by simpa using hD) (comp_ok hr) ?_ (mkT_ok ht') (mkT_ok hm)
            intro hre j hj
            have e : Nat.land D ((ups ops n).getD i 0) = D := by simpa using hre
            refine ups_ok n _ _ ?_
            have : bit (Nat.land D ((ups ops n).getD i 0)) j = true := by rw [e]; exact hj
            have h2 : bit (D &&& ((ups ops n).getD i 0)) j = true := this
            rw [bit, Nat.testBit_and, Bool.and_eq_true] at h2
            exact h2.2
          · cases h
        · rename_i hd
          exact .pass (.inr (depsIn_no ho (by simpa using hd))) (mkT_ok h)

def compC (P : Program) (nt : Nat) (V Q : List Nat) : Code → Option RCode
  | .skip => some .skip
  | .region _ ops false => if (oneDstB ops && guardV ops V) = true then (compS P ops nt (ops.size + 1) none 0 0 ops.size).bind fun s => some (.reg s) else none
  | .region _ ops true => if (planB ops nt (ups ops ops.size) && guardV ops V) = true then (mkT P ops Q (ups ops ops.size) ((ops.size + 2) * (ops.size + 2)) none 0).bind fun t => some (.any t) else none
  | .seq a b => (compC P nt V Q a).bind fun a' => (compC P nt V Q b).bind fun b' => some (.seq a' b')
  | .cond c a b => (cA c).bind fun c' => (compC P nt V Q a).bind fun a' => (compC P nt V Q b).bind fun b' => some (.cond c' a' b')
  | .block id c => (compC P nt V Q c).bind fun c' => some (.block id c')
  | .loop c => (compC P nt V Q c).bind fun c' => some (.loop c')
  | .exit id => some (.exit id)
  | .ret => some .ret
  | _ => none

theorem compC_ok {nt : Nat} {V Q : List Nat} : ∀ {c : Code} {r : RCode}, compC P nt V Q c = some r → CmpC P nt V c r := by
  intro c
  induction c with
  | skip => intro r h; cases h; exact .skip
  | region id ops draw =>
    intro r h
    cases draw with
    | true =>
      simp only [compC] at h
      split at h
      · rename_i hc
        simp only [Bool.and_eq_true] at hc
        simp only [Option.bind_eq_some_iff] at h
        obtain ⟨t, ht, e⟩ := h
        cases e
        exact .any (planB_ok hc.1) (mkT_ok ht) (guardV_ok hc.2)
      · cases h
    | false =>
      simp only [compC] at h
      split at h
      · rename_i hc
        simp only [Bool.and_eq_true] at hc
        simp only [Option.bind_eq_some_iff] at h
        obtain ⟨s, hs, e⟩ := h
        cases e
        exact .reg (compS_ok hs) (oneDst_ok hc.1) (guardV_ok hc.2)
      · cases h
  | seq a b iha ihb =>
    intro r h
    simp only [compC, Option.bind_eq_some_iff] at h
    obtain ⟨a', ha, b', hb, e⟩ := h
    cases e; exact .seq (iha ha) (ihb hb)
  | cond c a b iha ihb =>
    intro r h
    simp only [compC, Option.bind_eq_some_iff] at h
    obtain ⟨c', hc, a', ha, b', hb, e⟩ := h
    cases e; exact .cond hc (iha ha) (ihb hb)
  | block id c ih =>
    intro r h
    simp only [compC, Option.bind_eq_some_iff] at h
    obtain ⟨c', hc, e⟩ := h
    cases e; exact .block (ih hc)
  | loop c ih =>
    intro r h
    simp only [compC, Option.bind_eq_some_iff] at h
    obtain ⟨c', hc, e⟩ := h
    cases e; exact .loop (ih hc)
  | exit id => intro r h; cases h; exact .exit
  | ret => intro r h; cases h; exact .ret
  | _ => intro r h; cases h

def compR (P : Program) : ResultVar → Option RRes
  | .tmp t => some (.tmp t)
  | .cell t T => match aggT P T with
    | some true => (szP P T).bind fun sz => some (.cellA t sz)
    | some false => some (.cell1 t)
    | none => none

theorem compR_ok {x : ResultVar} {y : RRes} (h : compR P x = some y) : CmpR P x y := by
  cases x with
  | tmp t => cases h; exact .tmp
  | cell t T =>
    simp only [compR] at h
    split at h
    · rename_i ha
      simp only [Option.bind_eq_some_iff] at h
      obtain ⟨sz, hs, e⟩ := h
      cases e; exact .cellA ha hs
    · rename_i ha; cases h; exact .cell1 ha
    · cases h

def compRs (P : Program) : List ResultVar → Option (List RRes)
  | [] => some []
  | x :: l => (compR P x).bind fun y => (compRs P l).bind fun m => some (y :: m)

theorem compRs_ok : ∀ {l : List ResultVar} {m : List RRes}, compRs P l = some m → CmpRs P l m
  | [], m, h => by cases h; exact .nil
  | x :: l, m, h => by
    simp only [compRs, Option.bind_eq_some_iff] at h
    obtain ⟨y, hy, m', hm, e⟩ := h
    cases e; exact .cons (compR_ok hy) (compRs_ok hm)

/-- A function, resolved: its temporaries, its variables, its body, its results. -/
structure RFun where
  nt : Nat
  V : List Nat
  body : RCode
  res : List RRes

def compF (P : Program) (V Q : List Nat) (f : FuncId) : Option RFun :=
  if isGo P f = true then
    (P.funcs[f]?).bind fun fn => fn.body.bind fun c => (compC P fn.ntmps V Q c).bind fun r => (compRs P fn.results.toList).bind fun res => some ⟨fn.ntmps, V, r, res⟩
  else none

/-- The activation of a function: where it is to come is a return of which Φ holds. -/
def Cx.fn (P : Program) (f : FuncId) (nt : Nat) (w0 : World) (F : List Nat) (M0 : PHeap) (Φ : Value → PHeap → Own → Prop) : Cx P where
  b := { (default : Frame) with fn := f, kind := .normal, roundOf := none }
  T := fun cs m => ∃ e w' fr, (∃ v, e = Ending.returned v ∧ ∃ M' G', EV.St w0 F M0 M' G' w' ∧ Φ v M' G') ∧ Comes P m (lone fr cs w') e ∧ fr.fn = f ∧ fr.leaving P w' e
  back := by
    rintro cs m m' hs ⟨e, w', fr, h1, h2, h3, h4⟩
    exact ⟨e, w', fr, h1, Comes.of_steps (.one hs) h2, h3, h4⟩
  nt := nt
  ds := []
  w0 := w0
  F := F
  M0 := M0

def argE : Nat → List Value → Env
  | _, [] => []
  | i, v :: l => (i, v) :: argE (i + 1) l

theorem get_argE {l : List Value} : ∀ {i t : Nat} {v : Value}, get (argE i l) t = some v → i ≤ t ∧ l[t - i]? = some v := by
  induction l with
  | nil => intro i t v h; simp [argE, get] at h
  | cons u l ih =>
    intro i t v h
    simp only [argE, get] at h
    split at h
    · rename_i e; subst e; cases h; simp
    · rename_i e
      obtain ⟨h1, h2⟩ := ih h
      refine ⟨by omega, ?_⟩
      have : t - i = (t - (i + 1)) + 1 := by omega
      rw [this]; simpa using h2

/-- A contract out of the walk of the body. -/
theorem Con.enter {f : FuncId} {V Q : List Nat} {R : RFun} (hR : compF P V Q f = some R) {args : List Value} (hlen : args.length ≤ R.nt) {M : PHeap} {G : Own} {Φ : Value → PHeap → Own → Prop}
    (h : ∀ w0, EV (Cx.fn P f R.nt w0 (G.map (·.1)) M Φ) R.V [.code R.body] (argE 0 args) M G) : Con P f args.toArray M G Φ := by
  unfold compF at hR
  split at hR
  · rename_i hgo
    simp only [Option.bind_eq_some_iff] at hR
    obtain ⟨fn, hfn, c, hc, r, hr, res, hres, e⟩ := hR
    cases e
    refine ⟨hgo, ?_⟩
    intro w hs cs
    have hE := h w [.code c] (.cons (.code (compC_ok hr)) .nil) { tmps := args.toArray ++ Array.replicate (fn.ntmps - args.toArray.size) undef, defers := [] } w
    have hfit : Fits fn.ntmps (argE 0 args) { tmps := args.toArray ++ Array.replicate (fn.ntmps - args.toArray.size) undef, defers := [] } := by
      refine ⟨?_, ?_⟩
      · simp only [Array.size_append, Array.size_replicate, List.size_toArray]
        dsimp only at hlen
        omega
      · intro t v ht
        obtain ⟨_, h2⟩ := get_argE ht
        simp only [Nat.sub_zero] at h2
        obtain ⟨hlt, _⟩ := List.getElem?_eq_some_iff.1 h2
        rw [Array.getElem?_append_left (by simpa using hlt)]
        simpa using h2
    have := hE hfit rfl hs cs
    have hframe : Frame.enter P f args.toArray .normal = (Cx.fn P f fn.ntmps w (G.map (·.1)) M Φ).b.atR { tmps := args.toArray ++ Array.replicate (fn.ntmps - args.toArray.size) undef, defers := [] } [.code c] := by
      simp only [Frame.enter, Frame.atR, Cx.fn, hfn, Option.map_some, Option.getD_some, Option.bind_some, hc]
    rw [hframe]
    exact this
  · cases hR

section
variable {f : FuncId} {w0 : World} {F : List Nat} {M0 M : PHeap} {G : Own} {Φ : Value → PHeap → Own → Prop} {V Q : List Nat} {k : List RItem} {ρ : Env}

/-- What a return asks. -/
def retW (R : RFun) (ρ : Env) (M : PHeap) (G : Own) (Φ : Value → PHeap → Own → Prop) : Prop := resW ρ (M.add G) R.res fun vs => Φ (retV vs) M G

theorem EV.ret {R : RFun} (hR : compF P V Q f = some R) (h : retW R ρ M G Φ) : EV (Cx.fn P f R.nt w0 F M0 Φ) R.V (.code .ret :: k) ρ M G := by
  unfold compF at hR
  split at hR
  · rename_i hgo
    simp only [Option.bind_eq_some_iff] at hR
    obtain ⟨fn, hfn, c, hc, r, hr, res, hres, e⟩ := hR
    cases e
    intro k' hk a w hf hd hs cs
    cases hk with
    | cons hx hk => cases hx with
      | code hc => cases hc with
        | ret =>
          obtain ⟨v, hv, hΦ⟩ := run_results (P := P) (fn := fn) (Q := fun v => Φ v M G) hf (fun b o hb => hs.agreeAdd hb) (compRs_ok hres) h
          refine ⟨.returned v, w, { (Cx.fn P f fn.ntmps w0 F M0 Φ).b.atR a (.code .ret :: _) with mode := .returning }, ⟨v, rfl, M, G, hs, hΦ⟩, .one (stepR_ret rfl), rfl, ?_⟩
          exact ⟨rfl, hd, rfl, fn, hfn, hv⟩
  · cases hR

theorem EV.done {R : RFun} (hR : compF P V Q f = some R) (h : retW R ρ M G Φ) : EV (Cx.fn P f R.nt w0 F M0 Φ) R.V [] ρ M G := by
  unfold compF at hR
  split at hR
  · rename_i hgo
    simp only [Option.bind_eq_some_iff] at hR
    obtain ⟨fn, hfn, c, hc, r, hr, res, hres, e⟩ := hR
    cases e
    intro k' hk a w hf hd hs cs
    cases hk with
    | nil =>
      obtain ⟨v, hv, hΦ⟩ := run_results (P := P) (fn := fn) (Q := fun v => Φ v M G) hf (fun b o hb => hs.agreeAdd hb) (compRs_ok hres) h
      refine ⟨.returned v, w, { (Cx.fn P f fn.ntmps w0 F M0 Φ).b.atR a [] with mode := .returning }, ⟨v, rfl, M, G, hs, hΦ⟩, .one (stepR_end rfl), rfl, ?_⟩
      exact ⟨rfl, hd, rfl, fn, hfn, hv⟩
  · cases hR

end
end Go.EV

namespace Go.EV

theorem get_nil (i : Nat) : get [] i = none := rfl
theorem get_cons (j : Nat) (v : Value) (ρ : Env) (i : Nat) : get ((j, v) :: ρ) i = if i = j then some v else get ρ i := rfl
theorem norm_nil (ρ : Env) : norm [] ρ = [] := rfl
theorem norm_cons (i : Nat) (V : List Nat) (ρ : Env) : norm (i :: V) ρ = match get ρ i with | some v => (i, v) :: norm V ρ | none => norm V ρ := rfl

attribute [push_cast] wpS wpA wpQL qW opW onv_some onv_none ev evs evp evo get_nil get_cons norm_nil norm_cons putE argE binV intV shV strV ptr? adr? sl? int? bool? agg? tup? fn? fillL splice eqL eqLeaf Value.cells oad_none oad_some ocap_none ocap_some resW retV retW
  List.length_cons List.length_nil List.getElem?_cons_zero List.getElem?_cons_succ List.take_succ_cons List.take_zero List.drop_succ_cons List.drop_zero List.nil_append List.cons_append List.take_nil List.drop_nil List.replicate_succ List.replicate_zero List.flatten_cons List.flatten_nil

attribute [push_cast] List.set_cons_zero List.set_cons_succ or_self or_false false_or and_self true_and and_true Nat.zero_add Nat.mul_one Nat.add_zero Bool.false_xor Bool.true_xor if_true if_false Int.toNat_natCast Int.cast_ofNat_Int Int.toNat_zero ne_eq not_true_eq_false not_false_eq_true Value.oneCell' List.size_toArray List.append_assoc List.append_nil Array.append_empty Array.empty_append Nat.le_refl exists_eq_left exists_and_left Nat.zero_le Nat.sub_zero

end Go.EV

namespace Go.EV
variable {P : Program}

theorem w64 {x : Int} (h1 : -9223372036854775808 ≤ x) (h2 : x < 9223372036854775808) : IntKind.i64.wrap x = x := by
  have e : (2 : Int) ^ IntKind.i64.bits = 18446744073709551616 := rfl
  have e2 : (2 : Int) ^ (IntKind.i64.bits - 1) = 9223372036854775808 := rfl
  have e3 : IntKind.i64.signed = true := rfl
  simp only [IntKind.wrap, e, e2, e3, Bool.true_and, decide_eq_true_eq]
  split <;> omega

theorem perm_pull {α : Type} (l1 A l2 : List α) : (l1 ++ (A ++ l2)).Perm (A ++ (l1 ++ l2)) := by
  rw [← List.append_assoc, ← List.append_assoc]
  exact List.Perm.append_right _ List.perm_append_comm

theorem ok1_nil : ok1 [] ↔ True := by simp [ok1]
theorem ok1_cons (v : Value) (l : List Value) : ok1 (v :: l) ↔ v.oneCell' = true ∧ ok1 l := by simp [ok1]

theorem mem_of_get {ρ : Env} {t : Nat} {v : Value} (h : get ρ t = some v) : (t, v) ∈ ρ := by
  induction ρ with
  | nil => simp [get] at h
  | cons p ρ ih =>
    obtain ⟨j, u⟩ := p
    simp only [get] at h
    split at h
    · rename_i e; subst e; cases h; simp
    · exact List.mem_cons_of_mem _ (ih h)

section
variable {C : Cx P} {V : List Nat} {k : List RItem} {ρ ρ' : Env} {M : PHeap} {G G' : Own}

/-- To a smaller state. -/
theorem EV.to (h : EV C V k ρ' M G') (hρ : ∀ p ∈ ρ', get ρ p.1 = some p.2) (hG : G'.Sublist G) : EV C V k ρ M G :=
  h.weaken (fun t v ht => hρ (t, v) (mem_of_get ht)) hG

theorem rd_own {b off n : Nat} {T : TypeId} {cs : List Value} (i : Nat) (h : G[i]? = some (b, Cl T cs)) (hl : off + n ≤ cs.length) : rd (M.add G) b off n ((cs.drop off).take n) :=
  ⟨cs.toArray, T, (0, 0), .inr (List.mem_of_getElem? h), by simpa using hl, by simp⟩

theorem rd_own' {b off n : Nat} {T : TypeId} {cs out : List Value} (i : Nat) (h : G[i]? = some (b, Cl T cs)) (e : (cs.drop off).take n = out) (hl : off + n ≤ cs.length) : rd (M.add G) b off n out :=
  e ▸ rd_own i h hl

theorem rd_M {b off n : Nat} {cs : List Value} (h : rd M b off n cs) : rd (M.add G) b off n cs := h.mono (PHeap.le_add _ _)
theorem rdS_M {sz n : Nat} {a : Option Addr} {cs : List Value} (h : rdS M sz a n cs) : rdS (M.add G) sz a n cs :=
  h.imp id fun ⟨b, off, e, h⟩ => ⟨b, off, e, rd_M h⟩

theorem rdS.mono {H H' : PHeap} (h : H.le H') {sz n : Nat} {a : Option Addr} {cs : List Value} (k : rdS H sz a n cs) : rdS H' sz a n cs :=
  k.imp id fun ⟨b, off, e, k⟩ => ⟨b, off, e, k.mono h⟩

theorem rd.part {H : PHeap} {b off n i m : Nat} {cs : List Value} (h : rd H b off n cs) (hm : i + m ≤ n) : rd H b (off + i) m ((cs.drop i).take m) := by
  obtain ⟨c, T, fz, h1, h2, h3⟩ := h
  refine ⟨c, T, fz, h1, by omega, ?_⟩
  rw [h3, List.drop_take, List.drop_drop, List.take_take, Nat.min_eq_left (by omega)]

end

/-! ### Rows of things -/

/-- A slice of flat things: each takes sz cells. -/
def Sl {α : Type} (H : PHeap) (sz : Nat) (enc : α → List Value) (v : Value) (xs : List α) : Prop :=
  ∃ a c, v = .slice a xs.length c ∧ rdS H sz a xs.length (xs.flatMap enc)

theorem flatMap_part {α : Type} {sz : Nat} {enc : α → List Value} (henc : ∀ x, (enc x).length = sz) : ∀ {xs : List α} {i : Nat} (h : i < xs.length), ((xs.flatMap enc).drop (i * sz)).take sz = enc xs[i]
  | x :: xs, 0, _ => by simp [List.flatMap_cons, ← henc x]
  | x :: xs, i + 1, h => by
    have h' : i < xs.length := by simpa using h
    have := flatMap_part henc h'
    simp only [List.flatMap_cons, List.getElem_cons_succ]
    rw [← this, List.drop_append, List.drop_eq_nil_of_le (by rw [henc, Nat.succ_mul]; omega), List.nil_append, henc, Nat.succ_mul, Nat.add_sub_cancel]

theorem flatMap_length {α : Type} {sz : Nat} {enc : α → List Value} (henc : ∀ x, (enc x).length = sz) : ∀ (xs : List α), (xs.flatMap enc).length = xs.length * sz
  | [] => by simp
  | x :: xs => by simp [List.flatMap_cons, flatMap_length henc xs, henc, Nat.succ_mul, Nat.add_comm]

theorem Sl.at {α : Type} {H : PHeap} {sz : Nat} {enc : α → List Value} (henc : ∀ x, (enc x).length = sz) (hpos : 0 < sz) {a : Option Addr} {xs : List α} (h : rdS H sz a xs.length (xs.flatMap enc)) (hn : 0 < xs.length) :
    ∃ b off, a = some ⟨b, off, none⟩ ∧ ∀ i (hi : i < xs.length), rd H b (off + i * sz) sz (enc xs[i]) := by
  rcases h with ⟨h0, _⟩ | ⟨b, off, e, h⟩
  · exfalso
    rcases Nat.mul_eq_zero.1 h0 with h0 | h0
    · rw [h0] at hn; exact absurd hn (by simp)
    · omega
  · refine ⟨b, off, e, fun i hi => ?_⟩
    have := h.part (i := i * sz) (m := sz) (by
      have : (i + 1) * sz ≤ xs.length * sz := Nat.mul_le_mul_right _ hi
      rw [Nat.succ_mul] at this; exact this)
    rwa [flatMap_part henc hi] at this

theorem Sl.mono {α : Type} {H H' : PHeap} (hh : H.le H') {sz : Nat} {enc : α → List Value} {v : Value} {xs : List α} (h : Sl H sz enc v xs) : Sl H' sz enc v xs :=
  let ⟨a, c, e, h⟩ := h; ⟨a, c, e, h.mono hh⟩

/-- A slice of slices. -/
def SlSl {α : Type} (H : PHeap) (sz : Nat) (enc : α → List Value) (v : Value) (xss : List (List α)) : Prop :=
  ∃ a c vs, v = .slice a xss.length c ∧ vs.length = xss.length ∧ rdS H 1 a xss.length vs ∧ ∀ i (h : i < vs.length) (h' : i < xss.length), Sl H sz enc vs[i] xss[i]

theorem SlSl.mono {α : Type} {H H' : PHeap} (hh : H.le H') {sz : Nat} {enc : α → List Value} {v : Value} {xss : List (List α)} (h : SlSl H sz enc v xss) : SlSl H' sz enc v xss :=
  let ⟨a, c, vs, e, hl, h, k⟩ := h; ⟨a, c, vs, e, hl, h.mono hh, fun i h h' => (k i h h').mono hh⟩

theorem flatMap_single (vs : List Value) : vs.flatMap (fun v => [v]) = vs := by simp [List.flatMap_singleton']

theorem SlSl.at {α : Type} {H : PHeap} {sz : Nat} {enc : α → List Value} {a : Option Addr} {vs : List Value} {xss : List (List α)} (h : rdS H 1 a xss.length vs) (hl : vs.length = xss.length) (hk : ∀ i (h : i < vs.length) (h' : i < xss.length), Sl H sz enc vs[i] xss[i]) (hn : 0 < xss.length) :
    ∃ b off, a = some ⟨b, off, none⟩ ∧ ∀ i (hi : i < xss.length), ∃ a' c', rd H b (off + i * 1) 1 [.slice a' xss[i].length c'] ∧ rdS H sz a' xss[i].length (xss[i].flatMap enc) := by
  have h1 : rdS H 1 a vs.length (vs.flatMap fun v => [v]) := by rw [flatMap_single, hl]; exact h
  obtain ⟨b, off, e, hr⟩ := Sl.at (sz := 1) (enc := fun v => [v]) (fun _ => rfl) (by omega) h1 (by omega)
  refine ⟨b, off, e, fun i hi => ?_⟩
  have hr' := hr i (by omega)
  obtain ⟨a', c', e', h'⟩ := hk i (by omega) hi
  rw [e'] at hr'
  exact ⟨a', c', hr', h'⟩

attribute [push_cast] ok1_nil ok1_cons

theorem rd_mem {M : PHeap} {G : Own} {b off n : Nat} {T : TypeId} {cs : List Value} (h : (b, Cl T cs) ∈ G) (hl : off + n ≤ cs.length) : rd (M.add G) b off n ((cs.drop off).take n) := by
  obtain ⟨i, hi⟩ := List.mem_iff_getElem?.1 h
  exact rd_own i hi hl


theorem rd_at {M : PHeap} {G : Own} {b off n : Nat} {T : TypeId} {cs out : List Value} (h : (b, Cl T cs) ∈ G) (e : (cs.drop off).take n = out) (hl : off + n ≤ cs.length) : rd (M.add G) b off n out := e ▸ rd_mem h hl

theorem rd_osg {M : PHeap} {G : Own} {sz n : Nat} {T : TypeId} {ov : Vec} {xs : List Value} (hok : osok sz ov n xs) (hM : ∀ p ∈ osg T ov xs, p ∈ G) : rdS (M.add G) sz (oad ov) n xs := by
  cases ov with
  | none =>
    obtain ⟨rfl, rfl⟩ := hok
    exact .inl ⟨by simp, rfl⟩
  | some p =>
    obtain ⟨b, cap, sp⟩ := p
    obtain ⟨h1, h2, h3, h4⟩ := hok
    refine .inr ⟨b, 0, rfl, (xs ++ sp).toArray, T, (0, 0), .inr (hM _ (by simp [osg])), ?_, ?_⟩
    · simp at h2 ⊢; omega
    · simp [← h1]

/-- Pieces of a list, one behind the other. -/
def cat {α : Type} : List (List α) → List α
  | [] => []
  | [x] => x
  | x :: y :: l => x ++ cat (y :: l)

theorem cat_cons {α : Type} (x : List α) : ∀ l : List (List α), cat (x :: l) = x ++ cat l
  | [] => by simp [cat]
  | _ :: _ => rfl

theorem cat_pull {α : Type} : ∀ (l : List (List α)) (i : Nat) (h : i < l.length), (cat l).Perm (l[i] ++ cat (l.eraseIdx i))
  | x :: l, 0, _ => by simp [cat_cons]
  | x :: l, i + 1, h => by
    have := cat_pull l i (by simpa using h)
    simp only [cat_cons, List.getElem_cons_succ, List.eraseIdx_cons_succ]
    refine (List.Perm.append_left x this).trans ?_
    rw [← List.append_assoc, ← List.append_assoc]
    exact List.Perm.append_right _ List.perm_append_comm

theorem cat_nil {α : Type} : cat ([] : List (List α)) = [] := rfl
theorem cat_one {α : Type} (x : List α) : cat [x] = x := rfl
theorem cat_two {α : Type} (x y : List α) (l : List (List α)) : cat (x :: y :: l) = x ++ cat (y :: l) := rfl

theorem condQ.mk {c want : Bool} {A : (Bool → Prop) → Prop} {K : Bool → Prop} (e : Bool) (h : c = want → A fun u => u = e) (hk : K (if want then c && e else c || e)) : condQ c want A K := ⟨e, h, hk⟩

theorem condW.intro {c want : Bool} {M : PHeap} {G : Own} {A : (Bool → PHeap → Own → Prop) → Prop} {K : Bool → PHeap → Own → Prop} (h : c = want → A K) (h2 : c ≠ want → K c M G) : condW c want M G A K := ⟨h, h2⟩

theorem mem_of_sub {G G' : Own} (h : G.Sublist G') : ∀ p, p ∈ G → p ∈ G' := fun _ hp => h.subset hp

theorem env_w64 {ρ : Env} {t : Nat} {x y : Int} (h : get ρ t = some (.int .i64 (IntKind.i64.wrap x))) (e : x = y) (h1 : -9223372036854775808 ≤ y) (h2 : y < 9223372036854775808) : get ρ t = some (.int .i64 y) := by
  subst e; rw [h, w64 h1 h2]


/-- A block among those that are owned. -/
class At (G : Own) (b : Nat) (T : outParam TypeId) (cs : outParam (List Value)) : Prop where
  mem : (b, Cl T cs) ∈ G
instance At.here {G : Own} {b : Nat} {T : TypeId} {cs : List Value} : At ((b, Cl T cs) :: G) b T cs := ⟨List.mem_cons_self ..⟩
instance (priority := low) At.there {G : Own} {p : Nat × Obj} {b : Nat} {T : TypeId} {cs : List Value} [h : At G b T cs] : At (p :: G) b T cs := ⟨List.mem_cons_of_mem _ h.mem⟩
/-- The owned blocks, parted at one. -/
class Split (G : Own) (b : Nat) (T : outParam TypeId) (cs : outParam (List Value)) (Ga Gb : outParam Own) : Prop where
  eq : G = Ga ++ (b, Cl T cs) :: Gb
instance Split.here {G : Own} {b : Nat} {T : TypeId} {cs : List Value} : Split ((b, Cl T cs) :: G) b T cs [] G := ⟨rfl⟩
instance (priority := low) Split.there {G : Own} {p : Nat × Obj} {b : Nat} {T : TypeId} {cs : List Value} {Ga Gb : Own} [h : Split G b T cs Ga Gb] : Split (p :: G) b T cs (p :: Ga) Gb := ⟨by rw [h.eq]; rfl⟩

theorem xr {M : PHeap} {G : Own} {b off n : Nat} {T : TypeId} {cs out : List Value} {K : List Value → Prop} [h : At G b T cs] (e : (cs.drop off).take n = out) (hl : off + n ≤ cs.length) (k : K out) : ∃ cs, rd (M.add G) b off n cs ∧ K cs := ⟨out, rd_at h.mem e hl, k⟩
theorem xi {M : PHeap} {G : Own} {b off : Nat} {T : TypeId} {cs : List Value} {α : Type} {f : α → Value} {x : α} {K : α → Prop} [h : At G b T cs] (e : (cs.drop off).take 1 = [f x]) (hl : off + 1 ≤ cs.length) (k : K x) : ∃ n, rd (M.add G) b off 1 [f n] ∧ K n := ⟨x, rd_at h.mem e hl, k⟩
theorem xs {M : PHeap} {G : Own} {b off : Nat} {T : TypeId} {cs : List Value} {a : Option Addr} {n c : Nat} {K : Option Addr → Nat → Nat → Prop} [h : At G b T cs] (e : (cs.drop off).take 1 = [.slice a n c]) (hl : off + 1 ≤ cs.length) (k : K a n c) : ∃ a n c, rd (M.add G) b off 1 [.slice a n c] ∧ K a n c := ⟨a, n, c, rd_at h.mem e hl, k⟩
theorem xw {G Ga Gb : Own} {b : Nat} {T : TypeId} {cs : List Value} {K : TypeId → List Value → Own → Own → Prop} [h : Split G b T cs Ga Gb] (k : K T cs Ga Gb) : ∃ T cs Ga Gb, G = Ga ++ (b, Cl T cs) :: Gb ∧ K T cs Ga Gb := ⟨T, cs, Ga, Gb, h.eq, k⟩

end Go.EV

namespace Go.EV
open Go.Proofs

/- lockless/locklesslaw05.ViewReaches -/
def R_locklesslaw05_ViewReaches_0 : Sts := .op (some 2) (.box 24 (.t 0)) <|
  .op (some 4) (.mv (.c (.bool false))) <|
  .nil
def R_locklesslaw05_ViewReaches_1 : Sts := .op (some 13) (.loadA 1 (.t 2)) <|
  .op (some 14) (.call 8 [(.t 13)]) <|
  .op (some 15) (.mv (.t 14)) <|
  .cnd 15 false (
  .op (some 16) (.mv (.t 1)) <|
  .op (some 17) (.len (.t 16)) <|
  .op (some 18) (.bin .gtr (.t 17) (.c (.int .i64 60))) <|
  .nil) 19 (.t 18) <|
  .nil
def R_locklesslaw05_ViewReaches_2 : Sts := .op (some 20) (.call 9 []) <|
  .op (some 4) (.mv (.t 20)) <|
  .nil
def R_locklesslaw05_ViewReaches_3 : Sts := .op (some 22) (.loadA 1 (.t 2)) <|
  .op (some 23) (.call 10 [(.t 22)]) <|
  .op (some 21) (.mv (.t 23)) <|
  .op (some 24) (.extract 0 (.t 21)) <|
  .op (some 25) (.extract 1 (.t 21)) <|
  .op (some 5) (.mv (.t 24)) <|
  .op (some 6) (.mv (.t 25)) <|
  .nil
def R_locklesslaw05_ViewReaches_4 : Sts := .op (some 26) (.mv (.t 6)) <|
  .op (some 27) (.bin .neq (.t 26) (.c (.int .i64 0))) <|
  .op (some 28) (.mv (.t 27)) <|
  .cnd 28 false (
  .op (some 29) (.mv (.t 5)) <|
  .op (some 30) (.eqp false (.t 29)) <|
  .nil) 31 (.t 30) <|
  .nil
def R_locklesslaw05_ViewReaches_5 : Sts := .op (some 32) (.call 9 []) <|
  .op (some 4) (.mv (.t 32)) <|
  .nil
def R_locklesslaw05_ViewReaches_6 : Sts := .op (some 33) (.makeSl 3 1 8 [(.int .i64 0)] (.c (.int .i64 9)) (.c (.int .i64 9))) <|
  .op (some 7) (.mv (.t 33)) <|
  .nil
def R_locklesslaw05_ViewReaches_7 : Sts := .op (some 8) (.mv (.c (.int .i64 0))) <|
  .nil
def R_locklesslaw05_ViewReaches_8 : Sts := .op (some 34) (.mv (.t 8)) <|
  .op (some 35) (.mv (.t 1)) <|
  .op (some 36) (.len (.t 35)) <|
  .op (some 37) (.bin .lss (.t 34) (.t 36)) <|
  .nil
def R_locklesslaw05_ViewReaches_9 : AT := .q (.op 0 (some 40) (.mv (.t 5)) <|
  .op 1 (some 41) (.mv (.t 1)) <|
  .op 2 (some 42) (.mv (.t 8)) <|
  .op 3 (some 43) (.iaddrS 2 (.t 41) (.t 42)) <|
  .op 4 (some 44) (.iaddrA 2 1 (.t 43) (.c (.int .i64 0))) <|
  .op 5 (some 45) (.loadI .i64 (.t 44)) <|
  .op 6 (some 46) (.mv (.t 1)) <|
  .op 7 (some 47) (.mv (.t 8)) <|
  .op 8 (some 48) (.iaddrS 2 (.t 46) (.t 47)) <|
  .op 9 (some 49) (.iaddrA 2 1 (.t 48) (.c (.int .i64 1))) <|
  .op 10 (some 50) (.loadI .i64 (.t 49)) <|
  .nil) <|
  .s 11 (some 51) (.call 11 [(.t 40), (.t 45), (.t 50)]) true (
  .q (.nil) <|
  .fin) <|
  .no
def R_locklesslaw05_ViewReaches_10 : Sts := .op (some 9) (.mv (.c (.int .i64 0))) <|
  .nil
def R_locklesslaw05_ViewReaches_11 : Sts := .op (some 52) (.mv (.t 9)) <|
  .op (some 53) (.faddr 0 (.t 2)) <|
  .op (some 54) (.loadS (.t 53)) <|
  .op (some 55) (.len (.t 54)) <|
  .op (some 56) (.bin .lss (.t 52) (.t 55)) <|
  .nil
def R_locklesslaw05_ViewReaches_12 : Sts := .op (some 10) (.mv (.c (.int .i64 0))) <|
  .nil
def R_locklesslaw05_ViewReaches_13 : Sts := .op (some 59) (.mv (.t 10)) <|
  .op (some 60) (.bin .lss (.t 59) (.c (.int .i64 3))) <|
  .nil
def R_locklesslaw05_ViewReaches_14 : Sts := .op (some 64) (.mv (.t 5)) <|
  .op (some 65) (.mv (.t 9)) <|
  .op (some 66) (.mv (.t 10)) <|
  .op (some 67) (.call 12 [(.t 64), (.t 65), (.t 66)]) <|
  .op (some 63) (.mv (.t 67)) <|
  .op (some 68) (.extract 0 (.t 63)) <|
  .op (some 69) (.extract 1 (.t 63)) <|
  .op (some 11) (.mv (.t 68)) <|
  .op (some 12) (.mv (.t 69)) <|
  .nil
def R_locklesslaw05_ViewReaches_15 : Sts := .op (some 70) (.mv (.t 12)) <|
  .op (some 71) (.bin .neq (.t 70) (.c (.int .i64 0))) <|
  .op (some 72) (.mv (.t 71)) <|
  .cnd 72 false (
  .op (some 73) (.mv (.t 11)) <|
  .op (some 74) (.mv (.t 7)) <|
  .op (some 75) (.mv (.t 9)) <|
  .op (some 76) (.bin .mul (.t 75) (.c (.int .i64 3))) <|
  .op (some 77) (.mv (.t 10)) <|
  .op (some 78) (.bin .add (.t 76) (.t 77)) <|
  .op (some 79) (.iaddrS 1 (.t 74) (.t 78)) <|
  .op (some 80) (.loadI .i64 (.t 79)) <|
  .op (some 81) (.bin .lss (.t 73) (.t 80)) <|
  .nil) 82 (.t 81) <|
  .nil
def R_locklesslaw05_ViewReaches_16 : Sts := .op (some 4) (.mv (.c (.bool false))) <|
  .nil
def R_locklesslaw05_ViewReaches_17 : Sts := .op (some 83) (.mv (.t 7)) <|
  .op (some 84) (.mv (.t 9)) <|
  .op (some 85) (.bin .mul (.t 84) (.c (.int .i64 3))) <|
  .op (some 86) (.mv (.t 10)) <|
  .op (some 87) (.bin .add (.t 85) (.t 86)) <|
  .op (some 88) (.mv (.t 11)) <|
  .op (some 89) (.iaddrS 1 (.t 83) (.t 87)) <|
  .op none (.store 1 (.t 89) (.t 88)) <|
  .nil
def R_locklesslaw05_ViewReaches_18 : Sts := .op (some 61) (.mv (.t 10)) <|
  .op (some 62) (.bin .add (.t 61) (.c (.int .i64 1))) <|
  .op (some 10) (.mv (.t 62)) <|
  .nil
def R_locklesslaw05_ViewReaches_L19 : RCode := (.seq (.seq (.reg R_locklesslaw05_ViewReaches_13) (.cond (.t 60) .skip (.exit 4))) (.seq (.block 5 (.seq (.reg R_locklesslaw05_ViewReaches_14) (.seq (.seq (.reg R_locklesslaw05_ViewReaches_15) (.cond (.t 82) (.seq (.reg R_locklesslaw05_ViewReaches_16) .ret) .skip)) (.reg R_locklesslaw05_ViewReaches_17)))) (.reg R_locklesslaw05_ViewReaches_18)))
def R_locklesslaw05_ViewReaches_19 : Sts := .op (some 57) (.mv (.t 9)) <|
  .op (some 58) (.bin .add (.t 57) (.c (.int .i64 1))) <|
  .op (some 9) (.mv (.t 58)) <|
  .nil
def R_locklesslaw05_ViewReaches_L20 : RCode := (.seq (.seq (.reg R_locklesslaw05_ViewReaches_11) (.cond (.t 56) .skip (.exit 2))) (.seq (.block 3 (.seq (.reg R_locklesslaw05_ViewReaches_12) (.block 4 (.loop R_locklesslaw05_ViewReaches_L19)))) (.reg R_locklesslaw05_ViewReaches_19)))
def R_locklesslaw05_ViewReaches_20 : Sts := .op (some 38) (.mv (.t 8)) <|
  .op (some 39) (.bin .add (.t 38) (.c (.int .i64 1))) <|
  .op (some 8) (.mv (.t 39)) <|
  .nil
def R_locklesslaw05_ViewReaches_L21 : RCode := (.seq (.seq (.reg R_locklesslaw05_ViewReaches_8) (.cond (.t 37) .skip (.exit 0))) (.seq (.block 1 (.seq (.any R_locklesslaw05_ViewReaches_9) (.seq (.reg R_locklesslaw05_ViewReaches_10) (.block 2 (.loop R_locklesslaw05_ViewReaches_L20))))) (.reg R_locklesslaw05_ViewReaches_20)))
def R_locklesslaw05_ViewReaches_21 : Sts := .op (some 90) (.call 9 []) <|
  .op (some 4) (.mv (.t 90)) <|
  .nil
def R_locklesslaw05_ViewReaches : RFun := ⟨91, [0, 1, 2, 4, 5, 6, 7, 8, 9, 10, 11, 12], (.seq (.reg R_locklesslaw05_ViewReaches_0) (.seq (.seq (.reg R_locklesslaw05_ViewReaches_1) (.cond (.t 19) (.seq (.reg R_locklesslaw05_ViewReaches_2) .ret) .skip)) (.seq (.reg R_locklesslaw05_ViewReaches_3) (.seq (.seq (.reg R_locklesslaw05_ViewReaches_4) (.cond (.t 31) (.seq (.reg R_locklesslaw05_ViewReaches_5) .ret) .skip)) (.seq (.reg R_locklesslaw05_ViewReaches_6) (.seq (.seq (.reg R_locklesslaw05_ViewReaches_7) (.block 0 (.loop R_locklesslaw05_ViewReaches_L21))) (.seq (.reg R_locklesslaw05_ViewReaches_21) .ret))))))), [.tmp 4]⟩
theorem R_locklesslaw05_ViewReaches_ok : compF Try.prog [0, 1, 2, 4, 5, 6, 7, 8, 9, 10, 11, 12] [28, 33, 19, 32, 29, 30, 73] 3 = some R_locklesslaw05_ViewReaches := by kernel_rfl

/- lockless/locklesslaw05.large -/
def R_locklesslaw05_large_0 : Sts := .op (some 1) (.box 24 (.t 0)) <|
  .op (some 2) (.mv (.c (.bool false))) <|
  .nil
def R_locklesslaw05_large_1 : Sts := .op (some 5) (.faddr 0 (.t 1)) <|
  .op (some 6) (.loadS (.t 5)) <|
  .op (some 7) (.len (.t 6)) <|
  .op (some 3) (.mv (.t 7)) <|
  .nil
def R_locklesslaw05_large_2 : Sts := .op (some 4) (.mv (.c (.int .i64 0))) <|
  .nil
def R_locklesslaw05_large_3 : Sts := .op (some 8) (.mv (.t 4)) <|
  .op (some 9) (.faddr 0 (.t 1)) <|
  .op (some 10) (.loadS (.t 9)) <|
  .op (some 11) (.len (.t 10)) <|
  .op (some 12) (.bin .lss (.t 8) (.t 11)) <|
  .op (some 13) (.mv (.t 12)) <|
  .cnd 13 true (
  .op (some 14) (.mv (.t 3)) <|
  .op (some 15) (.bin .lss (.t 14) (.c (.int .i64 60))) <|
  .nil) 16 (.t 15) <|
  .nil
def R_locklesslaw05_large_4 : Sts := .op (some 19) (.mv (.t 3)) <|
  .op (some 20) (.faddr 0 (.t 1)) <|
  .op (some 21) (.loadS (.t 20)) <|
  .op (some 22) (.mv (.t 4)) <|
  .op (some 23) (.iaddrS 1 (.t 21) (.t 22)) <|
  .op (some 24) (.loadS (.t 23)) <|
  .op (some 25) (.len (.t 24)) <|
  .op (some 26) (.bin .add (.t 19) (.t 25)) <|
  .op (some 3) (.mv (.t 26)) <|
  .nil
def R_locklesslaw05_large_5 : Sts := .op (some 17) (.mv (.t 4)) <|
  .op (some 18) (.bin .add (.t 17) (.c (.int .i64 1))) <|
  .op (some 4) (.mv (.t 18)) <|
  .nil
def R_locklesslaw05_large_L6 : RCode := (.seq (.seq (.reg R_locklesslaw05_large_3) (.cond (.t 16) .skip (.exit 0))) (.seq (.block 1 (.reg R_locklesslaw05_large_4)) (.reg R_locklesslaw05_large_5)))
def R_locklesslaw05_large_6 : Sts := .op (some 27) (.mv (.t 3)) <|
  .op (some 28) (.bin .geq (.t 27) (.c (.int .i64 60))) <|
  .op (some 2) (.mv (.t 28)) <|
  .nil
def R_locklesslaw05_large : RFun := ⟨29, [0, 1, 2, 3, 4], (.seq (.reg R_locklesslaw05_large_0) (.seq (.reg R_locklesslaw05_large_1) (.seq (.seq (.reg R_locklesslaw05_large_2) (.block 0 (.loop R_locklesslaw05_large_L6))) (.seq (.reg R_locklesslaw05_large_6) .ret)))), [.tmp 2]⟩
theorem R_locklesslaw05_large_ok : compF Try.prog [0, 1, 2, 3, 4] [28, 33, 19, 32, 29, 30, 73] 8 = some R_locklesslaw05_large := by kernel_rfl

/- lockless/locklesslaw05.sane -/
def R_locklesslaw05_sane_0 : Sts := .op (some 0) (.mv (.c (.bool false))) <|
  .nil
def R_locklesslaw05_sane_1 : Sts := .op (some 6) (.build [(.int .i64 0), (.int .i64 0), (.int .i64 0), (.int .i64 0), (.int .i64 0)] [(0, 1, (.c (.int .i64 1))), (2, 1, (.c (.int .i64 1)))]) <|
  .op (some 7) (.build [(.int .i64 0), (.int .i64 0), (.int .i64 0), (.int .i64 0), (.int .i64 0)] []) <|
  .op (some 8) (.buildSl 55 2 [(.int .i64 0), (.int .i64 0), (.int .i64 0), (.int .i64 0), (.int .i64 0), (.int .i64 0), (.int .i64 0), (.int .i64 0), (.int .i64 0), (.int .i64 0)] [(0, 5, (.t 6)), (5, 5, (.t 7))]) <|
  .op (some 9) (.buildSl 53 1 [(.slice none 0 0)] [(0, 1, (.t 8))]) <|
  .op (some 10) (.build [(.slice none 0 0)] [(0, 1, (.t 9))]) <|
  .op (some 11) (.call 10 [(.t 10)]) <|
  .op (some 5) (.mv (.t 11)) <|
  .op (some 12) (.extract 0 (.t 5)) <|
  .op (some 13) (.extract 1 (.t 5)) <|
  .op (some 1) (.mv (.t 12)) <|
  .op (some 2) (.mv (.t 13)) <|
  .nil
def R_locklesslaw05_sane_2 : Sts := .op (some 14) (.mv (.t 2)) <|
  .op (some 15) (.bin .neq (.t 14) (.c (.int .i64 0))) <|
  .op (some 16) (.mv (.t 15)) <|
  .cnd 16 false (
  .op (some 17) (.mv (.t 1)) <|
  .op (some 18) (.eqp false (.t 17)) <|
  .nil) 19 (.t 18) <|
  .op (some 20) (.mv (.t 19)) <|
  .cnd 20 false (
  .op (some 21) (.mv (.t 1)) <|
  .op (some 22) (.call 11 [(.t 21), (.c (.int .i64 0)), (.c (.int .i64 0))]) <|
  .op (some 23) (.bin .neq (.t 22) (.c (.int .i64 0))) <|
  .nil) 24 (.t 23) <|
  .nil
def R_locklesslaw05_sane_3 : Sts := .op (some 0) (.mv (.c (.bool false))) <|
  .nil
def R_locklesslaw05_sane_4 : Sts := .op (some 26) (.mv (.t 1)) <|
  .op (some 27) (.call 22 [(.t 26), (.c (.int .i64 0))]) <|
  .op (some 25) (.mv (.t 27)) <|
  .op (some 28) (.extract 0 (.t 25)) <|
  .op (some 29) (.extract 1 (.t 25)) <|
  .op (some 3) (.mv (.t 28)) <|
  .op (some 4) (.mv (.t 29)) <|
  .nil
def R_locklesslaw05_sane_5 : Sts := .op (some 30) (.mv (.t 3)) <|
  .op (some 31) (.bin .eql (.t 30) (.c (.int .i64 1))) <|
  .op (some 32) (.mv (.t 31)) <|
  .cnd 32 true (
  .op (some 33) (.mv (.t 4)) <|
  .op (some 34) (.bin .eql (.t 33) (.c (.int .i64 0))) <|
  .nil) 35 (.t 34) <|
  .op (some 36) (.mv (.t 35)) <|
  .cnd 36 true (
  .op (some 37) (.mv (.t 1)) <|
  .op (some 38) (.call 11 [(.t 37), (.c (.int .i64 0)), (.c (.int .i64 0))]) <|
  .op (some 39) (.bin .eql (.t 38) (.c (.int .i64 0))) <|
  .nil) 40 (.t 39) <|
  .op (some 41) (.mv (.t 40)) <|
  .cnd 41 true (
  .op (some 42) (.mv (.t 1)) <|
  .op (some 43) (.call 26 [(.t 42)]) <|
  .nil) 44 (.t 43) <|
  .op (some 0) (.mv (.t 44)) <|
  .nil
def R_locklesslaw05_sane : RFun := ⟨45, [0, 1, 2, 3, 4], (.seq (.reg R_locklesslaw05_sane_0) (.seq (.reg R_locklesslaw05_sane_1) (.seq (.seq (.reg R_locklesslaw05_sane_2) (.cond (.t 24) (.seq (.reg R_locklesslaw05_sane_3) .ret) .skip)) (.seq (.reg R_locklesslaw05_sane_4) (.seq (.reg R_locklesslaw05_sane_5) .ret))))), [.tmp 0]⟩
theorem R_locklesslaw05_sane_ok : compF Try.prog [0, 1, 2, 3, 4] [28, 33, 19, 32, 29, 30, 73] 9 = some R_locklesslaw05_sane := by kernel_rfl

/- lockless/view.New -/
def R_view_New_0 : Sts := .op (some 1) (.box 24 (.t 0)) <|
  .op (some 2) (.mv (.c (.pointer none))) <|
  .op (some 3) (.mv (.c (.int .i64 0))) <|
  .nil
def R_view_New_1 : Sts := .op (some 10) (.loadA 1 (.t 1)) <|
  .op (some 11) (.call 27 [(.t 10)]) <|
  .op (some 9) (.mv (.t 11)) <|
  .op (some 12) (.extract 0 (.t 9)) <|
  .op (some 13) (.extract 1 (.t 9)) <|
  .op (some 4) (.alloc 24 [(.slice none 0 0)]) <|
  .op none (.store 1 (.t 4) (.t 12)) <|
  .op (some 5) (.mv (.t 13)) <|
  .nil
def R_view_New_2 : Sts := .op (some 14) (.mv (.t 5)) <|
  .op (some 15) (.bin .neq (.t 14) (.c (.int .i64 0))) <|
  .nil
def R_view_New_3 : Sts := .op (some 16) (.mv (.t 5)) <|
  .op (some 2) (.mv (.c (.pointer none))) <|
  .op (some 3) (.mv (.t 16)) <|
  .nil
def R_view_New_4 : AT := .q (.op 0 (some 17) (.faddr 0 (.t 4)) <|
  .op 1 (some 18) (.loadS (.t 17)) <|
  .op 2 (some 19) (.call 28 []) <|
  .op 3 (some 20) (.build [(.slice none 0 0), (.slice none 0 0), (.slice none 0 0), (.slice none 0 0), (.slice none 0 0), (.slice none 0 0), (.int .i64 0), (.int .i64 0), (.int .i64 0)] [(0, 1, (.t 18)), (6, 3, (.t 19))]) <|
  .nil) <|
  .s 4 (some 21) (.box 65 (.t 20)) true (
  .q (.op 5 (some 6) (.mv (.t 21)) <|
  .nil) <|
  .fin) <|
  .no
def R_view_New_5 : Sts := .op (some 22) (.mv (.c (.int .i64 0))) <|
  .nil
def R_view_New_6 : Sts := .op (some 23) (.bin .lss (.t 22) (.c (.int .i64 3))) <|
  .nil
def R_view_New_7 : Sts := .op (some 24) (.mv (.t 22)) <|
  .op (some 7) (.mv (.t 24)) <|
  .nil
def R_view_New_8 : Sts := .op (some 25) (.call 28 []) <|
  .op (some 8) (.alloc 59 [(.int .i64 0), (.int .i64 0), (.int .i64 0)]) <|
  .op none (.store 3 (.t 8) (.t 25)) <|
  .nil
def R_view_New_9 : Sts := .op (some 26) (.mv (.t 7)) <|
  .op (some 27) (.mv (.t 7)) <|
  .op (some 28) (.iaddrA 3 1 (.t 8) (.t 26)) <|
  .op none (.store 1 (.t 28) (.t 27)) <|
  .nil
def R_view_New_10 : AT := .q (.op 0 (some 29) (.mv (.t 6)) <|
  .op 1 (some 30) (.mv (.t 6)) <|
  .op 2 (some 31) (.nilck (.t 30)) <|
  .op 3 (some 32) (.faddr 1 (.t 31)) <|
  .op 4 (some 33) (.loadS (.t 32)) <|
  .op 5 (some 34) (.loadA 3 (.t 8)) <|
  .op 6 (some 35) (.build [(.int .i64 0), (.int .i64 0), (.int .i64 0), (.int .i64 0), (.bool false)] [(1, 3, (.t 34))]) <|
  .nil) <|
  .s 7 (some 36) (.buildSl 67 1 [(.int .i64 0), (.int .i64 0), (.int .i64 0), (.int .i64 0), (.bool false)] [(0, 5, (.t 35))]) false (
  .q (.nil) <|
  .s 8 (some 37) (.append 67 5 40 [(.int .i64 0), (.int .i64 0), (.int .i64 0), (.int .i64 0), (.bool false)] (.t 33) (.t 36)) false (
  .q (.op 9 (some 38) (.nilck (.t 29)) <|
  .op 10 (some 39) (.faddr 1 (.t 38)) <|
  .nil) <|
  .s 11 none (.store 1 (.t 39) (.t 37)) true (
  .q (.nil) <|
  .fin) <|
  .no) <|
  .no) <|
  .no
def R_view_New_11 : Sts := .op (some 40) (.mv (.t 6)) <|
  .op (some 41) (.mv (.t 7)) <|
  .op (some 42) (.mv (.t 7)) <|
  .op (some 43) (.buildSl 3 1 [(.int .i64 0)] [(0, 1, (.t 42))]) <|
  .op (some 44) (.nilck (.t 40)) <|
  .op (some 45) (.faddr 2 (.t 44)) <|
  .op (some 46) (.iaddrA 3 1 (.t 45) (.t 41)) <|
  .op none (.store 1 (.t 46) (.t 43)) <|
  .nil
def R_view_New_12 : Sts := .op (some 47) (.bin .add (.t 22) (.c (.int .i64 1))) <|
  .op (some 22) (.mv (.t 47)) <|
  .nil
def R_view_New_L13 : RCode := (.seq (.reg R_view_New_6) (.seq (.cond (.t 23) .skip (.exit 0)) (.seq (.block 1 (.seq (.reg R_view_New_7) (.seq (.reg R_view_New_8) (.seq (.reg R_view_New_9) (.seq (.any R_view_New_10) (.reg R_view_New_11)))))) (.reg R_view_New_12))))
def R_view_New_13 : Sts := .op (some 48) (.faddr 0 (.t 4)) <|
  .op (some 49) (.loadS (.t 48)) <|
  .op (some 50) (.len (.t 49)) <|
  .op (some 51) (.mv (.c (.int .i64 0))) <|
  .nil
def R_view_New_14 : Sts := .op (some 52) (.bin .lss (.t 51) (.t 50)) <|
  .nil
def R_view_New_15 : AT := .q (.op 0 (some 53) (.mv (.t 6)) <|
  .op 1 (some 54) (.mv (.t 6)) <|
  .op 2 (some 55) (.nilck (.t 54)) <|
  .op 3 (some 56) (.faddr 5 (.t 55)) <|
  .op 4 (some 57) (.loadS (.t 56)) <|
  .op 5 (some 58) (.call 28 []) <|
  .op 6 (some 59) (.call 28 []) <|
  .op 7 (some 60) (.call 28 []) <|
  .op 8 (some 61) (.build [(.int .i64 0), (.int .i64 0), (.int .i64 0), (.int .i64 0), (.int .i64 0), (.int .i64 0), (.int .i64 0), (.int .i64 0), (.int .i64 0), (.slice none 0 0), (.int .i64 0)] [(0, 3, (.t 58)), (3, 3, (.t 59)), (6, 3, (.t 60))]) <|
  .nil) <|
  .s 9 (some 62) (.buildSl 69 1 [(.int .i64 0), (.int .i64 0), (.int .i64 0), (.int .i64 0), (.int .i64 0), (.int .i64 0), (.int .i64 0), (.int .i64 0), (.int .i64 0), (.slice none 0 0), (.int .i64 0)] [(0, 11, (.t 61))]) false (
  .q (.nil) <|
  .s 10 (some 63) (.append 69 11 104 [(.int .i64 0), (.int .i64 0), (.int .i64 0), (.int .i64 0), (.int .i64 0), (.int .i64 0), (.int .i64 0), (.int .i64 0), (.int .i64 0), (.slice none 0 0), (.int .i64 0)] (.t 57) (.t 62)) false (
  .q (.op 11 (some 64) (.nilck (.t 53)) <|
  .op 12 (some 65) (.faddr 5 (.t 64)) <|
  .nil) <|
  .s 13 none (.store 1 (.t 65) (.t 63)) true (
  .q (.nil) <|
  .fin) <|
  .no) <|
  .no) <|
  .no
def R_view_New_16 : Sts := .op (some 66) (.bin .add (.t 51) (.c (.int .i64 1))) <|
  .op (some 51) (.mv (.t 66)) <|
  .nil
def R_view_New_L17 : RCode := (.seq (.reg R_view_New_14) (.seq (.cond (.t 52) .skip (.exit 2)) (.seq (.block 3 (.any R_view_New_15)) (.reg R_view_New_16))))
def R_view_New_17 : Sts := .op (some 67) (.mv (.t 6)) <|
  .op (some 2) (.mv (.t 67)) <|
  .op (some 3) (.mv (.c (.int .i64 0))) <|
  .nil
def R_view_New : RFun := ⟨68, [0, 1, 2, 3, 4, 5, 6, 7, 8, 22, 50, 51], (.seq (.reg R_view_New_0) (.seq (.reg R_view_New_1) (.seq (.seq (.reg R_view_New_2) (.cond (.t 15) (.seq (.reg R_view_New_3) .ret) .skip)) (.seq (.any R_view_New_4) (.seq (.seq (.reg R_view_New_5) (.block 0 (.loop R_view_New_L13))) (.seq (.seq (.reg R_view_New_13) (.block 2 (.loop R_view_New_L17))) (.seq (.reg R_view_New_17) .ret))))))), [.tmp 2, .tmp 3]⟩
theorem R_view_New_ok : compF Try.prog [0, 1, 2, 3, 4, 5, 6, 7, 8, 22, 50, 51] [28, 33, 19, 32, 29, 30, 73] 10 = some R_view_New := by kernel_rfl

/- (*lockless/view.Machine).Step -/
def R_view_Machine_Step_0 : Sts := .op (some 6) (.mv (.c (.int .i64 0))) <|
  .nil
def R_view_Machine_Step_1 : Sts := .op (some 11) (.mv (.t 0)) <|
  .op (some 12) (.mv (.t 1)) <|
  .op (some 13) (.call 29 [(.t 11), (.t 12)]) <|
  .op (some 10) (.mv (.t 13)) <|
  .op (some 14) (.extract 0 (.t 10)) <|
  .op (some 15) (.extract 1 (.t 10)) <|
  .op (some 7) (.alloc 55 [(.int .i64 0), (.int .i64 0), (.int .i64 0), (.int .i64 0), (.int .i64 0)]) <|
  .op none (.store 5 (.t 7) (.t 14)) <|
  .op (some 8) (.mv (.t 15)) <|
  .nil
def R_view_Machine_Step_2 : Sts := .op (some 16) (.mv (.t 8)) <|
  .op (some 17) (.bin .neq (.t 16) (.c (.int .i64 0))) <|
  .nil
def R_view_Machine_Step_3 : Sts := .op (some 18) (.mv (.t 8)) <|
  .op (some 6) (.mv (.t 18)) <|
  .nil
def R_view_Machine_Step_4 : Sts := .op (some 19) (.mv (.t 0)) <|
  .op (some 20) (.mv (.t 1)) <|
  .op (some 21) (.loadA 5 (.t 7)) <|
  .op (some 22) (.call 30 [(.t 19), (.t 20), (.t 21)]) <|
  .op (some 9) (.mv (.t 22)) <|
  .nil
def R_view_Machine_Step_5 : Sts := .op (some 23) (.mv (.t 2)) <|
  .op (some 24) (.bin .lss (.t 23) (.c (.int .i64 0))) <|
  .op (some 25) (.mv (.t 24)) <|
  .cnd 25 false (
  .op (some 26) (.mv (.t 2)) <|
  .op (some 27) (.mv (.t 9)) <|
  .op (some 28) (.len (.t 27)) <|
  .op (some 29) (.bin .geq (.t 26) (.t 28)) <|
  .nil) 30 (.t 29) <|
  .nil
def R_view_Machine_Step_6 : Sts := .op (some 6) (.mv (.c (.int .i64 3))) <|
  .nil
def R_view_Machine_Step_7 : AT := .q (.op 0 (some 31) (.mv (.t 0)) <|
  .op 1 (some 32) (.mv (.t 1)) <|
  .op 2 (some 33) (.loadA 5 (.t 7)) <|
  .op 3 (some 34) (.mv (.t 9)) <|
  .op 4 (some 35) (.mv (.t 2)) <|
  .op 5 (some 36) (.iaddrS 2 (.t 34) (.t 35)) <|
  .op 6 (some 37) (.loadA 2 (.t 36)) <|
  .nil) <|
  .s 7 (some 38) (.call 31 [(.t 31), (.t 32), (.t 33), (.t 37)]) true (
  .q (.nil) <|
  .fin) <|
  .no
def R_view_Machine_Step_8 : Sts := .op (some 6) (.mv (.c (.int .i64 0))) <|
  .nil
def R_view_Machine_Step : RFun := ⟨39, [0, 1, 2, 6, 7, 8, 9], (.seq (.reg R_view_Machine_Step_0) (.seq (.reg R_view_Machine_Step_1) (.seq (.seq (.reg R_view_Machine_Step_2) (.cond (.t 17) (.seq (.reg R_view_Machine_Step_3) .ret) .skip)) (.seq (.reg R_view_Machine_Step_4) (.seq (.seq (.reg R_view_Machine_Step_5) (.cond (.t 30) (.seq (.reg R_view_Machine_Step_6) .ret) .skip)) (.seq (.any R_view_Machine_Step_7) (.seq (.reg R_view_Machine_Step_8) .ret))))))), [.tmp 6]⟩
theorem R_view_Machine_Step_ok : compF Try.prog [0, 1, 2, 6, 7, 8, 9] [28, 33, 19, 32, 29, 30, 73] 11 = some R_view_Machine_Step := by kernel_rfl

/- (*lockless/view.Machine).Reach -/
def R_view_Machine_Reach_0 : Sts := .op (some 6) (.mv (.c (.int .i64 0))) <|
  .op (some 7) (.mv (.c (.int .i64 0))) <|
  .nil
def R_view_Machine_Reach_1 : Sts := .op (some 8) (.mv (.t 0)) <|
  .op (some 9) (.call 32 [(.t 8)]) <|
  .op (some 10) (.notb (.t 9)) <|
  .op (some 11) (.mv (.t 10)) <|
  .cnd 11 false (
  .op (some 12) (.mv (.t 1)) <|
  .op (some 13) (.bin .lss (.t 12) (.c (.int .i64 0))) <|
  .nil) 14 (.t 13) <|
  .op (some 15) (.mv (.t 14)) <|
  .cnd 15 false (
  .op (some 16) (.mv (.t 1)) <|
  .op (some 17) (.mv (.t 0)) <|
  .op (some 18) (.nilck (.t 17)) <|
  .op (some 19) (.faddr 5 (.t 18)) <|
  .op (some 20) (.loadS (.t 19)) <|
  .op (some 21) (.len (.t 20)) <|
  .op (some 22) (.bin .geq (.t 16) (.t 21)) <|
  .nil) 23 (.t 22) <|
  .op (some 24) (.mv (.t 23)) <|
  .cnd 24 false (
  .op (some 25) (.mv (.t 2)) <|
  .op (some 26) (.bin .lss (.t 25) (.c (.int .i64 0))) <|
  .nil) 27 (.t 26) <|
  .op (some 28) (.mv (.t 27)) <|
  .cnd 28 false (
  .op (some 29) (.mv (.t 2)) <|
  .op (some 30) (.bin .geq (.t 29) (.c (.int .i64 3))) <|
  .nil) 31 (.t 30) <|
  .nil
def R_view_Machine_Reach_2 : Sts := .op (some 6) (.mv (.c (.int .i64 0))) <|
  .op (some 7) (.mv (.c (.int .i64 1))) <|
  .nil
def R_view_Machine_Reach_3 : Sts := .op (some 32) (.mv (.t 0)) <|
  .op (some 33) (.mv (.t 2)) <|
  .op (some 34) (.mv (.t 0)) <|
  .op (some 35) (.nilck (.t 34)) <|
  .op (some 36) (.faddr 5 (.t 35)) <|
  .op (some 37) (.loadS (.t 36)) <|
  .op (some 38) (.mv (.t 1)) <|
  .op (some 39) (.mv (.t 2)) <|
  .op (some 40) (.iaddrS 11 (.t 37) (.t 38)) <|
  .op (some 41) (.faddr 0 (.t 40)) <|
  .op (some 42) (.iaddrA 3 1 (.t 41) (.t 39)) <|
  .op (some 43) (.loadI .i64 (.t 42)) <|
  .op (some 44) (.call 33 [(.t 32), (.t 33), (.t 43)]) <|
  .op (some 6) (.mv (.t 44)) <|
  .op (some 7) (.mv (.c (.int .i64 0))) <|
  .nil
def R_view_Machine_Reach : RFun := ⟨45, [0, 1, 2, 6, 7], (.seq (.reg R_view_Machine_Reach_0) (.seq (.seq (.reg R_view_Machine_Reach_1) (.cond (.t 31) (.seq (.reg R_view_Machine_Reach_2) .ret) .skip)) (.seq (.reg R_view_Machine_Reach_3) .ret))), [.tmp 6, .tmp 7]⟩
theorem R_view_Machine_Reach_ok : compF Try.prog [0, 1, 2, 6, 7] [28, 33, 19, 32, 29, 30, 73] 12 = some R_view_Machine_Reach := by kernel_rfl

/- (*lockless/view.Machine).Choices -/
def R_view_Machine_Choices_0 : Sts := .op (some 4) (.mv (.c (.int .i64 0))) <|
  .op (some 5) (.mv (.c (.int .i64 0))) <|
  .nil
def R_view_Machine_Choices_1 : Sts := .op (some 9) (.mv (.t 0)) <|
  .op (some 10) (.mv (.t 1)) <|
  .op (some 11) (.call 29 [(.t 9), (.t 10)]) <|
  .op (some 8) (.mv (.t 11)) <|
  .op (some 12) (.extract 0 (.t 8)) <|
  .op (some 13) (.extract 1 (.t 8)) <|
  .op (some 6) (.alloc 55 [(.int .i64 0), (.int .i64 0), (.int .i64 0), (.int .i64 0), (.int .i64 0)]) <|
  .op none (.store 5 (.t 6) (.t 12)) <|
  .op (some 7) (.mv (.t 13)) <|
  .nil
def R_view_Machine_Choices_2 : Sts := .op (some 14) (.mv (.t 7)) <|
  .op (some 15) (.bin .neq (.t 14) (.c (.int .i64 0))) <|
  .nil
def R_view_Machine_Choices_3 : Sts := .op (some 16) (.mv (.t 7)) <|
  .op (some 4) (.mv (.c (.int .i64 0))) <|
  .op (some 5) (.mv (.t 16)) <|
  .nil
def R_view_Machine_Choices_4 : Sts := .op (some 17) (.mv (.t 0)) <|
  .op (some 18) (.mv (.t 1)) <|
  .op (some 19) (.loadA 5 (.t 6)) <|
  .op (some 20) (.call 30 [(.t 17), (.t 18), (.t 19)]) <|
  .op (some 21) (.len (.t 20)) <|
  .op (some 4) (.mv (.t 21)) <|
  .op (some 5) (.mv (.c (.int .i64 0))) <|
  .nil
def R_view_Machine_Choices : RFun := ⟨22, [0, 1, 4, 5, 6, 7], (.seq (.reg R_view_Machine_Choices_0) (.seq (.reg R_view_Machine_Choices_1) (.seq (.seq (.reg R_view_Machine_Choices_2) (.cond (.t 15) (.seq (.reg R_view_Machine_Choices_3) .ret) .skip)) (.seq (.reg R_view_Machine_Choices_4) .ret)))), [.tmp 4, .tmp 5]⟩
theorem R_view_Machine_Choices_ok : compF Try.prog [0, 1, 4, 5, 6, 7] [28, 33, 19, 32, 29, 30, 73] 22 = some R_view_Machine_Choices := by kernel_rfl

/- (*lockless/view.Machine).Left -/
def R_view_Machine_Left_0 : Sts := .op (some 4) (.mv (.c (.int .i64 0))) <|
  .op (some 5) (.mv (.c (.int .i64 0))) <|
  .nil
def R_view_Machine_Left_1 : Sts := .op (some 6) (.mv (.t 0)) <|
  .op (some 7) (.call 32 [(.t 6)]) <|
  .op (some 8) (.notb (.t 7)) <|
  .op (some 9) (.mv (.t 8)) <|
  .cnd 9 false (
  .op (some 10) (.mv (.t 1)) <|
  .op (some 11) (.bin .lss (.t 10) (.c (.int .i64 0))) <|
  .nil) 12 (.t 11) <|
  .op (some 13) (.mv (.t 12)) <|
  .cnd 13 false (
  .op (some 14) (.mv (.t 1)) <|
  .op (some 15) (.mv (.t 0)) <|
  .op (some 16) (.nilck (.t 15)) <|
  .op (some 17) (.faddr 5 (.t 16)) <|
  .op (some 18) (.loadS (.t 17)) <|
  .op (some 19) (.len (.t 18)) <|
  .op (some 20) (.bin .geq (.t 14) (.t 19)) <|
  .nil) 21 (.t 20) <|
  .nil
def R_view_Machine_Left_2 : Sts := .op (some 4) (.mv (.c (.int .i64 0))) <|
  .op (some 5) (.mv (.c (.int .i64 1))) <|
  .nil
def R_view_Machine_Left_3 : Sts := .op (some 22) (.mv (.t 0)) <|
  .op (some 23) (.call 36 [(.t 22)]) <|
  .op (some 24) (.mv (.t 1)) <|
  .op (some 25) (.iaddrS 1 (.t 23) (.t 24)) <|
  .op (some 26) (.loadI .i64 (.t 25)) <|
  .op (some 4) (.mv (.t 26)) <|
  .op (some 5) (.mv (.c (.int .i64 0))) <|
  .nil
def R_view_Machine_Left : RFun := ⟨27, [0, 1, 4, 5], (.seq (.reg R_view_Machine_Left_0) (.seq (.seq (.reg R_view_Machine_Left_1) (.cond (.t 21) (.seq (.reg R_view_Machine_Left_2) .ret) .skip)) (.seq (.reg R_view_Machine_Left_3) .ret))), [.tmp 4, .tmp 5]⟩
theorem R_view_Machine_Left_ok : compF Try.prog [0, 1, 4, 5] [28, 33, 19, 32, 29, 30, 73] 23 = some R_view_Machine_Left := by kernel_rfl

/- (*lockless/view.Machine).Over -/
def R_view_Machine_Over_0 : Sts := .op (some 2) (.mv (.c (.bool false))) <|
  .nil
def R_view_Machine_Over_1 : Sts := .op (some 3) (.mv (.t 0)) <|
  .op (some 4) (.call 32 [(.t 3)]) <|
  .op (some 5) (.notb (.t 4)) <|
  .op (some 6) (.mv (.t 5)) <|
  .cnd 6 false (
  .op (some 7) (.mv (.t 0)) <|
  .op (some 8) (.call 36 [(.t 7)]) <|
  .op (some 9) (.call 57 [(.t 8), (.c (.func (.func 58) #[] #[]))]) <|
  .op (some 10) (.notb (.t 9)) <|
  .nil) 11 (.t 10) <|
  .op (some 2) (.mv (.t 11)) <|
  .nil
def R_view_Machine_Over : RFun := ⟨12, [0, 2], (.seq (.reg R_view_Machine_Over_0) (.seq (.reg R_view_Machine_Over_1) .ret)), [.tmp 2]⟩
theorem R_view_Machine_Over_ok : compF Try.prog [0, 2] [28, 33, 19, 32, 29, 30, 73] 26 = some R_view_Machine_Over := by kernel_rfl

/- lockless/litmus.Expand -/
def R_litmus_Expand_0 : Sts := .op (some 1) (.box 24 (.t 0)) <|
  .op (some 2) (.alloc 24 [(.slice none 0 0)]) <|
  .op (some 3) (.mv (.c (.int .i64 0))) <|
  .nil
def R_litmus_Expand_1 : Sts := .op (some 5) (.loadA 1 (.t 1)) <|
  .op (some 6) (.call 59 [(.t 5)]) <|
  .op (some 4) (.mv (.t 6)) <|
  .nil
def R_litmus_Expand_2 : Sts := .op (some 7) (.mv (.t 4)) <|
  .op (some 8) (.bin .neq (.t 7) (.c (.int .i64 0))) <|
  .nil
def R_litmus_Expand_3 : Sts := .op (some 9) (.build [(.slice none 0 0)] []) <|
  .op (some 10) (.mv (.t 4)) <|
  .op none (.store 1 (.t 2) (.t 9)) <|
  .op (some 3) (.mv (.t 10)) <|
  .nil
def R_litmus_Expand_4 : Sts := .op (some 11) (.loadA 1 (.t 1)) <|
  .op (some 12) (.call 60 [(.t 11), (.c (.func (.func 61) #[] #[]))]) <|
  .op none (.store 1 (.t 2) (.t 12)) <|
  .op (some 3) (.mv (.c (.int .i64 0))) <|
  .nil
def R_litmus_Expand : RFun := ⟨13, [0, 1, 2, 3, 4], (.seq (.reg R_litmus_Expand_0) (.seq (.seq (.reg R_litmus_Expand_1) (.seq (.reg R_litmus_Expand_2) (.cond (.t 8) (.seq (.reg R_litmus_Expand_3) .ret) .skip))) (.seq (.reg R_litmus_Expand_4) .ret))), [.cellA 2 1, .tmp 3]⟩
theorem R_litmus_Expand_ok : compF Try.prog [0, 1, 2, 3, 4] [28, 33, 19, 32, 29, 30, 73] 27 = some R_litmus_Expand := by kernel_rfl

/- lockless/view.none -/
def R_view_none_0 : Sts := .op (some 0) (.alloc 59 [(.int .i64 0), (.int .i64 0), (.int .i64 0)]) <|
  .nil
def R_view_none_1 : Sts := .op (some 1) (.build [(.int .i64 0), (.int .i64 0), (.int .i64 0)] [(0, 1, (.c (.int .i64 (-1)))), (1, 1, (.c (.int .i64 (-1)))), (2, 1, (.c (.int .i64 (-1))))]) <|
  .op none (.store 3 (.t 0) (.t 1)) <|
  .nil
def R_view_none : RFun := ⟨2, [0], (.seq (.reg R_view_none_0) (.seq (.reg R_view_none_1) .ret)), [.cellA 0 3]⟩
theorem R_view_none_ok : compF Try.prog [0] [28, 33, 19, 32, 29, 30, 73] 28 = some R_view_none := by kernel_rfl

/- (*lockless/view.Machine).turn -/
def R_view_Machine_turn_0 : Sts := .op (some 4) (.alloc 55 [(.int .i64 0), (.int .i64 0), (.int .i64 0), (.int .i64 0), (.int .i64 0)]) <|
  .op (some 5) (.mv (.c (.int .i64 0))) <|
  .nil
def R_view_Machine_turn_1 : Sts := .op (some 7) (.mv (.t 0)) <|
  .op (some 8) (.call 32 [(.t 7)]) <|
  .op (some 9) (.notb (.t 8)) <|
  .op (some 10) (.mv (.t 9)) <|
  .cnd 10 false (
  .op (some 11) (.mv (.t 1)) <|
  .op (some 12) (.bin .lss (.t 11) (.c (.int .i64 0))) <|
  .nil) 13 (.t 12) <|
  .op (some 14) (.mv (.t 13)) <|
  .cnd 14 false (
  .op (some 15) (.mv (.t 1)) <|
  .op (some 16) (.mv (.t 0)) <|
  .op (some 17) (.nilck (.t 16)) <|
  .op (some 18) (.faddr 5 (.t 17)) <|
  .op (some 19) (.loadS (.t 18)) <|
  .op (some 20) (.len (.t 19)) <|
  .op (some 21) (.bin .geq (.t 15) (.t 20)) <|
  .nil) 22 (.t 21) <|
  .nil
def R_view_Machine_turn_2 : Sts := .op (some 23) (.build [(.int .i64 0), (.int .i64 0), (.int .i64 0), (.int .i64 0), (.int .i64 0)] []) <|
  .op none (.store 5 (.t 4) (.t 23)) <|
  .op (some 5) (.mv (.c (.int .i64 1))) <|
  .nil
def R_view_Machine_turn_3 : Sts := .op (some 24) (.mv (.t 0)) <|
  .op (some 25) (.nilck (.t 24)) <|
  .op (some 26) (.faddr 0 (.t 25)) <|
  .op (some 27) (.loadS (.t 26)) <|
  .op (some 28) (.mv (.t 1)) <|
  .op (some 29) (.iaddrS 1 (.t 27) (.t 28)) <|
  .op (some 30) (.loadS (.t 29)) <|
  .op (some 6) (.mv (.t 30)) <|
  .nil
def R_view_Machine_turn_4 : Sts := .op (some 31) (.mv (.t 0)) <|
  .op (some 32) (.nilck (.t 31)) <|
  .op (some 33) (.faddr 5 (.t 32)) <|
  .op (some 34) (.loadS (.t 33)) <|
  .op (some 35) (.mv (.t 1)) <|
  .op (some 36) (.iaddrS 11 (.t 34) (.t 35)) <|
  .op (some 37) (.faddr 10 (.t 36)) <|
  .op (some 38) (.loadI .i64 (.t 37)) <|
  .op (some 39) (.mv (.t 6)) <|
  .op (some 40) (.len (.t 39)) <|
  .op (some 41) (.bin .eql (.t 38) (.t 40)) <|
  .nil
def R_view_Machine_turn_5 : Sts := .op (some 42) (.build [(.int .i64 0), (.int .i64 0), (.int .i64 0), (.int .i64 0), (.int .i64 0)] []) <|
  .op none (.store 5 (.t 4) (.t 42)) <|
  .op (some 5) (.mv (.c (.int .i64 7))) <|
  .nil
def R_view_Machine_turn_6 : Sts := .op (some 43) (.mv (.t 6)) <|
  .op (some 44) (.mv (.t 0)) <|
  .op (some 45) (.nilck (.t 44)) <|
  .op (some 46) (.faddr 5 (.t 45)) <|
  .op (some 47) (.loadS (.t 46)) <|
  .op (some 48) (.mv (.t 1)) <|
  .op (some 49) (.iaddrS 11 (.t 47) (.t 48)) <|
  .op (some 50) (.faddr 10 (.t 49)) <|
  .op (some 51) (.loadI .i64 (.t 50)) <|
  .op (some 52) (.iaddrS 5 (.t 43) (.t 51)) <|
  .op (some 53) (.loadA 5 (.t 52)) <|
  .op none (.store 5 (.t 4) (.t 53)) <|
  .op (some 5) (.mv (.c (.int .i64 0))) <|
  .nil
def R_view_Machine_turn : RFun := ⟨54, [0, 1, 4, 5, 6], (.seq (.reg R_view_Machine_turn_0) (.seq (.seq (.reg R_view_Machine_turn_1) (.cond (.t 22) (.seq (.reg R_view_Machine_turn_2) .ret) .skip)) (.seq (.reg R_view_Machine_turn_3) (.seq (.seq (.reg R_view_Machine_turn_4) (.cond (.t 41) (.seq (.reg R_view_Machine_turn_5) .ret) .skip)) (.seq (.reg R_view_Machine_turn_6) .ret))))), [.cellA 4 5, .tmp 5]⟩
theorem R_view_Machine_turn_ok : compF Try.prog [0, 1, 4, 5, 6] [28, 33, 19, 32, 29, 30, 73] 29 = some R_view_Machine_turn := by kernel_rfl

/- (*lockless/view.Machine).choices -/
def R_view_Machine_choices_0 : Sts := .op (some 5) (.box 55 (.t 2)) <|
  .op (some 6) (.mv (.c (.slice none 0 0))) <|
  .nil
def R_view_Machine_choices_1 : Sts := .op (some 12) (.faddr 0 (.t 5)) <|
  .op (some 13) (.loadI .i64 (.t 12)) <|
  .op (some 14) (.bin .eql (.t 13) (.c (.int .i64 5))) <|
  .nil
def R_view_Machine_choices_2 : Sts := .op (some 15) (.build [(.int .i64 0), (.bool false)] []) <|
  .op (some 16) (.buildSl 76 1 [(.int .i64 0), (.bool false)] [(0, 2, (.t 15))]) <|
  .op (some 6) (.mv (.t 16)) <|
  .nil
def R_view_Machine_choices_3 : Sts := .op (some 7) (.mv (.c (.slice none 0 0))) <|
  .nil
def R_view_Machine_choices_4 : AT := .q (.op 0 (some 17) (.mv (.t 0)) <|
  .op 1 (some 18) (.faddr 1 (.t 5)) <|
  .op 2 (some 19) (.loadI .i64 (.t 18)) <|
  .op 3 (some 20) (.mv (.t 0)) <|
  .op 4 (some 21) (.nilck (.t 20)) <|
  .op 5 (some 22) (.faddr 5 (.t 21)) <|
  .op 6 (some 23) (.loadS (.t 22)) <|
  .op 7 (some 24) (.mv (.t 1)) <|
  .op 8 (some 25) (.faddr 1 (.t 5)) <|
  .op 9 (some 26) (.loadI .i64 (.t 25)) <|
  .op 10 (some 27) (.iaddrS 11 (.t 23) (.t 24)) <|
  .op 11 (some 28) (.faddr 0 (.t 27)) <|
  .op 12 (some 29) (.iaddrA 3 1 (.t 28) (.t 26)) <|
  .op 13 (some 30) (.loadI .i64 (.t 29)) <|
  .op 14 (some 31) (.call 33 [(.t 17), (.t 19), (.t 30)]) <|
  .op 15 (some 8) (.mv (.t 31)) <|
  .nil) <|
  .fin
def R_view_Machine_choices_5 : AT := .q (.op 0 (some 32) (.mv (.t 8)) <|
  .op 1 (some 33) (.mv (.t 0)) <|
  .op 2 (some 34) (.faddr 1 (.t 5)) <|
  .op 3 (some 35) (.loadI .i64 (.t 34)) <|
  .op 4 (some 36) (.nilck (.t 33)) <|
  .op 5 (some 37) (.faddr 2 (.t 36)) <|
  .op 6 (some 38) (.iaddrA 3 1 (.t 37) (.t 35)) <|
  .op 7 (some 39) (.loadS (.t 38)) <|
  .op 8 (some 40) (.len (.t 39)) <|
  .op 9 (some 41) (.bin .lss (.t 32) (.t 40)) <|
  .nil) <|
  .fin
def R_view_Machine_choices_6 : AT := .q (.op 0 (some 44) (.mv (.t 0)) <|
  .op 1 (some 45) (.nilck (.t 44)) <|
  .op 2 (some 46) (.faddr 1 (.t 45)) <|
  .op 3 (some 47) (.loadS (.t 46)) <|
  .op 4 (some 48) (.mv (.t 0)) <|
  .op 5 (some 49) (.faddr 1 (.t 5)) <|
  .op 6 (some 50) (.loadI .i64 (.t 49)) <|
  .op 7 (some 51) (.nilck (.t 48)) <|
  .op 8 (some 52) (.faddr 2 (.t 51)) <|
  .op 9 (some 53) (.iaddrA 3 1 (.t 52) (.t 50)) <|
  .op 10 (some 54) (.loadS (.t 53)) <|
  .op 11 (some 55) (.mv (.t 8)) <|
  .op 12 (some 56) (.iaddrS 1 (.t 54) (.t 55)) <|
  .op 13 (some 57) (.loadI .i64 (.t 56)) <|
  .op 14 (some 58) (.iaddrS 5 (.t 47) (.t 57)) <|
  .op 15 (some 59) (.faddr 0 (.t 58)) <|
  .op 16 (some 60) (.loadI .i64 (.t 59)) <|
  .op 17 (some 9) (.mv (.t 60)) <|
  .nil) <|
  .fin
def R_view_Machine_choices_7 : Sts := .op (some 61) (.mv (.t 0)) <|
  .op (some 62) (.faddr 1 (.t 5)) <|
  .op (some 63) (.loadI .i64 (.t 62)) <|
  .op (some 64) (.mv (.t 8)) <|
  .op (some 65) (.call 65 [(.t 61), (.t 63), (.t 64)]) <|
  .op (some 66) (.notb (.t 65)) <|
  .op (some 10) (.mv (.t 66)) <|
  .nil
def R_view_Machine_choices_8 : Sts := .op (some 67) (.faddr 0 (.t 5)) <|
  .op (some 68) (.loadI .i64 (.t 67)) <|
  .op (some 69) (.bin .eql (.t 68) (.c (.int .i64 1))) <|
  .op (some 70) (.mv (.t 69)) <|
  .cnd 70 false (
  .op (some 71) (.faddr 0 (.t 5)) <|
  .op (some 72) (.loadI .i64 (.t 71)) <|
  .op (some 73) (.bin .eql (.t 72) (.c (.int .i64 2))) <|
  .nil) 74 (.t 73) <|
  .op (some 75) (.mv (.t 74)) <|
  .cnd 75 false (
  .op (some 76) (.faddr 0 (.t 5)) <|
  .op (some 77) (.loadI .i64 (.t 76)) <|
  .op (some 78) (.bin .neq (.t 77) (.c (.int .i64 0))) <|
  .op (some 79) (.mv (.t 78)) <|
  .cnd 79 true (
  .op (some 80) (.mv (.t 9)) <|
  .op (some 81) (.faddr 2 (.t 5)) <|
  .op (some 82) (.loadI .i64 (.t 81)) <|
  .op (some 83) (.bin .eql (.t 80) (.t 82)) <|
  .nil) 84 (.t 83) <|
  .nil) 85 (.t 84) <|
  .op (some 11) (.mv (.t 85)) <|
  .nil
def R_view_Machine_choices_9 : Sts := .op (some 86) (.mv (.t 11)) <|
  .op (some 87) (.mv (.t 86)) <|
  .cnd 87 true (
  .op (some 88) (.mv (.t 10)) <|
  .nil) 89 (.t 88) <|
  .nil
def R_view_Machine_choices_10 : Sts := .op (some 90) (.mv (.t 7)) <|
  .op (some 91) (.mv (.t 8)) <|
  .op (some 92) (.build [(.int .i64 0), (.bool false)] [(0, 1, (.t 91)), (1, 1, (.c (.bool true)))]) <|
  .op (some 93) (.buildSl 76 1 [(.int .i64 0), (.bool false)] [(0, 2, (.t 92))]) <|
  .op (some 94) (.append 76 2 16 [(.int .i64 0), (.bool false)] (.t 90) (.t 93)) <|
  .op (some 7) (.mv (.t 94)) <|
  .nil
def R_view_Machine_choices_11 : Sts := .op (some 95) (.mv (.t 11)) <|
  .op (some 96) (.notb (.t 95)) <|
  .op (some 97) (.mv (.t 96)) <|
  .cnd 97 false (
  .op (some 98) (.faddr 0 (.t 5)) <|
  .op (some 99) (.loadI .i64 (.t 98)) <|
  .op (some 100) (.bin .eql (.t 99) (.c (.int .i64 4))) <|
  .nil) 101 (.t 100) <|
  .nil
def R_view_Machine_choices_12 : Sts := .op (some 102) (.mv (.t 7)) <|
  .op (some 103) (.mv (.t 8)) <|
  .op (some 104) (.build [(.int .i64 0), (.bool false)] [(0, 1, (.t 103)), (1, 1, (.c (.bool false)))]) <|
  .op (some 105) (.buildSl 76 1 [(.int .i64 0), (.bool false)] [(0, 2, (.t 104))]) <|
  .op (some 106) (.append 76 2 16 [(.int .i64 0), (.bool false)] (.t 102) (.t 105)) <|
  .op (some 7) (.mv (.t 106)) <|
  .nil
def R_view_Machine_choices_13 : Sts := .op (some 42) (.mv (.t 8)) <|
  .op (some 43) (.bin .add (.t 42) (.c (.int .i64 1))) <|
  .op (some 8) (.mv (.t 43)) <|
  .nil
def R_view_Machine_choices_L14 : RCode := (.seq (.seq (.any R_view_Machine_choices_5) (.cond (.t 41) .skip (.exit 0))) (.seq (.block 1 (.seq (.any R_view_Machine_choices_6) (.seq (.reg R_view_Machine_choices_7) (.seq (.reg R_view_Machine_choices_8) (.seq (.seq (.reg R_view_Machine_choices_9) (.cond (.t 89) (.reg R_view_Machine_choices_10) .skip)) (.seq (.reg R_view_Machine_choices_11) (.cond (.t 101) (.reg R_view_Machine_choices_12) .skip))))))) (.reg R_view_Machine_choices_13)))
def R_view_Machine_choices_14 : Sts := .op (some 107) (.mv (.t 7)) <|
  .op (some 6) (.mv (.t 107)) <|
  .nil
def R_view_Machine_choices : RFun := ⟨108, [0, 1, 2, 5, 6, 7, 8, 9, 10, 11], (.seq (.reg R_view_Machine_choices_0) (.seq (.seq (.reg R_view_Machine_choices_1) (.cond (.t 14) (.seq (.reg R_view_Machine_choices_2) .ret) .skip)) (.seq (.reg R_view_Machine_choices_3) (.seq (.seq (.any R_view_Machine_choices_4) (.block 0 (.loop R_view_Machine_choices_L14))) (.seq (.reg R_view_Machine_choices_14) .ret))))), [.tmp 6]⟩
theorem R_view_Machine_choices_ok : compF Try.prog [0, 1, 2, 5, 6, 7, 8, 9, 10, 11] [28, 33, 19, 32, 29, 30, 73] 30 = some R_view_Machine_choices := by kernel_rfl

/- (*lockless/view.Machine).does -/
def R_view_Machine_does_0 : Sts := .op (some 6) (.box 55 (.t 2)) <|
  .op (some 7) (.box 76 (.t 3)) <|
  .nil
def R_view_Machine_does_1 : Sts := .op (some 10) (.mv (.t 0)) <|
  .op (some 11) (.nilck (.t 10)) <|
  .op (some 12) (.faddr 5 (.t 11)) <|
  .op (some 13) (.loadS (.t 12)) <|
  .op (some 14) (.mv (.t 1)) <|
  .op (some 15) (.iaddrS 11 (.t 13) (.t 14)) <|
  .op (some 16) (.faddr 10 (.t 15)) <|
  .op (some 17) (.loadI .i64 (.t 16)) <|
  .op (some 18) (.bin .add (.t 17) (.c (.int .i64 1))) <|
  .op (some 19) (.iaddrS 11 (.t 13) (.t 14)) <|
  .op (some 20) (.faddr 10 (.t 19)) <|
  .op none (.store 1 (.t 20) (.t 18)) <|
  .nil
def R_view_Machine_does_2 : Sts := .op (some 21) (.faddr 0 (.t 6)) <|
  .op (some 22) (.loadI .i64 (.t 21)) <|
  .op (some 23) (.bin .eql (.t 22) (.c (.int .i64 5))) <|
  .nil
def R_view_Machine_does_3 : Sts := .op (some 24) (.mv (.t 0)) <|
  .op (some 25) (.mv (.t 1)) <|
  .op (some 26) (.loadA 5 (.t 6)) <|
  .op (some 27) (.call 66 [(.t 24), (.t 25), (.t 26)]) <|
  .nil
def R_view_Machine_does_4 : Sts := .op (some 28) (.faddr 3 (.t 6)) <|
  .op (some 29) (.loadI .i64 (.t 28)) <|
  .op (some 8) (.mv (.t 29)) <|
  .nil
def R_view_Machine_does_5 : Sts := .op (some 30) (.faddr 0 (.t 6)) <|
  .op (some 31) (.loadI .i64 (.t 30)) <|
  .op (some 32) (.bin .eql (.t 31) (.c (.int .i64 1))) <|
  .nil
def R_view_Machine_does_6 : Sts := .op (some 33) (.faddr 2 (.t 6)) <|
  .op (some 34) (.loadI .i64 (.t 33)) <|
  .op (some 8) (.mv (.t 34)) <|
  .nil
def R_view_Machine_does_7 : AT := .q (.op 0 (some 35) (.mv (.t 0)) <|
  .op 1 (some 36) (.faddr 1 (.t 6)) <|
  .op 2 (some 37) (.loadI .i64 (.t 36)) <|
  .op 3 (some 38) (.nilck (.t 35)) <|
  .op 4 (some 39) (.faddr 2 (.t 38)) <|
  .op 5 (some 40) (.iaddrA 3 1 (.t 39) (.t 37)) <|
  .op 6 (some 41) (.loadS (.t 40)) <|
  .op 7 (some 42) (.faddr 0 (.t 7)) <|
  .op 8 (some 43) (.loadI .i64 (.t 42)) <|
  .op 9 (some 44) (.iaddrS 1 (.t 41) (.t 43)) <|
  .op 10 (some 45) (.loadI .i64 (.t 44)) <|
  .op 11 (some 9) (.mv (.t 45)) <|
  .nil) <|
  .fin
def R_view_Machine_does_8 : Sts := .op (some 46) (.mv (.t 0)) <|
  .op (some 47) (.mv (.t 1)) <|
  .op (some 48) (.mv (.t 9)) <|
  .op (some 49) (.loadA 5 (.t 6)) <|
  .op (some 50) (.call 67 [(.t 46), (.t 47), (.t 48), (.t 49)]) <|
  .nil
def R_view_Machine_does_9 : Sts := .op (some 51) (.faddr 0 (.t 6)) <|
  .op (some 52) (.loadI .i64 (.t 51)) <|
  .op (some 53) (.bin .eql (.t 52) (.c (.int .i64 2))) <|
  .nil
def R_view_Machine_does_10 : AT := .q (.op 0 (some 54) (.mv (.t 0)) <|
  .op 1 (some 55) (.nilck (.t 54)) <|
  .op 2 (some 56) (.faddr 1 (.t 55)) <|
  .op 3 (some 57) (.loadS (.t 56)) <|
  .op 4 (some 58) (.mv (.t 9)) <|
  .op 5 (some 59) (.iaddrS 5 (.t 57) (.t 58)) <|
  .op 6 (some 60) (.faddr 0 (.t 59)) <|
  .op 7 (some 61) (.loadI .i64 (.t 60)) <|
  .op 8 (some 62) (.faddr 2 (.t 6)) <|
  .op 9 (some 63) (.loadI .i64 (.t 62)) <|
  .op 10 (some 64) (.bin .add (.t 61) (.t 63)) <|
  .op 11 (some 8) (.mv (.t 64)) <|
  .nil) <|
  .fin
def R_view_Machine_does_11 : Sts := .op (some 65) (.faddr 1 (.t 7)) <|
  .op (some 66) (.loadB (.t 65)) <|
  .nil
def R_view_Machine_does_12 : Sts := .op (some 67) (.mv (.t 0)) <|
  .op (some 68) (.mv (.t 1)) <|
  .op (some 69) (.faddr 0 (.t 7)) <|
  .op (some 70) (.loadI .i64 (.t 69)) <|
  .op (some 71) (.mv (.t 8)) <|
  .op (some 72) (.loadA 5 (.t 6)) <|
  .op (some 73) (.faddr 0 (.t 6)) <|
  .op (some 74) (.loadI .i64 (.t 73)) <|
  .op (some 75) (.bin .neq (.t 74) (.c (.int .i64 1))) <|
  .op (some 76) (.call 68 [(.t 67), (.t 68), (.t 70), (.t 71), (.t 72), (.t 75)]) <|
  .nil
def R_view_Machine_does : RFun := ⟨77, [0, 1, 2, 3, 6, 7, 8, 9], (.seq (.reg R_view_Machine_does_0) (.seq (.reg R_view_Machine_does_1) (.seq (.seq (.reg R_view_Machine_does_2) (.cond (.t 23) (.seq (.reg R_view_Machine_does_3) .ret) .skip)) (.seq (.reg R_view_Machine_does_4) (.seq (.seq (.reg R_view_Machine_does_5) (.cond (.t 32) (.reg R_view_Machine_does_6) (.seq (.any R_view_Machine_does_7) (.seq (.reg R_view_Machine_does_8) (.seq (.reg R_view_Machine_does_9) (.cond (.t 53) (.any R_view_Machine_does_10) .skip)))))) (.seq (.reg R_view_Machine_does_11) (.cond (.t 66) (.reg R_view_Machine_does_12) .skip))))))), []⟩
theorem R_view_Machine_does_ok : compF Try.prog [0, 1, 2, 3, 6, 7, 8, 9] [28, 33, 19, 32, 29, 30, 73] 31 = some R_view_Machine_does := by kernel_rfl

/- (*lockless/view.Machine).there -/
def R_view_Machine_there_0 : Sts := .op (some 2) (.mv (.c (.bool false))) <|
  .nil
def R_view_Machine_there_1 : Sts := .op (some 3) (.mv (.t 0)) <|
  .op (some 4) (.eqp true (.t 3)) <|
  .op (some 5) (.mv (.t 4)) <|
  .cnd 5 true (
  .op (some 6) (.mv (.t 0)) <|
  .op (some 7) (.nilck (.t 6)) <|
  .op (some 8) (.faddr 5 (.t 7)) <|
  .op (some 9) (.loadS (.t 8)) <|
  .op (some 10) (.len (.t 9)) <|
  .op (some 11) (.bin .gtr (.t 10) (.c (.int .i64 0))) <|
  .nil) 12 (.t 11) <|
  .op (some 2) (.mv (.t 12)) <|
  .nil
def R_view_Machine_there : RFun := ⟨13, [0, 2], (.seq (.reg R_view_Machine_there_0) (.seq (.reg R_view_Machine_there_1) .ret)), [.tmp 2]⟩
theorem R_view_Machine_there_ok : compF Try.prog [0, 2] [28, 33, 19, 32, 29, 30, 73] 32 = some R_view_Machine_there := by kernel_rfl

/- (*lockless/view.Machine).place -/
def R_view_Machine_place_0 : Sts := .op (some 6) (.mv (.c (.int .i64 0))) <|
  .nil
def R_view_Machine_place_1 : Sts := .op (some 7) (.mv (.t 0)) <|
  .op (some 8) (.mv (.t 1)) <|
  .op (some 9) (.nilck (.t 7)) <|
  .op (some 10) (.faddr 2 (.t 9)) <|
  .op (some 11) (.iaddrA 3 1 (.t 10) (.t 8)) <|
  .op (some 12) (.loadS (.t 11)) <|
  .op (some 13) (.mv (.t 2)) <|
  .op (some 14) (.call 69 [(.t 12), (.t 13)]) <|
  .op (some 15) (.maxi (.c (.int .i64 0)) (.t 14)) <|
  .op (some 6) (.mv (.t 15)) <|
  .nil
def R_view_Machine_place : RFun := ⟨16, [0, 1, 2, 6], (.seq (.reg R_view_Machine_place_0) (.seq (.reg R_view_Machine_place_1) .ret)), [.tmp 6]⟩
theorem R_view_Machine_place_ok : compF Try.prog [0, 1, 2, 6] [28, 33, 19, 32, 29, 30, 73] 33 = some R_view_Machine_place := by kernel_rfl

/- (*lockless/view.Machine).left -/
def R_view_Machine_left_0 : Sts := .op (some 2) (.mv (.c (.slice none 0 0))) <|
  .nil
def R_view_Machine_left_1 : Sts := .op (some 3) (.mv (.c (.slice none 0 0))) <|
  .nil
def R_view_Machine_left_2 : Sts := .op (some 6) (.mv (.t 0)) <|
  .op (some 7) (.nilck (.t 6)) <|
  .op (some 8) (.faddr 5 (.t 7)) <|
  .op (some 9) (.loadS (.t 8)) <|
  .op (some 10) (.len (.t 9)) <|
  .op (some 11) (.mv (.c (.int .i64 0))) <|
  .nil
def R_view_Machine_left_3 : Sts := .op (some 12) (.bin .lss (.t 11) (.t 10)) <|
  .nil
def R_view_Machine_left_4 : Sts := .op (some 13) (.mv (.t 11)) <|
  .op (some 14) (.iaddrS 11 (.t 9) (.t 11)) <|
  .op (some 15) (.loadA 11 (.t 14)) <|
  .op (some 5) (.alloc 69 [(.int .i64 0), (.int .i64 0), (.int .i64 0), (.int .i64 0), (.int .i64 0), (.int .i64 0), (.int .i64 0), (.int .i64 0), (.int .i64 0), (.slice none 0 0), (.int .i64 0)]) <|
  .op (some 4) (.mv (.t 13)) <|
  .op none (.store 11 (.t 5) (.t 15)) <|
  .nil
def R_view_Machine_left_5 : AT := .q (.op 0 (some 16) (.mv (.t 3)) <|
  .op 1 (some 17) (.mv (.t 0)) <|
  .op 2 (some 18) (.nilck (.t 17)) <|
  .op 3 (some 19) (.faddr 0 (.t 18)) <|
  .op 4 (some 20) (.loadS (.t 19)) <|
  .op 5 (some 21) (.mv (.t 4)) <|
  .op 6 (some 22) (.iaddrS 1 (.t 20) (.t 21)) <|
  .op 7 (some 23) (.loadS (.t 22)) <|
  .op 8 (some 24) (.len (.t 23)) <|
  .op 9 (some 25) (.faddr 10 (.t 5)) <|
  .op 10 (some 26) (.loadI .i64 (.t 25)) <|
  .op 11 (some 27) (.bin .sub (.t 24) (.t 26)) <|
  .nil) <|
  .s 12 (some 28) (.buildSl 3 1 [(.int .i64 0)] [(0, 1, (.t 27))]) false (
  .q (.nil) <|
  .s 13 (some 29) (.append 3 1 8 [(.int .i64 0)] (.t 16) (.t 28)) true (
  .q (.op 14 (some 3) (.mv (.t 29)) <|
  .nil) <|
  .fin) <|
  .no) <|
  .no
def R_view_Machine_left_6 : Sts := .op (some 30) (.bin .add (.t 11) (.c (.int .i64 1))) <|
  .op (some 11) (.mv (.t 30)) <|
  .nil
def R_view_Machine_left_L7 : RCode := (.seq (.reg R_view_Machine_left_3) (.seq (.cond (.t 12) .skip (.exit 0)) (.seq (.block 1 (.seq (.reg R_view_Machine_left_4) (.any R_view_Machine_left_5))) (.reg R_view_Machine_left_6))))
def R_view_Machine_left_7 : Sts := .op (some 31) (.mv (.t 3)) <|
  .op (some 2) (.mv (.t 31)) <|
  .nil
def R_view_Machine_left : RFun := ⟨32, [0, 2, 3, 4, 5, 9, 10, 11], (.seq (.reg R_view_Machine_left_0) (.seq (.reg R_view_Machine_left_1) (.seq (.seq (.reg R_view_Machine_left_2) (.block 0 (.loop R_view_Machine_left_L7))) (.seq (.reg R_view_Machine_left_7) .ret)))), [.tmp 2]⟩
theorem R_view_Machine_left_ok : compF Try.prog [0, 2, 3, 4, 5, 9, 10, 11] [28, 33, 19, 32, 29, 30, 73] 36 = some R_view_Machine_left := by kernel_rfl

/- slices.ContainsFunc[[]int,int] -/
def R_slices_ContainsFunc_Lint_int_0 : Sts := .op (some 4) (.mv (.c (.bool false))) <|
  .nil
def R_slices_ContainsFunc_Lint_int_1 : Sts := .op (some 5) (.mv (.t 0)) <|
  .op (some 6) (.mv (.t 1)) <|
  .op (some 7) (.call 78 [(.t 5), (.t 6)]) <|
  .op (some 8) (.bin .geq (.t 7) (.c (.int .i64 0))) <|
  .op (some 4) (.mv (.t 8)) <|
  .nil
def R_slices_ContainsFunc_Lint_int : RFun := ⟨9, [0, 1, 4], (.seq (.reg R_slices_ContainsFunc_Lint_int_0) (.seq (.reg R_slices_ContainsFunc_Lint_int_1) .ret)), [.tmp 4]⟩
theorem R_slices_ContainsFunc_Lint_int_ok : compF Try.prog [0, 1, 4] [28, 33, 19, 32, 29, 30, 73] 57 = some R_slices_ContainsFunc_Lint_int := by kernel_rfl

/- (*lockless/view.Machine).Over$1 -/
def R_view_Machine_Over_S1_0 : Sts := .op (some 2) (.mv (.c (.bool false))) <|
  .nil
def R_view_Machine_Over_S1_1 : Sts := .op (some 3) (.mv (.t 0)) <|
  .op (some 4) (.bin .gtr (.t 3) (.c (.int .i64 0))) <|
  .op (some 2) (.mv (.t 4)) <|
  .nil
def R_view_Machine_Over_S1 : RFun := ⟨5, [0, 2], (.seq (.reg R_view_Machine_Over_S1_0) (.seq (.reg R_view_Machine_Over_S1_1) .ret)), [.tmp 2]⟩
theorem R_view_Machine_Over_S1_ok : compF Try.prog [0, 2] [28, 33, 19, 32, 29, 30, 73] 58 = some R_view_Machine_Over_S1 := by kernel_rfl

/- lockless/litmus.Check -/
def R_litmus_Check_0 : Sts := .op (some 1) (.box 24 (.t 0)) <|
  .op (some 2) (.mv (.c (.int .i64 0))) <|
  .nil
def R_litmus_Check_1 : Sts := .op (some 9) (.loadA 1 (.t 1)) <|
  .op (some 10) (.call 79 [(.t 9)]) <|
  .op (some 11) (.notb (.t 10)) <|
  .nil
def R_litmus_Check_2 : Sts := .op (some 2) (.mv (.c (.int .i64 2))) <|
  .nil
def R_litmus_Check_3 : Sts := .op (some 12) (.faddr 0 (.t 1)) <|
  .op (some 13) (.loadS (.t 12)) <|
  .op (some 14) (.len (.t 13)) <|
  .op (some 15) (.bin .eql (.t 14) (.c (.int .i64 0))) <|
  .nil
def R_litmus_Check_4 : Sts := .op (some 2) (.mv (.c (.int .i64 1))) <|
  .nil
def R_litmus_Check_5 : Sts := .op (some 16) (.faddr 0 (.t 1)) <|
  .op (some 17) (.loadS (.t 16)) <|
  .op (some 18) (.len (.t 17)) <|
  .op (some 19) (.mv (.c (.int .i64 0))) <|
  .nil
def R_litmus_Check_6 : Sts := .op (some 20) (.bin .lss (.t 19) (.t 18)) <|
  .nil
def R_litmus_Check_7 : Sts := .op (some 21) (.iaddrS 1 (.t 17) (.t 19)) <|
  .op (some 22) (.loadS (.t 21)) <|
  .op (some 4) (.mv (.t 22)) <|
  .nil
def R_litmus_Check_8 : Sts := .op (some 23) (.mv (.t 4)) <|
  .op (some 24) (.len (.t 23)) <|
  .op (some 25) (.mv (.c (.int .i64 0))) <|
  .nil
def R_litmus_Check_9 : Sts := .op (some 26) (.bin .lss (.t 25) (.t 24)) <|
  .nil
def R_litmus_Check_10 : Sts := .op (some 27) (.iaddrS 5 (.t 23) (.t 25)) <|
  .op (some 28) (.loadA 5 (.t 27)) <|
  .op (some 6) (.alloc 55 [(.int .i64 0), (.int .i64 0), (.int .i64 0), (.int .i64 0), (.int .i64 0)]) <|
  .op none (.store 5 (.t 6) (.t 28)) <|
  .nil
def R_litmus_Check_11 : Sts := .op (some 30) (.faddr 0 (.t 6)) <|
  .op (some 31) (.loadI .i64 (.t 30)) <|
  .op (some 32) (.faddr 4 (.t 6)) <|
  .op (some 33) (.loadI .i64 (.t 32)) <|
  .op (some 34) (.call 80 [(.t 31), (.t 33)]) <|
  .op (some 29) (.mv (.t 34)) <|
  .op (some 35) (.extract 0 (.t 29)) <|
  .op (some 36) (.extract 1 (.t 29)) <|
  .op (some 7) (.mv (.t 35)) <|
  .op (some 8) (.mv (.t 36)) <|
  .nil
def R_litmus_Check_12 : Sts := .op (some 37) (.mv (.t 8)) <|
  .op (some 38) (.bin .neq (.t 37) (.c (.int .i64 0))) <|
  .op (some 39) (.mv (.t 38)) <|
  .cnd 39 false (
  .op (some 40) (.mv (.t 7)) <|
  .op (some 41) (.notb (.t 40)) <|
  .nil) 42 (.t 41) <|
  .op (some 43) (.mv (.t 42)) <|
  .cnd 43 false (
  .op (some 44) (.loadA 5 (.t 6)) <|
  .op (some 45) (.call 81 [(.t 44)]) <|
  .op (some 46) (.notb (.t 45)) <|
  .nil) 47 (.t 46) <|
  .nil
def R_litmus_Check_13 : Sts := .op (some 2) (.mv (.c (.int .i64 1))) <|
  .nil
def R_litmus_Check_14 : Sts := .op (some 48) (.bin .add (.t 25) (.c (.int .i64 1))) <|
  .op (some 25) (.mv (.t 48)) <|
  .nil
def R_litmus_Check_L15 : RCode := (.seq (.reg R_litmus_Check_9) (.seq (.cond (.t 26) .skip (.exit 2)) (.seq (.block 3 (.seq (.reg R_litmus_Check_10) (.seq (.reg R_litmus_Check_11) (.seq (.reg R_litmus_Check_12) (.cond (.t 47) (.seq (.reg R_litmus_Check_13) .ret) .skip))))) (.reg R_litmus_Check_14))))
def R_litmus_Check_15 : Sts := .op (some 49) (.bin .add (.t 19) (.c (.int .i64 1))) <|
  .op (some 19) (.mv (.t 49)) <|
  .nil
def R_litmus_Check_L16 : RCode := (.seq (.reg R_litmus_Check_6) (.seq (.cond (.t 20) .skip (.exit 0)) (.seq (.block 1 (.seq (.reg R_litmus_Check_7) (.seq (.reg R_litmus_Check_8) (.block 2 (.loop R_litmus_Check_L15))))) (.reg R_litmus_Check_15))))
def R_litmus_Check_16 : Sts := .op (some 2) (.mv (.c (.int .i64 0))) <|
  .nil
def R_litmus_Check : RFun := ⟨50, [0, 1, 2, 4, 6, 7, 8, 17, 18, 19, 23, 24, 25], (.seq (.reg R_litmus_Check_0) (.seq (.seq (.reg R_litmus_Check_1) (.cond (.t 11) (.seq (.reg R_litmus_Check_2) .ret) .skip)) (.seq (.seq (.reg R_litmus_Check_3) (.cond (.t 15) (.seq (.reg R_litmus_Check_4) .ret) .skip)) (.seq (.seq (.reg R_litmus_Check_5) (.block 0 (.loop R_litmus_Check_L16))) (.seq (.reg R_litmus_Check_16) .ret))))), [.tmp 2]⟩
theorem R_litmus_Check_ok : compF Try.prog [0, 1, 2, 4, 6, 7, 8, 17, 18, 19, 23, 24, 25] [28, 33, 19, 32, 29, 30, 73] 59 = some R_litmus_Check := by kernel_rfl

/- lockless/litmus.rebuilt -/
def R_litmus_rebuilt_0 : Sts := .op (some 2) (.box 24 (.t 0)) <|
  .op (some 4) (.alloc 24 [(.slice none 0 0)]) <|
  .nil
def R_litmus_rebuilt_1 : Sts := .op (some 5) (.alloc 24 [(.slice none 0 0)]) <|
  .nil
def R_litmus_rebuilt_2 : Sts := .op (some 12) (.faddr 0 (.t 2)) <|
  .op (some 13) (.loadS (.t 12)) <|
  .op (some 14) (.len (.t 13)) <|
  .op (some 15) (.mv (.c (.int .i64 0))) <|
  .nil
def R_litmus_rebuilt_3 : Sts := .op (some 16) (.bin .lss (.t 15) (.t 14)) <|
  .nil
def R_litmus_rebuilt_4 : Sts := .op (some 17) (.iaddrS 1 (.t 13) (.t 15)) <|
  .op (some 18) (.loadS (.t 17)) <|
  .op (some 7) (.mv (.t 18)) <|
  .nil
def R_litmus_rebuilt_5 : Sts := .op (some 8) (.mv (.c (.slice none 0 0))) <|
  .nil
def R_litmus_rebuilt_6 : Sts := .op (some 9) (.mv (.c (.bool true))) <|
  .nil
def R_litmus_rebuilt_7 : Sts := .op (some 19) (.mv (.t 7)) <|
  .op (some 20) (.len (.t 19)) <|
  .op (some 21) (.mv (.c (.int .i64 0))) <|
  .nil
def R_litmus_rebuilt_8 : Sts := .op (some 22) (.bin .lss (.t 21) (.t 20)) <|
  .nil
def R_litmus_rebuilt_9 : Sts := .op (some 23) (.iaddrS 5 (.t 19) (.t 21)) <|
  .op (some 24) (.loadA 5 (.t 23)) <|
  .op (some 11) (.alloc 55 [(.int .i64 0), (.int .i64 0), (.int .i64 0), (.int .i64 0), (.int .i64 0)]) <|
  .op none (.store 5 (.t 11) (.t 24)) <|
  .nil
def R_litmus_rebuilt_10 : Sts := .op (some 25) (.mv (.t 8)) <|
  .op (some 26) (.mv (.t 1)) <|
  .op (some 27) (.loadA 5 (.t 11)) <|
  .op (some 28) (.mv (.t 9)) <|
  .op (some 29) (.callv (.t 26) [(.t 27), (.t 28)]) <|
  .op (some 30) (.append 55 5 40 [(.int .i64 0), (.int .i64 0), (.int .i64 0), (.int .i64 0), (.int .i64 0)] (.t 25) (.t 29)) <|
  .op (some 8) (.mv (.t 30)) <|
  .nil
def R_litmus_rebuilt_11 : Sts := .op (some 31) (.mv (.t 9)) <|
  .op (some 32) (.mv (.t 31)) <|
  .cnd 32 true (
  .op (some 33) (.loadA 5 (.t 11)) <|
  .op (some 34) (.call 62 [(.t 33)]) <|
  .op (some 35) (.notb (.t 34)) <|
  .nil) 36 (.t 35) <|
  .op (some 9) (.mv (.t 36)) <|
  .nil
def R_litmus_rebuilt_12 : Sts := .op (some 37) (.bin .add (.t 21) (.c (.int .i64 1))) <|
  .op (some 21) (.mv (.t 37)) <|
  .nil
def R_litmus_rebuilt_L13 : RCode := (.seq (.reg R_litmus_rebuilt_8) (.seq (.cond (.t 22) .skip (.exit 2)) (.seq (.block 3 (.seq (.reg R_litmus_rebuilt_9) (.seq (.reg R_litmus_rebuilt_10) (.reg R_litmus_rebuilt_11)))) (.reg R_litmus_rebuilt_12))))
def R_litmus_rebuilt_13 : Sts := .op (some 38) (.faddr 0 (.t 5)) <|
  .op (some 39) (.loadS (.t 38)) <|
  .op (some 40) (.mv (.t 8)) <|
  .op (some 41) (.buildSl 53 1 [(.slice none 0 0)] [(0, 1, (.t 40))]) <|
  .op (some 42) (.append 53 1 24 [(.slice none 0 0)] (.t 39) (.t 41)) <|
  .op (some 43) (.faddr 0 (.t 5)) <|
  .op none (.store 1 (.t 43) (.t 42)) <|
  .nil
def R_litmus_rebuilt_14 : Sts := .op (some 44) (.bin .add (.t 15) (.c (.int .i64 1))) <|
  .op (some 15) (.mv (.t 44)) <|
  .nil
def R_litmus_rebuilt_L15 : RCode := (.seq (.reg R_litmus_rebuilt_3) (.seq (.cond (.t 16) .skip (.exit 0)) (.seq (.block 1 (.seq (.reg R_litmus_rebuilt_4) (.seq (.reg R_litmus_rebuilt_5) (.seq (.reg R_litmus_rebuilt_6) (.seq (.seq (.reg R_litmus_rebuilt_7) (.block 2 (.loop R_litmus_rebuilt_L13))) (.reg R_litmus_rebuilt_13)))))) (.reg R_litmus_rebuilt_14))))
def R_litmus_rebuilt_15 : Sts := .op (some 45) (.loadA 1 (.t 5)) <|
  .op none (.store 1 (.t 4) (.t 45)) <|
  .nil
def R_litmus_rebuilt : RFun := ⟨46, [0, 1, 2, 4, 5, 7, 8, 9, 11, 13, 14, 15, 19, 20, 21], (.seq (.reg R_litmus_rebuilt_0) (.seq (.reg R_litmus_rebuilt_1) (.seq (.seq (.reg R_litmus_rebuilt_2) (.block 0 (.loop R_litmus_rebuilt_L15))) (.seq (.reg R_litmus_rebuilt_15) .ret)))), [.cellA 4 1]⟩
theorem R_litmus_rebuilt_ok : compF Try.prog [0, 1, 2, 4, 5, 7, 8, 9, 11, 13, 14, 15, 19, 20, 21] [28, 33, 19, 32, 29, 30, 73] 60 = some R_litmus_rebuilt := by kernel_rfl

/- lockless/litmus.Expand$1 -/
def R_litmus_Expand_S1_0 : Sts := .op (some 2) (.box 55 (.t 0)) <|
  .op (some 4) (.mv (.c (.slice none 0 0))) <|
  .nil
def R_litmus_Expand_S1_1 : Sts := .op (some 5) (.loadA 5 (.t 2)) <|
  .op (some 6) (.call 62 [(.t 5)]) <|
  .op (some 7) (.notb (.t 6)) <|
  .op (some 8) (.mv (.t 7)) <|
  .cnd 8 false (
  .op (some 9) (.faddr 4 (.t 2)) <|
  .op (some 10) (.loadI .i64 (.t 9)) <|
  .op (some 11) (.bin .neq (.t 10) (.c (.int .i64 4))) <|
  .nil) 12 (.t 11) <|
  .nil
def R_litmus_Expand_S1_2 : Sts := .op (some 13) (.loadA 5 (.t 2)) <|
  .op (some 14) (.buildSl 55 1 [(.int .i64 0), (.int .i64 0), (.int .i64 0), (.int .i64 0), (.int .i64 0)] [(0, 5, (.t 13))]) <|
  .op (some 4) (.mv (.t 14)) <|
  .nil
def R_litmus_Expand_S1_3 : Sts := .op (some 16) (.faddr 0 (.t 2)) <|
  .op (some 17) (.loadI .i64 (.t 16)) <|
  .op (some 18) (.faddr 4 (.t 2)) <|
  .op (some 19) (.loadI .i64 (.t 18)) <|
  .op (some 20) (.call 63 [(.t 17), (.t 19)]) <|
  .op (some 15) (.mv (.t 20)) <|
  .op (some 21) (.extract 0 (.t 15)) <|
  .op (some 22) (.extract 1 (.t 15)) <|
  .op (some 23) (.faddr 4 (.t 2)) <|
  .op none (.store 1 (.t 23) (.t 21)) <|
  .nil
def R_litmus_Expand_S1_4 : AT := .q (.op 1 (some 25) (.loadA 5 (.t 2)) <|
  .nil) <|
  .s 0 (some 24) (.call 64 []) false (
  .q (.nil) <|
  .s 2 (some 26) (.call 64 []) false (
  .q (.nil) <|
  .s 3 (some 27) (.buildSl 55 3 [(.int .i64 0), (.int .i64 0), (.int .i64 0), (.int .i64 0), (.int .i64 0), (.int .i64 0), (.int .i64 0), (.int .i64 0), (.int .i64 0), (.int .i64 0), (.int .i64 0), (.int .i64 0), (.int .i64 0), (.int .i64 0), (.int .i64 0)] [(0, 5, (.t 24)), (5, 5, (.t 25)), (10, 5, (.t 26))]) true (
  .q (.op 4 (some 4) (.mv (.t 27)) <|
  .nil) <|
  .fin) <|
  .no) <|
  .no) <|
  .no
def R_litmus_Expand_S1 : RFun := ⟨28, [0, 2, 4], (.seq (.reg R_litmus_Expand_S1_0) (.seq (.seq (.reg R_litmus_Expand_S1_1) (.cond (.t 12) (.seq (.reg R_litmus_Expand_S1_2) .ret) .skip)) (.seq (.reg R_litmus_Expand_S1_3) (.seq (.any R_litmus_Expand_S1_4) .ret)))), [.tmp 4]⟩
theorem R_litmus_Expand_S1_ok : compF Try.prog [0, 2, 4] [28, 33, 19, 32, 29, 30, 73] 61 = some R_litmus_Expand_S1 := by kernel_rfl

/- lockless/litmus.access -/
def R_litmus_access_0 : Sts := .op (some 1) (.box 55 (.t 0)) <|
  .op (some 2) (.mv (.c (.bool false))) <|
  .nil
def R_litmus_access_1 : Sts := .op (some 3) (.faddr 0 (.t 1)) <|
  .op (some 4) (.loadI .i64 (.t 3)) <|
  .op (some 5) (.bin .geq (.t 4) (.c (.int .i64 0))) <|
  .op (some 6) (.mv (.t 5)) <|
  .cnd 6 true (
  .op (some 7) (.faddr 0 (.t 1)) <|
  .op (some 8) (.loadI .i64 (.t 7)) <|
  .op (some 9) (.bin .leq (.t 8) (.c (.int .i64 4))) <|
  .nil) 10 (.t 9) <|
  .op (some 2) (.mv (.t 10)) <|
  .nil
def R_litmus_access : RFun := ⟨11, [0, 1, 2], (.seq (.reg R_litmus_access_0) (.seq (.reg R_litmus_access_1) .ret)), [.tmp 2]⟩
theorem R_litmus_access_ok : compF Try.prog [0, 1, 2] [28, 33, 19, 32, 29, 30, 73] 62 = some R_litmus_access := by kernel_rfl

/- lockless/order.Plain -/
def R_order_Plain_0 : Sts := .op (some 4) (.mv (.c (.int .i64 0))) <|
  .op (some 5) (.mv (.c (.int .i64 0))) <|
  .nil
def R_order_Plain_1 : Sts := .op (some 9) (.mv (.t 0)) <|
  .op (some 10) (.mv (.t 1)) <|
  .op (some 11) (.call 80 [(.t 9), (.t 10)]) <|
  .op (some 8) (.mv (.t 11)) <|
  .op (some 12) (.extract 0 (.t 8)) <|
  .op (some 13) (.extract 1 (.t 8)) <|
  .op (some 6) (.mv (.t 12)) <|
  .op (some 7) (.mv (.t 13)) <|
  .nil
def R_order_Plain_2 : Sts := .op (some 15) (.mv (.t 7)) <|
  .op (some 16) (.bin .neq (.t 15) (.c (.int .i64 0))) <|
  .op (some 17) (.mv (.t 16)) <|
  .cnd 17 false (
  .op (some 18) (.mv (.t 6)) <|
  .op (some 19) (.notb (.t 18)) <|
  .nil) 20 (.t 19) <|
  .op (some 21) (.mv (.t 20)) <|
  .cnd 21 false (
  .op (some 22) (.mv (.t 0)) <|
  .op (some 23) (.bin .eql (.t 22) (.c (.int .i64 5))) <|
  .nil) 24 (.t 23) <|
  .op (some 14) (.mv (.t 24)) <|
  .nil
def R_order_Plain_3 : Sts := .op (some 4) (.mv (.c (.int .i64 0))) <|
  .op (some 5) (.mv (.c (.int .i64 1))) <|
  .nil
def R_order_Plain_4 : Sts := .op (some 26) (.mv (.t 1)) <|
  .op (some 27) (.bin .neq (.t 26) (.c (.int .i64 4))) <|
  .op (some 25) (.mv (.t 27)) <|
  .nil
def R_order_Plain_5 : Sts := .op (some 28) (.mv (.t 1)) <|
  .op (some 4) (.mv (.t 28)) <|
  .op (some 5) (.mv (.c (.int .i64 0))) <|
  .nil
def R_order_Plain_6 : Sts := .op (some 30) (.mv (.t 0)) <|
  .op (some 31) (.bin .eql (.t 30) (.c (.int .i64 0))) <|
  .op (some 29) (.mv (.t 31)) <|
  .nil
def R_order_Plain_7 : Sts := .op (some 4) (.mv (.c (.int .i64 1))) <|
  .op (some 5) (.mv (.c (.int .i64 0))) <|
  .nil
def R_order_Plain_8 : Sts := .op (some 33) (.mv (.t 0)) <|
  .op (some 34) (.bin .eql (.t 33) (.c (.int .i64 1))) <|
  .op (some 32) (.mv (.t 34)) <|
  .nil
def R_order_Plain_9 : Sts := .op (some 4) (.mv (.c (.int .i64 2))) <|
  .op (some 5) (.mv (.c (.int .i64 0))) <|
  .nil
def R_order_Plain_10 : Sts := .op (some 4) (.mv (.c (.int .i64 3))) <|
  .op (some 5) (.mv (.c (.int .i64 0))) <|
  .nil
def R_order_Plain : RFun := ⟨35, [0, 1, 4, 5, 6, 7], (.seq (.reg R_order_Plain_0) (.seq (.reg R_order_Plain_1) (.seq (.block 0 (.seq (.reg R_order_Plain_2) (.cond (.t 14) (.seq (.reg R_order_Plain_3) .ret) (.seq (.reg R_order_Plain_4) (.cond (.t 25) (.seq (.reg R_order_Plain_5) .ret) (.seq (.reg R_order_Plain_6) (.cond (.t 29) (.seq (.reg R_order_Plain_7) .ret) (.seq (.reg R_order_Plain_8) (.cond (.t 32) (.seq (.reg R_order_Plain_9) .ret) .skip))))))))) (.seq (.reg R_order_Plain_10) .ret)))), [.tmp 4, .tmp 5]⟩
theorem R_order_Plain_ok : compF Try.prog [0, 1, 4, 5, 6, 7] [28, 33, 19, 32, 29, 30, 73] 63 = some R_order_Plain := by kernel_rfl

/- lockless/litmus.strongFence -/
def R_litmus_strongFence_0 : Sts := .op (some 0) (.alloc 55 [(.int .i64 0), (.int .i64 0), (.int .i64 0), (.int .i64 0), (.int .i64 0)]) <|
  .nil
def R_litmus_strongFence_1 : Sts := .op (some 1) (.build [(.int .i64 0), (.int .i64 0), (.int .i64 0), (.int .i64 0), (.int .i64 0)] [(0, 1, (.c (.int .i64 5))), (4, 1, (.c (.int .i64 4)))]) <|
  .op none (.store 5 (.t 0) (.t 1)) <|
  .nil
def R_litmus_strongFence : RFun := ⟨2, [0], (.seq (.reg R_litmus_strongFence_0) (.seq (.reg R_litmus_strongFence_1) .ret)), [.cellA 0 5]⟩
theorem R_litmus_strongFence_ok : compF Try.prog [0] [28, 33, 19, 32, 29, 30, 73] 64 = some R_litmus_strongFence := by kernel_rfl

/- (*lockless/view.Machine).bound -/
def R_view_Machine_bound_0 : Sts := .op (some 6) (.mv (.c (.bool false))) <|
  .nil
def R_view_Machine_bound_1 : Sts := .op (some 8) (.mv (.t 0)) <|
  .op (some 9) (.mv (.t 1)) <|
  .op (some 10) (.nilck (.t 8)) <|
  .op (some 11) (.faddr 2 (.t 10)) <|
  .op (some 12) (.iaddrA 3 1 (.t 11) (.t 9)) <|
  .op (some 13) (.loadS (.t 12)) <|
  .op (some 7) (.mv (.t 13)) <|
  .nil
def R_view_Machine_bound_2 : AT := .q (.op 0 (some 14) (.mv (.t 2)) <|
  .op 1 (some 15) (.bin .add (.t 14) (.c (.int .i64 1))) <|
  .op 2 (some 16) (.mv (.t 7)) <|
  .op 3 (some 17) (.len (.t 16)) <|
  .op 4 (some 18) (.bin .lss (.t 15) (.t 17)) <|
  .op 5 (some 19) (.mv (.t 18)) <|
  .g 19 true (
  .op 6 (some 20) (.mv (.t 0)) <|
  .op 7 (some 21) (.nilck (.t 20)) <|
  .op 8 (some 22) (.faddr 1 (.t 21)) <|
  .op 9 (some 23) (.loadS (.t 22)) <|
  .op 10 (some 24) (.mv (.t 7)) <|
  .op 11 (some 25) (.mv (.t 2)) <|
  .op 12 (some 26) (.bin .add (.t 25) (.c (.int .i64 1))) <|
  .op 13 (some 27) (.iaddrS 1 (.t 24) (.t 26)) <|
  .op 14 (some 28) (.loadI .i64 (.t 27)) <|
  .op 15 (some 29) (.iaddrS 5 (.t 23) (.t 28)) <|
  .op 16 (some 30) (.faddr 4 (.t 29)) <|
  .op 17 (some 31) (.loadB (.t 30)) <|
  .nil) 18 32 (.t 31) <|
  .op 19 (some 6) (.mv (.t 32)) <|
  .nil) <|
  .fin
def R_view_Machine_bound : RFun := ⟨33, [0, 1, 2, 6, 7], (.seq (.reg R_view_Machine_bound_0) (.seq (.reg R_view_Machine_bound_1) (.seq (.any R_view_Machine_bound_2) .ret))), [.tmp 6]⟩
theorem R_view_Machine_bound_ok : compF Try.prog [0, 1, 2, 6, 7] [28, 33, 19, 32, 29, 30, 73] 65 = some R_view_Machine_bound := by kernel_rfl

/- (*lockless/view.Machine).fenced -/
def R_view_Machine_fenced_0 : Sts := .op (some 5) (.box 55 (.t 2)) <|
  .nil
def R_view_Machine_fenced_1 : Sts := .op (some 11) (.mv (.t 0)) <|
  .op (some 12) (.nilck (.t 11)) <|
  .op (some 13) (.faddr 5 (.t 12)) <|
  .op (some 14) (.loadS (.t 13)) <|
  .op (some 15) (.mv (.t 1)) <|
  .op (some 16) (.iaddrS 11 (.t 14) (.t 15)) <|
  .op (some 6) (.mv (.t 16)) <|
  .nil
def R_view_Machine_fenced_2 : Sts := .op (some 18) (.faddr 4 (.t 5)) <|
  .op (some 19) (.loadI .i64 (.t 18)) <|
  .op (some 20) (.call 82 [(.t 19)]) <|
  .op (some 17) (.mv (.t 20)) <|
  .op (some 21) (.extract 0 (.t 17)) <|
  .op (some 22) (.extract 1 (.t 17)) <|
  .op (some 7) (.mv (.t 21)) <|
  .op (some 8) (.mv (.t 22)) <|
  .nil
def R_view_Machine_fenced_3 : Sts := .op (some 23) (.mv (.t 7)) <|
  .nil
def R_view_Machine_fenced_4 : AT := .q (.op 0 (some 24) (.mv (.t 6)) <|
  .op 1 (some 25) (.mv (.t 0)) <|
  .op 2 (some 26) (.mv (.t 6)) <|
  .op 3 (some 27) (.nilck (.t 26)) <|
  .op 4 (some 28) (.faddr 0 (.t 27)) <|
  .op 5 (some 29) (.loadA 3 (.t 28)) <|
  .op 6 (some 30) (.mv (.t 6)) <|
  .op 7 (some 31) (.nilck (.t 30)) <|
  .op 8 (some 32) (.faddr 3 (.t 31)) <|
  .op 9 (some 33) (.loadA 3 (.t 32)) <|
  .nil) <|
  .s 10 (some 34) (.call 83 [(.t 25), (.t 29), (.t 33)]) false (
  .q (.op 11 (some 35) (.nilck (.t 24)) <|
  .op 12 (some 36) (.faddr 0 (.t 35)) <|
  .nil) <|
  .s 13 none (.store 3 (.t 36) (.t 34)) true (
  .q (.nil) <|
  .fin) <|
  .no) <|
  .no
def R_view_Machine_fenced_5 : Sts := .op (some 37) (.faddr 4 (.t 5)) <|
  .op (some 38) (.loadI .i64 (.t 37)) <|
  .op (some 39) (.bin .eql (.t 38) (.c (.int .i64 4))) <|
  .nil
def R_view_Machine_fenced_6 : AT := .q (.op 0 (some 40) (.mv (.t 6)) <|
  .op 1 (some 41) (.mv (.t 0)) <|
  .op 2 (some 42) (.mv (.t 6)) <|
  .op 3 (some 43) (.nilck (.t 42)) <|
  .op 4 (some 44) (.faddr 0 (.t 43)) <|
  .op 5 (some 45) (.loadA 3 (.t 44)) <|
  .op 6 (some 46) (.mv (.t 0)) <|
  .op 7 (some 47) (.nilck (.t 46)) <|
  .op 8 (some 48) (.faddr 6 (.t 47)) <|
  .op 9 (some 49) (.loadA 3 (.t 48)) <|
  .nil) <|
  .s 10 (some 50) (.call 83 [(.t 41), (.t 45), (.t 49)]) false (
  .q (.op 11 (some 51) (.nilck (.t 40)) <|
  .op 12 (some 52) (.faddr 0 (.t 51)) <|
  .nil) <|
  .s 13 none (.store 3 (.t 52) (.t 50)) true (
  .q (.nil) <|
  .fin) <|
  .no) <|
  .no
def R_view_Machine_fenced_7 : Sts := .op (some 53) (.mv (.t 0)) <|
  .op (some 54) (.mv (.t 6)) <|
  .op (some 55) (.nilck (.t 54)) <|
  .op (some 56) (.faddr 0 (.t 55)) <|
  .op (some 57) (.loadA 3 (.t 56)) <|
  .op (some 58) (.nilck (.t 53)) <|
  .op (some 59) (.faddr 6 (.t 58)) <|
  .op none (.store 3 (.t 59) (.t 57)) <|
  .nil
def R_view_Machine_fenced_8 : AT := .q (.op 0 (some 60) (.mv (.t 6)) <|
  .op 1 (some 61) (.mv (.t 0)) <|
  .op 2 (some 62) (.mv (.t 6)) <|
  .op 3 (some 63) (.nilck (.t 62)) <|
  .op 4 (some 64) (.faddr 3 (.t 63)) <|
  .op 5 (some 65) (.loadA 3 (.t 64)) <|
  .op 6 (some 66) (.mv (.t 6)) <|
  .op 7 (some 67) (.nilck (.t 66)) <|
  .op 8 (some 68) (.faddr 0 (.t 67)) <|
  .op 9 (some 69) (.loadA 3 (.t 68)) <|
  .nil) <|
  .s 10 (some 70) (.call 83 [(.t 61), (.t 65), (.t 69)]) false (
  .q (.op 11 (some 71) (.nilck (.t 60)) <|
  .op 12 (some 72) (.faddr 3 (.t 71)) <|
  .nil) <|
  .s 13 none (.store 3 (.t 72) (.t 70)) true (
  .q (.nil) <|
  .fin) <|
  .no) <|
  .no
def R_view_Machine_fenced_9 : Sts := .op (some 74) (.faddr 4 (.t 5)) <|
  .op (some 75) (.loadI .i64 (.t 74)) <|
  .op (some 76) (.call 84 [(.t 75)]) <|
  .op (some 73) (.mv (.t 76)) <|
  .op (some 77) (.extract 0 (.t 73)) <|
  .op (some 78) (.extract 1 (.t 73)) <|
  .op (some 9) (.mv (.t 77)) <|
  .op (some 10) (.mv (.t 78)) <|
  .nil
def R_view_Machine_fenced_10 : Sts := .op (some 79) (.mv (.t 9)) <|
  .nil
def R_view_Machine_fenced_11 : Sts := .op (some 80) (.mv (.t 6)) <|
  .op (some 81) (.mv (.t 6)) <|
  .op (some 82) (.nilck (.t 81)) <|
  .op (some 83) (.faddr 0 (.t 82)) <|
  .op (some 84) (.loadA 3 (.t 83)) <|
  .op (some 85) (.nilck (.t 80)) <|
  .op (some 86) (.faddr 6 (.t 85)) <|
  .op none (.store 3 (.t 86) (.t 84)) <|
  .nil
def R_view_Machine_fenced : RFun := ⟨87, [0, 1, 2, 5, 6, 7, 9], (.seq (.reg R_view_Machine_fenced_0) (.seq (.reg R_view_Machine_fenced_1) (.seq (.seq (.reg R_view_Machine_fenced_2) (.seq (.reg R_view_Machine_fenced_3) (.cond (.t 23) (.any R_view_Machine_fenced_4) .skip))) (.seq (.seq (.reg R_view_Machine_fenced_5) (.cond (.t 39) (.seq (.any R_view_Machine_fenced_6) (.seq (.reg R_view_Machine_fenced_7) (.any R_view_Machine_fenced_8))) .skip)) (.seq (.reg R_view_Machine_fenced_9) (.seq (.reg R_view_Machine_fenced_10) (.cond (.t 79) (.reg R_view_Machine_fenced_11) .skip))))))), []⟩
theorem R_view_Machine_fenced_ok : compF Try.prog [0, 1, 2, 5, 6, 7, 9] [28, 33, 19, 32, 29, 30, 73] 66 = some R_view_Machine_fenced := by kernel_rfl

/- (*lockless/view.Machine).reads -/
def R_view_Machine_reads_0 : Sts := .op (some 7) (.box 55 (.t 3)) <|
  .nil
def R_view_Machine_reads_1 : Sts := .op (some 12) (.mv (.t 0)) <|
  .op (some 13) (.nilck (.t 12)) <|
  .op (some 14) (.faddr 5 (.t 13)) <|
  .op (some 15) (.loadS (.t 14)) <|
  .op (some 16) (.mv (.t 1)) <|
  .op (some 17) (.iaddrS 11 (.t 15) (.t 16)) <|
  .op (some 8) (.mv (.t 17)) <|
  .nil
def R_view_Machine_reads_2 : AT := .q (.op 0 (some 18) (.mv (.t 8)) <|
  .op 1 (some 19) (.mv (.t 8)) <|
  .op 2 (some 20) (.nilck (.t 19)) <|
  .op 3 (some 21) (.faddr 9 (.t 20)) <|
  .op 4 (some 22) (.loadS (.t 21)) <|
  .op 5 (some 23) (.mv (.t 0)) <|
  .op 6 (some 24) (.nilck (.t 23)) <|
  .op 7 (some 25) (.faddr 1 (.t 24)) <|
  .op 8 (some 26) (.loadS (.t 25)) <|
  .op 9 (some 27) (.mv (.t 2)) <|
  .op 10 (some 28) (.iaddrS 5 (.t 26) (.t 27)) <|
  .op 11 (some 29) (.faddr 0 (.t 28)) <|
  .op 12 (some 30) (.loadI .i64 (.t 29)) <|
  .nil) <|
  .s 13 (some 31) (.buildSl 3 1 [(.int .i64 0)] [(0, 1, (.t 30))]) false (
  .q (.nil) <|
  .s 14 (some 32) (.append 3 1 8 [(.int .i64 0)] (.t 22) (.t 31)) false (
  .q (.op 15 (some 33) (.nilck (.t 18)) <|
  .op 16 (some 34) (.faddr 9 (.t 33)) <|
  .nil) <|
  .s 17 none (.store 1 (.t 34) (.t 32)) true (
  .q (.nil) <|
  .fin) <|
  .no) <|
  .no) <|
  .no
def R_view_Machine_reads_3 : Sts := .op (some 35) (.mv (.t 0)) <|
  .op (some 36) (.nilck (.t 35)) <|
  .op (some 37) (.faddr 1 (.t 36)) <|
  .op (some 38) (.loadS (.t 37)) <|
  .op (some 39) (.mv (.t 2)) <|
  .op (some 40) (.iaddrS 5 (.t 38) (.t 39)) <|
  .op (some 41) (.faddr 1 (.t 40)) <|
  .op (some 42) (.loadA 3 (.t 41)) <|
  .op (some 9) (.alloc 59 [(.int .i64 0), (.int .i64 0), (.int .i64 0)]) <|
  .op none (.store 3 (.t 9) (.t 42)) <|
  .nil
def R_view_Machine_reads_4 : AT := .q (.op 0 (some 43) (.mv (.t 8)) <|
  .op 1 (some 44) (.faddr 1 (.t 7)) <|
  .op 2 (some 45) (.loadI .i64 (.t 44)) <|
  .op 3 (some 46) (.mv (.t 2)) <|
  .op 4 (some 47) (.nilck (.t 43)) <|
  .op 5 (some 48) (.faddr 0 (.t 47)) <|
  .op 6 (some 49) (.iaddrA 3 1 (.t 48) (.t 45)) <|
  .nil) <|
  .s 7 none (.store 1 (.t 49) (.t 46)) true (
  .q (.nil) <|
  .fin) <|
  .no
def R_view_Machine_reads_5 : Sts := .op (some 51) (.faddr 4 (.t 7)) <|
  .op (some 52) (.loadI .i64 (.t 51)) <|
  .op (some 53) (.call 82 [(.t 52)]) <|
  .op (some 50) (.mv (.t 53)) <|
  .op (some 54) (.extract 0 (.t 50)) <|
  .op (some 55) (.extract 1 (.t 50)) <|
  .op (some 10) (.mv (.t 54)) <|
  .op (some 11) (.mv (.t 55)) <|
  .nil
def R_view_Machine_reads_6 : Sts := .op (some 56) (.mv (.t 10)) <|
  .nil
def R_view_Machine_reads_7 : AT := .q (.op 0 (some 57) (.mv (.t 8)) <|
  .op 1 (some 58) (.mv (.t 0)) <|
  .op 2 (some 59) (.mv (.t 8)) <|
  .op 3 (some 60) (.nilck (.t 59)) <|
  .op 4 (some 61) (.faddr 0 (.t 60)) <|
  .op 5 (some 62) (.loadA 3 (.t 61)) <|
  .op 6 (some 63) (.loadA 3 (.t 9)) <|
  .nil) <|
  .s 7 (some 64) (.call 83 [(.t 58), (.t 62), (.t 63)]) false (
  .q (.op 8 (some 65) (.nilck (.t 57)) <|
  .op 9 (some 66) (.faddr 0 (.t 65)) <|
  .nil) <|
  .s 10 none (.store 3 (.t 66) (.t 64)) true (
  .q (.nil) <|
  .fin) <|
  .no) <|
  .no
def R_view_Machine_reads_8 : AT := .q (.op 0 (some 67) (.mv (.t 8)) <|
  .op 1 (some 68) (.mv (.t 0)) <|
  .op 2 (some 69) (.mv (.t 0)) <|
  .op 3 (some 70) (.mv (.t 8)) <|
  .op 4 (some 71) (.nilck (.t 70)) <|
  .op 5 (some 72) (.faddr 3 (.t 71)) <|
  .op 6 (some 73) (.loadA 3 (.t 72)) <|
  .op 7 (some 74) (.loadA 3 (.t 9)) <|
  .op 9 (some 76) (.mv (.t 8)) <|
  .op 10 (some 77) (.nilck (.t 76)) <|
  .op 11 (some 78) (.faddr 0 (.t 77)) <|
  .op 12 (some 79) (.loadA 3 (.t 78)) <|
  .nil) <|
  .s 8 (some 75) (.call 83 [(.t 69), (.t 73), (.t 74)]) false (
  .q (.nil) <|
  .s 13 (some 80) (.call 83 [(.t 68), (.t 75), (.t 79)]) false (
  .q (.op 14 (some 81) (.nilck (.t 67)) <|
  .op 15 (some 82) (.faddr 3 (.t 81)) <|
  .nil) <|
  .s 16 none (.store 3 (.t 82) (.t 80)) true (
  .q (.nil) <|
  .fin) <|
  .no) <|
  .no) <|
  .no
def R_view_Machine_reads : RFun := ⟨83, [0, 1, 2, 3, 7, 8, 9, 10], (.seq (.reg R_view_Machine_reads_0) (.seq (.reg R_view_Machine_reads_1) (.seq (.any R_view_Machine_reads_2) (.seq (.reg R_view_Machine_reads_3) (.seq (.any R_view_Machine_reads_4) (.seq (.seq (.reg R_view_Machine_reads_5) (.seq (.reg R_view_Machine_reads_6) (.cond (.t 56) (.any R_view_Machine_reads_7) .skip))) (.any R_view_Machine_reads_8))))))), []⟩
theorem R_view_Machine_reads_ok : compF Try.prog [0, 1, 2, 3, 7, 8, 9, 10] [28, 33, 19, 32, 29, 30, 73] 67 = some R_view_Machine_reads := by kernel_rfl

/- (*lockless/view.Machine).writes -/
def R_view_Machine_writes_0 : Sts := .op (some 10) (.box 55 (.t 4)) <|
  .nil
def R_view_Machine_writes_1 : Sts := .op (some 18) (.mv (.t 0)) <|
  .op (some 19) (.nilck (.t 18)) <|
  .op (some 20) (.faddr 5 (.t 19)) <|
  .op (some 21) (.loadS (.t 20)) <|
  .op (some 22) (.mv (.t 1)) <|
  .op (some 23) (.iaddrS 11 (.t 21) (.t 22)) <|
  .op (some 12) (.mv (.t 23)) <|
  .nil
def R_view_Machine_writes_2 : Sts := .op (some 24) (.mv (.t 0)) <|
  .op (some 25) (.nilck (.t 24)) <|
  .op (some 26) (.faddr 1 (.t 25)) <|
  .op (some 27) (.loadS (.t 26)) <|
  .op (some 28) (.len (.t 27)) <|
  .op (some 13) (.mv (.t 28)) <|
  .nil
def R_view_Machine_writes_3 : AT := .q (.op 0 (some 29) (.mv (.t 0)) <|
  .op 1 (some 30) (.faddr 1 (.t 10)) <|
  .op 2 (some 31) (.loadI .i64 (.t 30)) <|
  .op 3 (some 32) (.nilck (.t 29)) <|
  .op 4 (some 33) (.faddr 2 (.t 32)) <|
  .op 5 (some 34) (.iaddrA 3 1 (.t 33) (.t 31)) <|
  .op 6 (some 35) (.loadS (.t 34)) <|
  .op 7 (some 36) (.mv (.t 2)) <|
  .op 8 (some 37) (.iaddrS 1 (.t 35) (.t 36)) <|
  .op 9 (some 38) (.loadI .i64 (.t 37)) <|
  .op 10 (some 14) (.mv (.t 38)) <|
  .nil) <|
  .fin
def R_view_Machine_writes_4 : AT := .q (.op 0 (some 39) (.mv (.t 0)) <|
  .op 1 (some 40) (.faddr 1 (.t 10)) <|
  .op 2 (some 41) (.loadI .i64 (.t 40)) <|
  .op 3 (some 42) (.mv (.t 0)) <|
  .op 4 (some 43) (.faddr 1 (.t 10)) <|
  .op 5 (some 44) (.loadI .i64 (.t 43)) <|
  .op 6 (some 45) (.nilck (.t 42)) <|
  .op 7 (some 46) (.faddr 2 (.t 45)) <|
  .op 8 (some 47) (.iaddrA 3 1 (.t 46) (.t 44)) <|
  .op 9 (some 48) (.loadS (.t 47)) <|
  .op 10 (some 49) (.mv (.t 2)) <|
  .op 11 (some 50) (.bin .add (.t 49) (.c (.int .i64 1))) <|
  .op 12 (some 51) (.mv (.t 13)) <|
  .op 15 (some 54) (.nilck (.t 39)) <|
  .op 16 (some 55) (.faddr 2 (.t 54)) <|
  .nil) <|
  .s 13 (some 52) (.buildSl 3 1 [(.int .i64 0)] [(0, 1, (.t 51))]) false (
  .q (.nil) <|
  .s 14 (some 53) (.call 85 [(.t 48), (.t 50), (.t 52)]) false (
  .q (.op 17 (some 56) (.iaddrA 3 1 (.t 55) (.t 41)) <|
  .nil) <|
  .s 18 none (.store 1 (.t 56) (.t 53)) true (
  .q (.nil) <|
  .fin) <|
  .no) <|
  .no) <|
  .no
def R_view_Machine_writes_5 : Sts := .op (some 57) (.mv (.t 0)) <|
  .op (some 58) (.mv (.t 0)) <|
  .op (some 59) (.nilck (.t 58)) <|
  .op (some 60) (.faddr 1 (.t 59)) <|
  .op (some 61) (.loadS (.t 60)) <|
  .op (some 62) (.mv (.t 3)) <|
  .op (some 63) (.mv (.t 5)) <|
  .op (some 64) (.build [(.int .i64 0), (.int .i64 0), (.int .i64 0), (.int .i64 0), (.bool false)] [(0, 1, (.t 62)), (4, 1, (.t 63))]) <|
  .op (some 65) (.buildSl 67 1 [(.int .i64 0), (.int .i64 0), (.int .i64 0), (.int .i64 0), (.bool false)] [(0, 5, (.t 64))]) <|
  .op (some 66) (.append 67 5 40 [(.int .i64 0), (.int .i64 0), (.int .i64 0), (.int .i64 0), (.bool false)] (.t 61) (.t 65)) <|
  .op (some 67) (.nilck (.t 57)) <|
  .op (some 68) (.faddr 1 (.t 67)) <|
  .op none (.store 1 (.t 68) (.t 66)) <|
  .nil
def R_view_Machine_writes_6 : AT := .q (.op 0 (some 69) (.mv (.t 12)) <|
  .op 1 (some 70) (.faddr 1 (.t 10)) <|
  .op 2 (some 71) (.loadI .i64 (.t 70)) <|
  .op 3 (some 72) (.mv (.t 13)) <|
  .op 4 (some 73) (.nilck (.t 69)) <|
  .op 5 (some 74) (.faddr 0 (.t 73)) <|
  .op 6 (some 75) (.iaddrA 3 1 (.t 74) (.t 71)) <|
  .nil) <|
  .s 7 none (.store 1 (.t 75) (.t 72)) true (
  .q (.nil) <|
  .fin) <|
  .no
def R_view_Machine_writes_7 : AT := .q (.op 0 (some 76) (.mv (.t 12)) <|
  .op 1 (some 77) (.mv (.t 0)) <|
  .op 2 (some 78) (.mv (.t 12)) <|
  .op 3 (some 79) (.nilck (.t 78)) <|
  .op 4 (some 80) (.faddr 3 (.t 79)) <|
  .op 5 (some 81) (.loadA 3 (.t 80)) <|
  .op 6 (some 82) (.mv (.t 12)) <|
  .op 7 (some 83) (.nilck (.t 82)) <|
  .op 8 (some 84) (.faddr 0 (.t 83)) <|
  .op 9 (some 85) (.loadA 3 (.t 84)) <|
  .nil) <|
  .s 10 (some 86) (.call 83 [(.t 77), (.t 81), (.t 85)]) false (
  .q (.op 11 (some 87) (.nilck (.t 76)) <|
  .op 12 (some 88) (.faddr 3 (.t 87)) <|
  .nil) <|
  .s 13 none (.store 3 (.t 88) (.t 86)) true (
  .q (.nil) <|
  .fin) <|
  .no) <|
  .no
def R_view_Machine_writes_8 : Sts := .op (some 89) (.mv (.t 12)) <|
  .op (some 90) (.nilck (.t 89)) <|
  .op (some 91) (.faddr 6 (.t 90)) <|
  .op (some 92) (.loadA 3 (.t 91)) <|
  .op (some 15) (.alloc 59 [(.int .i64 0), (.int .i64 0), (.int .i64 0)]) <|
  .op none (.store 3 (.t 15) (.t 92)) <|
  .nil
def R_view_Machine_writes_9 : Sts := .op (some 94) (.faddr 4 (.t 10)) <|
  .op (some 95) (.loadI .i64 (.t 94)) <|
  .op (some 96) (.call 84 [(.t 95)]) <|
  .op (some 93) (.mv (.t 96)) <|
  .op (some 97) (.extract 0 (.t 93)) <|
  .op (some 98) (.extract 1 (.t 93)) <|
  .op (some 16) (.mv (.t 97)) <|
  .op (some 17) (.mv (.t 98)) <|
  .nil
def R_view_Machine_writes_10 : Sts := .op (some 99) (.mv (.t 16)) <|
  .nil
def R_view_Machine_writes_11 : Sts := .op (some 100) (.mv (.t 12)) <|
  .op (some 101) (.nilck (.t 100)) <|
  .op (some 102) (.faddr 0 (.t 101)) <|
  .op (some 103) (.loadA 3 (.t 102)) <|
  .op none (.store 3 (.t 15) (.t 103)) <|
  .nil
def R_view_Machine_writes_12 : Sts := .op (some 104) (.mv (.t 5)) <|
  .nil
def R_view_Machine_writes_13 : AT := .q (.op 0 (some 105) (.mv (.t 0)) <|
  .op 1 (some 106) (.loadA 3 (.t 15)) <|
  .op 2 (some 107) (.mv (.t 0)) <|
  .op 3 (some 108) (.nilck (.t 107)) <|
  .op 4 (some 109) (.faddr 1 (.t 108)) <|
  .op 5 (some 110) (.loadS (.t 109)) <|
  .op 6 (some 111) (.mv (.t 14)) <|
  .op 7 (some 112) (.iaddrS 5 (.t 110) (.t 111)) <|
  .op 8 (some 113) (.faddr 1 (.t 112)) <|
  .op 9 (some 114) (.loadA 3 (.t 113)) <|
  .nil) <|
  .s 10 (some 115) (.call 83 [(.t 105), (.t 106), (.t 114)]) true (
  .q (.nil) <|
  .s 11 none (.store 3 (.t 15) (.t 115)) true (
  .q (.nil) <|
  .fin) <|
  .no) <|
  .no
def R_view_Machine_writes_14 : Sts := .op (some 116) (.faddr 1 (.t 10)) <|
  .op (some 117) (.loadI .i64 (.t 116)) <|
  .op (some 118) (.mv (.t 13)) <|
  .op (some 119) (.iaddrA 3 1 (.t 15) (.t 117)) <|
  .op none (.store 1 (.t 119) (.t 118)) <|
  .nil
def R_view_Machine_writes_15 : AT := .q (.op 0 (some 120) (.mv (.t 0)) <|
  .op 1 (some 121) (.nilck (.t 120)) <|
  .op 2 (some 122) (.faddr 1 (.t 121)) <|
  .op 3 (some 123) (.loadS (.t 122)) <|
  .op 4 (some 124) (.mv (.t 13)) <|
  .op 5 (some 125) (.loadA 3 (.t 15)) <|
  .op 6 (some 126) (.iaddrS 5 (.t 123) (.t 124)) <|
  .op 7 (some 127) (.faddr 1 (.t 126)) <|
  .nil) <|
  .s 8 none (.store 3 (.t 127) (.t 125)) true (
  .q (.nil) <|
  .fin) <|
  .no
def R_view_Machine_writes : RFun := ⟨128, [0, 1, 2, 3, 4, 5, 10, 12, 13, 14, 15, 16], (.seq (.reg R_view_Machine_writes_0) (.seq (.reg R_view_Machine_writes_1) (.seq (.reg R_view_Machine_writes_2) (.seq (.any R_view_Machine_writes_3) (.seq (.any R_view_Machine_writes_4) (.seq (.reg R_view_Machine_writes_5) (.seq (.any R_view_Machine_writes_6) (.seq (.any R_view_Machine_writes_7) (.seq (.reg R_view_Machine_writes_8) (.seq (.seq (.reg R_view_Machine_writes_9) (.seq (.reg R_view_Machine_writes_10) (.cond (.t 99) (.reg R_view_Machine_writes_11) .skip))) (.seq (.seq (.reg R_view_Machine_writes_12) (.cond (.t 104) (.any R_view_Machine_writes_13) .skip)) (.seq (.reg R_view_Machine_writes_14) (.any R_view_Machine_writes_15))))))))))))), []⟩
theorem R_view_Machine_writes_ok : compF Try.prog [0, 1, 2, 3, 4, 5, 10, 12, 13, 14, 15, 16] [28, 33, 19, 32, 29, 30, 73] 68 = some R_view_Machine_writes := by kernel_rfl

/- slices.Index[[]int,int] -/
def R_slices_Index_Lint_int_0 : Sts := .op (some 4) (.mv (.c (.int .i64 0))) <|
  .nil
def R_slices_Index_Lint_int_1 : Sts := .op (some 6) (.mv (.t 0)) <|
  .op (some 7) (.len (.t 6)) <|
  .op (some 8) (.mv (.c (.int .i64 0))) <|
  .nil
def R_slices_Index_Lint_int_2 : Sts := .op (some 9) (.bin .lss (.t 8) (.t 7)) <|
  .nil
def R_slices_Index_Lint_int_3 : Sts := .op (some 10) (.mv (.t 8)) <|
  .op (some 5) (.mv (.t 10)) <|
  .nil
def R_slices_Index_Lint_int_4 : Sts := .op (some 11) (.mv (.t 1)) <|
  .op (some 12) (.mv (.t 0)) <|
  .op (some 13) (.mv (.t 5)) <|
  .op (some 14) (.iaddrS 1 (.t 12) (.t 13)) <|
  .op (some 15) (.loadI .i64 (.t 14)) <|
  .op (some 16) (.bin .eql (.t 11) (.t 15)) <|
  .nil
def R_slices_Index_Lint_int_5 : Sts := .op (some 17) (.mv (.t 5)) <|
  .op (some 4) (.mv (.t 17)) <|
  .nil
def R_slices_Index_Lint_int_6 : Sts := .op (some 18) (.bin .add (.t 8) (.c (.int .i64 1))) <|
  .op (some 8) (.mv (.t 18)) <|
  .nil
def R_slices_Index_Lint_int_L7 : RCode := (.seq (.reg R_slices_Index_Lint_int_2) (.seq (.cond (.t 9) .skip (.exit 0)) (.seq (.block 1 (.seq (.reg R_slices_Index_Lint_int_3) (.seq (.reg R_slices_Index_Lint_int_4) (.cond (.t 16) (.seq (.reg R_slices_Index_Lint_int_5) .ret) .skip)))) (.reg R_slices_Index_Lint_int_6))))
def R_slices_Index_Lint_int_7 : Sts := .op (some 4) (.mv (.c (.int .i64 (-1)))) <|
  .nil
def R_slices_Index_Lint_int : RFun := ⟨19, [0, 1, 4, 5, 7, 8], (.seq (.reg R_slices_Index_Lint_int_0) (.seq (.seq (.reg R_slices_Index_Lint_int_1) (.block 0 (.loop R_slices_Index_Lint_int_L7))) (.seq (.reg R_slices_Index_Lint_int_7) .ret))), [.tmp 4]⟩
theorem R_slices_Index_Lint_int_ok : compF Try.prog [0, 1, 4, 5, 7, 8] [28, 33, 19, 32, 29, 30, 73] 69 = some R_slices_Index_Lint_int := by kernel_rfl

/- slices.IndexFunc[[]int,int] -/
def R_slices_IndexFunc_Lint_int_0 : Sts := .op (some 4) (.mv (.c (.int .i64 0))) <|
  .nil
def R_slices_IndexFunc_Lint_int_1 : Sts := .op (some 6) (.mv (.t 0)) <|
  .op (some 7) (.len (.t 6)) <|
  .op (some 8) (.mv (.c (.int .i64 0))) <|
  .nil
def R_slices_IndexFunc_Lint_int_2 : Sts := .op (some 9) (.bin .lss (.t 8) (.t 7)) <|
  .nil
def R_slices_IndexFunc_Lint_int_3 : Sts := .op (some 10) (.mv (.t 8)) <|
  .op (some 5) (.mv (.t 10)) <|
  .nil
def R_slices_IndexFunc_Lint_int_4 : Sts := .op (some 11) (.mv (.t 1)) <|
  .op (some 12) (.mv (.t 0)) <|
  .op (some 13) (.mv (.t 5)) <|
  .op (some 14) (.iaddrS 1 (.t 12) (.t 13)) <|
  .op (some 15) (.loadI .i64 (.t 14)) <|
  .op (some 16) (.callv (.t 11) [(.t 15)]) <|
  .nil
def R_slices_IndexFunc_Lint_int_5 : Sts := .op (some 17) (.mv (.t 5)) <|
  .op (some 4) (.mv (.t 17)) <|
  .nil
def R_slices_IndexFunc_Lint_int_6 : Sts := .op (some 18) (.bin .add (.t 8) (.c (.int .i64 1))) <|
  .op (some 8) (.mv (.t 18)) <|
  .nil
def R_slices_IndexFunc_Lint_int_L7 : RCode := (.seq (.reg R_slices_IndexFunc_Lint_int_2) (.seq (.cond (.t 9) .skip (.exit 0)) (.seq (.block 1 (.seq (.reg R_slices_IndexFunc_Lint_int_3) (.seq (.reg R_slices_IndexFunc_Lint_int_4) (.cond (.t 16) (.seq (.reg R_slices_IndexFunc_Lint_int_5) .ret) .skip)))) (.reg R_slices_IndexFunc_Lint_int_6))))
def R_slices_IndexFunc_Lint_int_7 : Sts := .op (some 4) (.mv (.c (.int .i64 (-1)))) <|
  .nil
def R_slices_IndexFunc_Lint_int : RFun := ⟨19, [0, 1, 4, 5, 7, 8], (.seq (.reg R_slices_IndexFunc_Lint_int_0) (.seq (.seq (.reg R_slices_IndexFunc_Lint_int_1) (.block 0 (.loop R_slices_IndexFunc_Lint_int_L7))) (.seq (.reg R_slices_IndexFunc_Lint_int_7) .ret))), [.tmp 4]⟩
theorem R_slices_IndexFunc_Lint_int_ok : compF Try.prog [0, 1, 4, 5, 7, 8] [28, 33, 19, 32, 29, 30, 73] 78 = some R_slices_IndexFunc_Lint_int := by kernel_rfl

/- lockless/litmus.limits -/
def R_litmus_limits_0 : Sts := .op (some 1) (.box 24 (.t 0)) <|
  .op (some 2) (.mv (.c (.bool false))) <|
  .nil
def R_litmus_limits_1 : Sts := .op (some 10) (.faddr 0 (.t 1)) <|
  .op (some 11) (.loadS (.t 10)) <|
  .op (some 12) (.len (.t 11)) <|
  .op (some 13) (.bin .gtr (.t 12) (.c (.int .i64 3))) <|
  .nil
def R_litmus_limits_2 : Sts := .op (some 2) (.mv (.c (.bool false))) <|
  .nil
def R_litmus_limits_3 : Sts := .op (some 3) (.mv (.c (.int .i64 0))) <|
  .op (some 4) (.mv (.c (.int .i64 0))) <|
  .nil
def R_litmus_limits_4 : Sts := .op (some 5) (.alloc 58 [(.int .i64 0), (.int .i64 0), (.int .i64 0)]) <|
  .nil
def R_litmus_limits_5 : Sts := .op (some 14) (.faddr 0 (.t 1)) <|
  .op (some 15) (.loadS (.t 14)) <|
  .op (some 16) (.len (.t 15)) <|
  .op (some 17) (.mv (.c (.int .i64 0))) <|
  .nil
def R_litmus_limits_6 : Sts := .op (some 18) (.bin .lss (.t 17) (.t 16)) <|
  .nil
def R_litmus_limits_7 : Sts := .op (some 19) (.iaddrS 1 (.t 15) (.t 17)) <|
  .op (some 20) (.loadS (.t 19)) <|
  .op (some 7) (.mv (.t 20)) <|
  .nil
def R_litmus_limits_8 : Sts := .op (some 21) (.mv (.t 7)) <|
  .op (some 22) (.len (.t 21)) <|
  .op (some 23) (.mv (.c (.int .i64 0))) <|
  .nil
def R_litmus_limits_9 : Sts := .op (some 24) (.bin .lss (.t 23) (.t 22)) <|
  .nil
def R_litmus_limits_10 : Sts := .op (some 25) (.iaddrS 5 (.t 21) (.t 23)) <|
  .op (some 26) (.loadA 5 (.t 25)) <|
  .op (some 9) (.alloc 55 [(.int .i64 0), (.int .i64 0), (.int .i64 0), (.int .i64 0), (.int .i64 0)]) <|
  .op none (.store 5 (.t 9) (.t 26)) <|
  .nil
def R_litmus_limits_11 : Sts := .op (some 28) (.faddr 0 (.t 9)) <|
  .op (some 29) (.loadI .i64 (.t 28)) <|
  .op (some 30) (.bin .eql (.t 29) (.c (.int .i64 5))) <|
  .op (some 27) (.mv (.t 30)) <|
  .nil
def R_litmus_limits_12 : Sts := .op (some 31) (.mv (.t 4)) <|
  .op (some 32) (.bin .add (.t 31) (.c (.int .i64 1))) <|
  .op (some 4) (.mv (.t 32)) <|
  .nil
def R_litmus_limits_13 : Sts := .op (some 34) (.loadA 5 (.t 9)) <|
  .op (some 35) (.call 62 [(.t 34)]) <|
  .op (some 33) (.mv (.t 35)) <|
  .nil
def R_litmus_limits_14 : Sts := .op (some 36) (.mv (.t 3)) <|
  .op (some 37) (.bin .add (.t 36) (.c (.int .i64 1))) <|
  .op (some 3) (.mv (.t 37)) <|
  .nil
def R_litmus_limits_15 : Sts := .op (some 38) (.faddr 4 (.t 9)) <|
  .op (some 39) (.loadI .i64 (.t 38)) <|
  .op (some 40) (.bin .eql (.t 39) (.c (.int .i64 4))) <|
  .nil
def R_litmus_limits_16 : Sts := .op (some 41) (.mv (.t 4)) <|
  .op (some 42) (.bin .add (.t 41) (.c (.int .i64 2))) <|
  .op (some 4) (.mv (.t 42)) <|
  .nil
def R_litmus_limits_17 : Sts := .op (some 43) (.faddr 0 (.t 9)) <|
  .op (some 44) (.loadI .i64 (.t 43)) <|
  .op (some 45) (.bin .neq (.t 44) (.c (.int .i64 0))) <|
  .op (some 46) (.mv (.t 45)) <|
  .cnd 46 true (
  .op (some 47) (.faddr 1 (.t 9)) <|
  .op (some 48) (.loadI .i64 (.t 47)) <|
  .op (some 49) (.bin .geq (.t 48) (.c (.int .i64 0))) <|
  .nil) 50 (.t 49) <|
  .op (some 51) (.mv (.t 50)) <|
  .cnd 51 true (
  .op (some 52) (.faddr 1 (.t 9)) <|
  .op (some 53) (.loadI .i64 (.t 52)) <|
  .op (some 54) (.bin .lss (.t 53) (.c (.int .i64 3))) <|
  .nil) 55 (.t 54) <|
  .nil
def R_litmus_limits_18 : Sts := .op (some 56) (.faddr 1 (.t 9)) <|
  .op (some 57) (.loadI .i64 (.t 56)) <|
  .op (some 58) (.iaddrA 3 1 (.t 5) (.t 57)) <|
  .op (some 59) (.loadI .i64 (.t 58)) <|
  .op (some 60) (.bin .add (.t 59) (.c (.int .i64 1))) <|
  .op (some 61) (.iaddrA 3 1 (.t 5) (.t 57)) <|
  .op none (.store 1 (.t 61) (.t 60)) <|
  .nil
def R_litmus_limits_19 : Sts := .op (some 62) (.bin .add (.t 23) (.c (.int .i64 1))) <|
  .op (some 23) (.mv (.t 62)) <|
  .nil
def R_litmus_limits_L20 : RCode := (.seq (.reg R_litmus_limits_9) (.seq (.cond (.t 24) .skip (.exit 2)) (.seq (.block 3 (.seq (.reg R_litmus_limits_10) (.block 4 (.seq (.reg R_litmus_limits_11) (.cond (.t 27) (.reg R_litmus_limits_12) (.seq (.reg R_litmus_limits_13) (.cond (.t 33) (.seq (.reg R_litmus_limits_14) (.seq (.seq (.reg R_litmus_limits_15) (.cond (.t 40) (.reg R_litmus_limits_16) .skip)) (.seq (.reg R_litmus_limits_17) (.cond (.t 55) (.reg R_litmus_limits_18) .skip)))) .skip))))))) (.reg R_litmus_limits_19))))
def R_litmus_limits_20 : Sts := .op (some 63) (.bin .add (.t 17) (.c (.int .i64 1))) <|
  .op (some 17) (.mv (.t 63)) <|
  .nil
def R_litmus_limits_L21 : RCode := (.seq (.reg R_litmus_limits_6) (.seq (.cond (.t 18) .skip (.exit 0)) (.seq (.block 1 (.seq (.reg R_litmus_limits_7) (.seq (.reg R_litmus_limits_8) (.block 2 (.loop R_litmus_limits_L20))))) (.reg R_litmus_limits_20))))
def R_litmus_limits_21 : Sts := .op (some 64) (.mv (.t 3)) <|
  .op (some 65) (.bin .leq (.t 64) (.c (.int .i64 6))) <|
  .op (some 66) (.mv (.t 65)) <|
  .cnd 66 true (
  .op (some 67) (.mv (.t 4)) <|
  .op (some 68) (.bin .leq (.t 67) (.c (.int .i64 8))) <|
  .nil) 69 (.t 68) <|
  .op (some 70) (.mv (.t 69)) <|
  .cnd 70 true (
  .op (some 71) (.slA 3 1 (.t 5) none none) <|
  .op (some 72) (.call 88 [(.t 71)]) <|
  .op (some 73) (.bin .leq (.t 72) (.c (.int .i64 4))) <|
  .nil) 74 (.t 73) <|
  .op (some 2) (.mv (.t 74)) <|
  .nil
def R_litmus_limits : RFun := ⟨75, [0, 1, 2, 3, 4, 5, 7, 9, 15, 16, 17, 21, 22, 23], (.seq (.reg R_litmus_limits_0) (.seq (.seq (.reg R_litmus_limits_1) (.cond (.t 13) (.seq (.reg R_litmus_limits_2) .ret) .skip)) (.seq (.reg R_litmus_limits_3) (.seq (.reg R_litmus_limits_4) (.seq (.seq (.reg R_litmus_limits_5) (.block 0 (.loop R_litmus_limits_L21))) (.seq (.reg R_litmus_limits_21) .ret)))))), [.tmp 2]⟩
theorem R_litmus_limits_ok : compF Try.prog [0, 1, 2, 3, 4, 5, 7, 9, 15, 16, 17, 21, 22, 23] [28, 33, 19, 32, 29, 30, 73] 79 = some R_litmus_limits := by kernel_rfl

/- lockless/order.May -/
def R_order_May_0 : Sts := .op (some 4) (.mv (.c (.bool false))) <|
  .op (some 5) (.mv (.c (.int .i64 0))) <|
  .nil
def R_order_May_1 : Sts := .op (some 6) (.mv (.t 0)) <|
  .op (some 7) (.bin .lss (.t 6) (.c (.int .i64 0))) <|
  .op (some 8) (.mv (.t 7)) <|
  .cnd 8 false (
  .op (some 9) (.mv (.t 0)) <|
  .op (some 10) (.bin .geq (.t 9) (.c (.int .i64 6))) <|
  .nil) 11 (.t 10) <|
  .op (some 12) (.mv (.t 11)) <|
  .cnd 12 false (
  .op (some 13) (.mv (.t 1)) <|
  .op (some 14) (.call 89 [(.t 13)]) <|
  .op (some 15) (.notb (.t 14)) <|
  .nil) 16 (.t 15) <|
  .nil
def R_order_May_2 : Sts := .op (some 4) (.mv (.c (.bool false))) <|
  .op (some 5) (.mv (.c (.int .i64 1))) <|
  .nil
def R_order_May_3 : Sts := .op (some 17) (.mv (.t 0)) <|
  .op (some 18) (.mv (.t 1)) <|
  .op (some 19) (.call 90 [(.t 17), (.t 18)]) <|
  .op (some 4) (.mv (.t 19)) <|
  .op (some 5) (.mv (.c (.int .i64 0))) <|
  .nil
def R_order_May : RFun := ⟨20, [0, 1, 4, 5], (.seq (.reg R_order_May_0) (.seq (.seq (.reg R_order_May_1) (.cond (.t 16) (.seq (.reg R_order_May_2) .ret) .skip)) (.seq (.reg R_order_May_3) .ret))), [.tmp 4, .tmp 5]⟩
theorem R_order_May_ok : compF Try.prog [0, 1, 4, 5] [28, 33, 19, 32, 29, 30, 73] 80 = some R_order_May := by kernel_rfl

/- lockless/litmus.fits -/
def R_litmus_fits_0 : Sts := .op (some 1) (.box 55 (.t 0)) <|
  .op (some 2) (.mv (.c (.bool false))) <|
  .nil
def R_litmus_fits_1 : Sts := .op (some 3) (.faddr 1 (.t 1)) <|
  .op (some 4) (.loadI .i64 (.t 3)) <|
  .op (some 5) (.bin .lss (.t 4) (.c (.int .i64 0))) <|
  .op (some 6) (.mv (.t 5)) <|
  .cnd 6 false (
  .op (some 7) (.faddr 1 (.t 1)) <|
  .op (some 8) (.loadI .i64 (.t 7)) <|
  .op (some 9) (.bin .geq (.t 8) (.c (.int .i64 3))) <|
  .nil) 10 (.t 9) <|
  .nil
def R_litmus_fits_2 : Sts := .op (some 2) (.mv (.c (.bool false))) <|
  .nil
def R_litmus_fits_3 : Sts := .op (some 11) (.faddr 0 (.t 1)) <|
  .op (some 12) (.loadI .i64 (.t 11)) <|
  .nil
def R_litmus_fits_4 : Sts := .op (some 14) (.bin .eql (.t 12) (.c (.int .i64 0))) <|
  .op (some 13) (.mv (.t 14)) <|
  .nil
def R_litmus_fits_5 : Sts := .op (some 15) (.faddr 2 (.t 1)) <|
  .op (some 16) (.loadI .i64 (.t 15)) <|
  .op (some 17) (.bin .eql (.t 16) (.c (.int .i64 0))) <|
  .op (some 18) (.mv (.t 17)) <|
  .cnd 18 true (
  .op (some 19) (.faddr 3 (.t 1)) <|
  .op (some 20) (.loadI .i64 (.t 19)) <|
  .op (some 21) (.bin .eql (.t 20) (.c (.int .i64 0))) <|
  .nil) 22 (.t 21) <|
  .op (some 2) (.mv (.t 22)) <|
  .nil
def R_litmus_fits_6 : Sts := .op (some 24) (.bin .eql (.t 12) (.c (.int .i64 1))) <|
  .op (some 23) (.mv (.t 24)) <|
  .nil
def R_litmus_fits_7 : Sts := .op (some 25) (.faddr 2 (.t 1)) <|
  .op (some 26) (.loadI .i64 (.t 25)) <|
  .op (some 27) (.call 91 [(.t 26)]) <|
  .op (some 28) (.mv (.t 27)) <|
  .cnd 28 true (
  .op (some 29) (.faddr 3 (.t 1)) <|
  .op (some 30) (.loadI .i64 (.t 29)) <|
  .op (some 31) (.bin .eql (.t 30) (.c (.int .i64 0))) <|
  .nil) 32 (.t 31) <|
  .op (some 2) (.mv (.t 32)) <|
  .nil
def R_litmus_fits_8 : Sts := .op (some 34) (.bin .eql (.t 12) (.c (.int .i64 2))) <|
  .op (some 33) (.mv (.t 34)) <|
  .nil
def R_litmus_fits_9 : Sts := .op (some 35) (.faddr 2 (.t 1)) <|
  .op (some 36) (.loadI .i64 (.t 35)) <|
  .op (some 37) (.bin .geq (.t 36) (.c (.int .i64 (-9)))) <|
  .op (some 38) (.mv (.t 37)) <|
  .cnd 38 true (
  .op (some 39) (.faddr 2 (.t 1)) <|
  .op (some 40) (.loadI .i64 (.t 39)) <|
  .op (some 41) (.bin .leq (.t 40) (.c (.int .i64 9))) <|
  .nil) 42 (.t 41) <|
  .op (some 43) (.mv (.t 42)) <|
  .cnd 43 true (
  .op (some 44) (.faddr 3 (.t 1)) <|
  .op (some 45) (.loadI .i64 (.t 44)) <|
  .op (some 46) (.bin .eql (.t 45) (.c (.int .i64 0))) <|
  .nil) 47 (.t 46) <|
  .op (some 2) (.mv (.t 47)) <|
  .nil
def R_litmus_fits_10 : Sts := .op (some 49) (.bin .eql (.t 12) (.c (.int .i64 3))) <|
  .op (some 48) (.mv (.t 49)) <|
  .nil
def R_litmus_fits_11 : Sts := .op (some 50) (.bin .eql (.t 12) (.c (.int .i64 4))) <|
  .op (some 48) (.mv (.t 50)) <|
  .nil
def R_litmus_fits_12 : Sts := .op (some 51) (.faddr 2 (.t 1)) <|
  .op (some 52) (.loadI .i64 (.t 51)) <|
  .op (some 53) (.call 91 [(.t 52)]) <|
  .op (some 54) (.mv (.t 53)) <|
  .cnd 54 true (
  .op (some 55) (.faddr 3 (.t 1)) <|
  .op (some 56) (.loadI .i64 (.t 55)) <|
  .op (some 57) (.call 91 [(.t 56)]) <|
  .nil) 58 (.t 57) <|
  .op (some 2) (.mv (.t 58)) <|
  .nil
def R_litmus_fits_13 : Sts := .op (some 60) (.bin .eql (.t 12) (.c (.int .i64 5))) <|
  .op (some 59) (.mv (.t 60)) <|
  .nil
def R_litmus_fits_14 : Sts := .op (some 61) (.faddr 1 (.t 1)) <|
  .op (some 62) (.loadI .i64 (.t 61)) <|
  .op (some 63) (.bin .eql (.t 62) (.c (.int .i64 0))) <|
  .op (some 64) (.mv (.t 63)) <|
  .cnd 64 true (
  .op (some 65) (.faddr 2 (.t 1)) <|
  .op (some 66) (.loadI .i64 (.t 65)) <|
  .op (some 67) (.bin .eql (.t 66) (.c (.int .i64 0))) <|
  .nil) 68 (.t 67) <|
  .op (some 69) (.mv (.t 68)) <|
  .cnd 69 true (
  .op (some 70) (.faddr 3 (.t 1)) <|
  .op (some 71) (.loadI .i64 (.t 70)) <|
  .op (some 72) (.bin .eql (.t 71) (.c (.int .i64 0))) <|
  .nil) 73 (.t 72) <|
  .op (some 2) (.mv (.t 73)) <|
  .nil
def R_litmus_fits_15 : Sts := .op (some 2) (.mv (.c (.bool false))) <|
  .nil
def R_litmus_fits : RFun := ⟨74, [0, 1, 2, 12], (.seq (.reg R_litmus_fits_0) (.seq (.seq (.reg R_litmus_fits_1) (.cond (.t 10) (.seq (.reg R_litmus_fits_2) .ret) .skip)) (.seq (.seq (.reg R_litmus_fits_3) (.block 0 (.seq (.reg R_litmus_fits_4) (.cond (.t 13) (.seq (.reg R_litmus_fits_5) .ret) (.seq (.reg R_litmus_fits_6) (.cond (.t 23) (.seq (.reg R_litmus_fits_7) .ret) (.seq (.reg R_litmus_fits_8) (.cond (.t 33) (.seq (.reg R_litmus_fits_9) .ret) (.seq (.seq (.reg R_litmus_fits_10) (.cond (.t 48) .skip (.reg R_litmus_fits_11))) (.cond (.t 48) (.seq (.reg R_litmus_fits_12) .ret) (.seq (.reg R_litmus_fits_13) (.cond (.t 59) (.seq (.reg R_litmus_fits_14) .ret) .skip)))))))))))) (.seq (.reg R_litmus_fits_15) .ret)))), [.tmp 2]⟩
theorem R_litmus_fits_ok : compF Try.prog [0, 1, 2, 12] [28, 33, 19, 32, 29, 30, 73] 81 = some R_litmus_fits := by kernel_rfl

/- lockless/order.Acquires -/
def R_order_Acquires_0 : Sts := .op (some 2) (.mv (.c (.bool false))) <|
  .op (some 3) (.mv (.c (.int .i64 0))) <|
  .nil
def R_order_Acquires_1 : Sts := .op (some 4) (.mv (.t 0)) <|
  .op (some 5) (.call 89 [(.t 4)]) <|
  .op (some 6) (.notb (.t 5)) <|
  .nil
def R_order_Acquires_2 : Sts := .op (some 2) (.mv (.c (.bool false))) <|
  .op (some 3) (.mv (.c (.int .i64 1))) <|
  .nil
def R_order_Acquires_3 : Sts := .op (some 7) (.mv (.t 0)) <|
  .op (some 8) (.call 92 [(.t 7)]) <|
  .op (some 9) (.bin .and (.t 8) (.c (.int .i64 1))) <|
  .op (some 10) (.bin .neq (.t 9) (.c (.int .i64 0))) <|
  .op (some 2) (.mv (.t 10)) <|
  .op (some 3) (.mv (.c (.int .i64 0))) <|
  .nil
def R_order_Acquires : RFun := ⟨11, [0, 2, 3], (.seq (.reg R_order_Acquires_0) (.seq (.seq (.reg R_order_Acquires_1) (.cond (.t 6) (.seq (.reg R_order_Acquires_2) .ret) .skip)) (.seq (.reg R_order_Acquires_3) .ret))), [.tmp 2, .tmp 3]⟩
theorem R_order_Acquires_ok : compF Try.prog [0, 2, 3] [28, 33, 19, 32, 29, 30, 73] 82 = some R_order_Acquires := by kernel_rfl

/- (*lockless/view.Machine).join -/
def R_view_Machine_join_0 : Sts := .op (some 4) (.box 59 (.t 1)) <|
  .op (some 5) (.box 59 (.t 2)) <|
  .op (some 6) (.alloc 59 [(.int .i64 0), (.int .i64 0), (.int .i64 0)]) <|
  .nil
def R_view_Machine_join_1 : Sts := .op (some 8) (.mv (.c (.int .i64 0))) <|
  .nil
def R_view_Machine_join_2 : Sts := .op (some 9) (.bin .lss (.t 8) (.c (.int .i64 3))) <|
  .nil
def R_view_Machine_join_3 : Sts := .op (some 10) (.mv (.t 8)) <|
  .op (some 7) (.mv (.t 10)) <|
  .nil
def R_view_Machine_join_4 : AT := .q (.op 0 (some 11) (.mv (.t 7)) <|
  .op 1 (some 12) (.iaddrA 3 1 (.t 5) (.t 11)) <|
  .op 2 (some 13) (.loadI .i64 (.t 12)) <|
  .op 3 (some 14) (.bin .geq (.t 13) (.c (.int .i64 0))) <|
  .op 4 (some 15) (.mv (.t 14)) <|
  .g 15 true (
  .op 5 (some 16) (.mv (.t 7)) <|
  .op 6 (some 17) (.iaddrA 3 1 (.t 4) (.t 16)) <|
  .op 7 (some 18) (.loadI .i64 (.t 17)) <|
  .op 8 (some 19) (.bin .lss (.t 18) (.c (.int .i64 0))) <|
  .op 9 (some 20) (.mv (.t 19)) <|
  .g 20 false (
  .op 10 (some 21) (.mv (.t 0)) <|
  .op 11 (some 22) (.mv (.t 7)) <|
  .op 12 (some 23) (.mv (.t 7)) <|
  .op 13 (some 24) (.iaddrA 3 1 (.t 5) (.t 23)) <|
  .op 14 (some 25) (.loadI .i64 (.t 24)) <|
  .op 15 (some 26) (.call 33 [(.t 21), (.t 22), (.t 25)]) <|
  .op 16 (some 27) (.mv (.t 0)) <|
  .op 17 (some 28) (.mv (.t 7)) <|
  .op 18 (some 29) (.mv (.t 7)) <|
  .op 19 (some 30) (.iaddrA 3 1 (.t 4) (.t 29)) <|
  .op 20 (some 31) (.loadI .i64 (.t 30)) <|
  .op 21 (some 32) (.call 33 [(.t 27), (.t 28), (.t 31)]) <|
  .op 22 (some 33) (.bin .gtr (.t 26) (.t 32)) <|
  .nil) 23 34 (.t 33) <|
  .nil) 24 35 (.t 34) <|
  .nil) <|
  .fin
def R_view_Machine_join_5 : Sts := .op (some 36) (.mv (.t 7)) <|
  .op (some 37) (.mv (.t 7)) <|
  .op (some 38) (.iaddrA 3 1 (.t 5) (.t 37)) <|
  .op (some 39) (.loadI .i64 (.t 38)) <|
  .op (some 40) (.iaddrA 3 1 (.t 4) (.t 36)) <|
  .op none (.store 1 (.t 40) (.t 39)) <|
  .nil
def R_view_Machine_join_6 : Sts := .op (some 41) (.bin .add (.t 8) (.c (.int .i64 1))) <|
  .op (some 8) (.mv (.t 41)) <|
  .nil
def R_view_Machine_join_L7 : RCode := (.seq (.reg R_view_Machine_join_2) (.seq (.cond (.t 9) .skip (.exit 0)) (.seq (.block 1 (.seq (.reg R_view_Machine_join_3) (.seq (.any R_view_Machine_join_4) (.cond (.t 35) (.reg R_view_Machine_join_5) .skip)))) (.reg R_view_Machine_join_6))))
def R_view_Machine_join_7 : Sts := .op (some 42) (.loadA 3 (.t 4)) <|
  .op none (.store 3 (.t 6) (.t 42)) <|
  .nil
def R_view_Machine_join : RFun := ⟨43, [0, 1, 2, 4, 5, 6, 7, 8], (.seq (.reg R_view_Machine_join_0) (.seq (.seq (.reg R_view_Machine_join_1) (.block 0 (.loop R_view_Machine_join_L7))) (.seq (.reg R_view_Machine_join_7) .ret))), [.cellA 6 3]⟩
theorem R_view_Machine_join_ok : compF Try.prog [0, 1, 2, 4, 5, 6, 7, 8] [28, 33, 19, 32, 29, 30, 73] 83 = some R_view_Machine_join := by kernel_rfl

/- lockless/order.Releases -/
def R_order_Releases_0 : Sts := .op (some 2) (.mv (.c (.bool false))) <|
  .op (some 3) (.mv (.c (.int .i64 0))) <|
  .nil
def R_order_Releases_1 : Sts := .op (some 4) (.mv (.t 0)) <|
  .op (some 5) (.call 89 [(.t 4)]) <|
  .op (some 6) (.notb (.t 5)) <|
  .nil
def R_order_Releases_2 : Sts := .op (some 2) (.mv (.c (.bool false))) <|
  .op (some 3) (.mv (.c (.int .i64 1))) <|
  .nil
def R_order_Releases_3 : Sts := .op (some 7) (.mv (.t 0)) <|
  .op (some 8) (.call 92 [(.t 7)]) <|
  .op (some 9) (.bin .and (.t 8) (.c (.int .i64 2))) <|
  .op (some 10) (.bin .neq (.t 9) (.c (.int .i64 0))) <|
  .op (some 2) (.mv (.t 10)) <|
  .op (some 3) (.mv (.c (.int .i64 0))) <|
  .nil
def R_order_Releases : RFun := ⟨11, [0, 2, 3], (.seq (.reg R_order_Releases_0) (.seq (.seq (.reg R_order_Releases_1) (.cond (.t 6) (.seq (.reg R_order_Releases_2) .ret) .skip)) (.seq (.reg R_order_Releases_3) .ret))), [.tmp 2, .tmp 3]⟩
theorem R_order_Releases_ok : compF Try.prog [0, 2, 3] [28, 33, 19, 32, 29, 30, 73] 84 = some R_order_Releases := by kernel_rfl

/- slices.Insert[[]int,int] -/
def R_slices_Insert_Lint_int_0 : Sts := .op (some 6) (.mv (.c (.slice none 0 0))) <|
  .nil
def R_slices_Insert_Lint_int_1 : Sts := .op (some 10) (.mv (.t 0)) <|
  .op (some 11) (.mv (.t 1)) <|
  .op (some 12) (.slS 1 (.t 10) (some (.t 11)) none none) <|
  .nil
def R_slices_Insert_Lint_int_2 : Sts := .op (some 13) (.mv (.t 2)) <|
  .op (some 14) (.len (.t 13)) <|
  .op (some 7) (.mv (.t 14)) <|
  .nil
def R_slices_Insert_Lint_int_3 : Sts := .op (some 15) (.mv (.t 7)) <|
  .op (some 16) (.bin .eql (.t 15) (.c (.int .i64 0))) <|
  .nil
def R_slices_Insert_Lint_int_4 : Sts := .op (some 17) (.mv (.t 0)) <|
  .op (some 6) (.mv (.t 17)) <|
  .nil
def R_slices_Insert_Lint_int_5 : Sts := .op (some 18) (.mv (.t 0)) <|
  .op (some 19) (.len (.t 18)) <|
  .op (some 8) (.mv (.t 19)) <|
  .nil
def R_slices_Insert_Lint_int_6 : Sts := .op (some 20) (.mv (.t 1)) <|
  .op (some 21) (.mv (.t 8)) <|
  .op (some 22) (.bin .eql (.t 20) (.t 21)) <|
  .nil
def R_slices_Insert_Lint_int_7 : Sts := .op (some 23) (.mv (.t 0)) <|
  .op (some 24) (.mv (.t 2)) <|
  .op (some 25) (.append 3 1 8 [(.int .i64 0)] (.t 23) (.t 24)) <|
  .op (some 6) (.mv (.t 25)) <|
  .nil
def R_slices_Insert_Lint_int_8 : Sts := .op (some 26) (.mv (.t 8)) <|
  .op (some 27) (.mv (.t 7)) <|
  .op (some 28) (.bin .add (.t 26) (.t 27)) <|
  .op (some 29) (.mv (.t 0)) <|
  .op (some 30) (.cap (.t 29)) <|
  .op (some 31) (.bin .gtr (.t 28) (.t 30)) <|
  .nil
def R_slices_Insert_Lint_int_9 : Sts := .op (some 32) (.mv (.t 0)) <|
  .op (some 33) (.mv (.t 1)) <|
  .op (some 34) (.slS 1 (.t 32) none (some (.t 33)) none) <|
  .op (some 35) (.mv (.t 8)) <|
  .op (some 36) (.mv (.t 7)) <|
  .op (some 37) (.bin .add (.t 35) (.t 36)) <|
  .op (some 38) (.mv (.t 1)) <|
  .op (some 39) (.bin .sub (.t 37) (.t 38)) <|
  .op (some 40) (.appendZ 3 1 8 [(.int .i64 0)] (.t 34) (.t 39)) <|
  .op (some 9) (.mv (.t 40)) <|
  .nil
def R_slices_Insert_Lint_int_10 : Sts := .op (some 41) (.mv (.t 9)) <|
  .op (some 42) (.mv (.t 1)) <|
  .op (some 43) (.slS 1 (.t 41) (some (.t 42)) none none) <|
  .op (some 44) (.mv (.t 2)) <|
  .op (some 45) (.copyO 1 (.t 43) (.t 44)) <|
  .nil
def R_slices_Insert_Lint_int_11 : AT := .q (.op 0 (some 46) (.mv (.t 9)) <|
  .op 1 (some 47) (.mv (.t 1)) <|
  .op 2 (some 48) (.mv (.t 7)) <|
  .op 3 (some 49) (.bin .add (.t 47) (.t 48)) <|
  .op 4 (some 50) (.slS 1 (.t 46) (some (.t 49)) none none) <|
  .op 5 (some 51) (.mv (.t 0)) <|
  .op 6 (some 52) (.mv (.t 1)) <|
  .op 7 (some 53) (.slS 1 (.t 51) (some (.t 52)) none none) <|
  .nil) <|
  .s 8 (some 54) (.copyO 1 (.t 50) (.t 53)) true (
  .q (.nil) <|
  .fin) <|
  .no
def R_slices_Insert_Lint_int_12 : Sts := .op (some 55) (.mv (.t 9)) <|
  .op (some 6) (.mv (.t 55)) <|
  .nil
def R_slices_Insert_Lint_int_13 : Sts := .op (some 56) (.mv (.t 0)) <|
  .op (some 57) (.mv (.t 8)) <|
  .op (some 58) (.mv (.t 7)) <|
  .op (some 59) (.bin .add (.t 57) (.t 58)) <|
  .op (some 60) (.slS 1 (.t 56) none (some (.t 59)) none) <|
  .op (some 0) (.mv (.t 60)) <|
  .nil
def R_slices_Insert_Lint_int_14 : Sts := .op (some 61) (.mv (.t 2)) <|
  .op (some 62) (.mv (.t 0)) <|
  .op (some 63) (.mv (.t 1)) <|
  .op (some 64) (.mv (.t 7)) <|
  .op (some 65) (.bin .add (.t 63) (.t 64)) <|
  .op (some 66) (.slS 1 (.t 62) (some (.t 65)) none none) <|
  .op (some 67) (.ext 93 [(.t 61), (.t 66)]) <|
  .op (some 68) (.notb (.t 67)) <|
  .nil
def R_slices_Insert_Lint_int_15 : AT := .q (.op 0 (some 69) (.mv (.t 0)) <|
  .op 1 (some 70) (.mv (.t 1)) <|
  .op 2 (some 71) (.mv (.t 7)) <|
  .op 3 (some 72) (.bin .add (.t 70) (.t 71)) <|
  .op 4 (some 73) (.slS 1 (.t 69) (some (.t 72)) none none) <|
  .op 5 (some 74) (.mv (.t 0)) <|
  .op 6 (some 75) (.mv (.t 1)) <|
  .op 7 (some 76) (.slS 1 (.t 74) (some (.t 75)) none none) <|
  .nil) <|
  .s 8 (some 77) (.copyO 1 (.t 73) (.t 76)) true (
  .q (.nil) <|
  .fin) <|
  .no
def R_slices_Insert_Lint_int_16 : Sts := .op (some 78) (.mv (.t 0)) <|
  .op (some 79) (.mv (.t 1)) <|
  .op (some 80) (.slS 1 (.t 78) (some (.t 79)) none none) <|
  .op (some 81) (.mv (.t 2)) <|
  .op (some 82) (.copyO 1 (.t 80) (.t 81)) <|
  .nil
def R_slices_Insert_Lint_int_17 : Sts := .op (some 83) (.mv (.t 0)) <|
  .op (some 6) (.mv (.t 83)) <|
  .nil
def R_slices_Insert_Lint_int_18 : Sts := .op (some 84) (.mv (.t 0)) <|
  .op (some 85) (.mv (.t 8)) <|
  .op (some 86) (.slS 1 (.t 84) (some (.t 85)) none none) <|
  .op (some 87) (.mv (.t 2)) <|
  .op (some 88) (.copyO 1 (.t 86) (.t 87)) <|
  .nil
def R_slices_Insert_Lint_int_19 : Sts := .op (some 89) (.mv (.t 0)) <|
  .op (some 90) (.mv (.t 1)) <|
  .op (some 91) (.slS 1 (.t 89) (some (.t 90)) none none) <|
  .op (some 92) (.mv (.t 7)) <|
  .op (some 93) (.call 94 [(.t 91), (.t 92)]) <|
  .nil
def R_slices_Insert_Lint_int_20 : Sts := .op (some 94) (.mv (.t 0)) <|
  .op (some 6) (.mv (.t 94)) <|
  .nil
def R_slices_Insert_Lint_int : RFun := ⟨95, [0, 1, 2, 6, 7, 8, 9], (.seq (.reg R_slices_Insert_Lint_int_0) (.seq (.reg R_slices_Insert_Lint_int_1) (.seq (.reg R_slices_Insert_Lint_int_2) (.seq (.seq (.reg R_slices_Insert_Lint_int_3) (.cond (.t 16) (.seq (.reg R_slices_Insert_Lint_int_4) .ret) .skip)) (.seq (.reg R_slices_Insert_Lint_int_5) (.seq (.seq (.reg R_slices_Insert_Lint_int_6) (.cond (.t 22) (.seq (.reg R_slices_Insert_Lint_int_7) .ret) .skip)) (.seq (.seq (.reg R_slices_Insert_Lint_int_8) (.cond (.t 31) (.seq (.reg R_slices_Insert_Lint_int_9) (.seq (.reg R_slices_Insert_Lint_int_10) (.seq (.any R_slices_Insert_Lint_int_11) (.seq (.reg R_slices_Insert_Lint_int_12) .ret)))) .skip)) (.seq (.reg R_slices_Insert_Lint_int_13) (.seq (.seq (.reg R_slices_Insert_Lint_int_14) (.cond (.t 68) (.seq (.any R_slices_Insert_Lint_int_15) (.seq (.reg R_slices_Insert_Lint_int_16) (.seq (.reg R_slices_Insert_Lint_int_17) .ret))) .skip)) (.seq (.reg R_slices_Insert_Lint_int_18) (.seq (.reg R_slices_Insert_Lint_int_19) (.seq (.reg R_slices_Insert_Lint_int_20) .ret)))))))))))), [.tmp 6]⟩
theorem R_slices_Insert_Lint_int_ok : compF Try.prog [0, 1, 2, 6, 7, 8, 9] [28, 33, 19, 32, 29, 30, 73] 85 = some R_slices_Insert_Lint_int := by kernel_rfl

/- slices.Max[[]int,int] -/
def R_slices_Max_Lint_int_0 : Sts := .op (some 2) (.mv (.c (.int .i64 0))) <|
  .nil
def R_slices_Max_Lint_int_1 : Sts := .op (some 5) (.mv (.t 0)) <|
  .op (some 6) (.len (.t 5)) <|
  .op (some 7) (.bin .lss (.t 6) (.c (.int .i64 1))) <|
  .nil
def R_slices_Max_Lint_int_2 : Sts := .op (some 8) (.bad) <|
  .op none (.bad) <|
  .nil
def R_slices_Max_Lint_int_3 : Sts := .op (some 9) (.mv (.t 0)) <|
  .op (some 10) (.iaddrS 1 (.t 9) (.c (.int .i64 0))) <|
  .op (some 11) (.loadI .i64 (.t 10)) <|
  .op (some 3) (.mv (.t 11)) <|
  .nil
def R_slices_Max_Lint_int_4 : Sts := .op (some 4) (.mv (.c (.int .i64 1))) <|
  .nil
def R_slices_Max_Lint_int_5 : Sts := .op (some 12) (.mv (.t 4)) <|
  .op (some 13) (.mv (.t 0)) <|
  .op (some 14) (.len (.t 13)) <|
  .op (some 15) (.bin .lss (.t 12) (.t 14)) <|
  .nil
def R_slices_Max_Lint_int_6 : Sts := .op (some 18) (.mv (.t 3)) <|
  .op (some 19) (.mv (.t 0)) <|
  .op (some 20) (.mv (.t 4)) <|
  .op (some 21) (.iaddrS 1 (.t 19) (.t 20)) <|
  .op (some 22) (.loadI .i64 (.t 21)) <|
  .op (some 23) (.maxi (.t 18) (.t 22)) <|
  .op (some 3) (.mv (.t 23)) <|
  .nil
def R_slices_Max_Lint_int_7 : Sts := .op (some 16) (.mv (.t 4)) <|
  .op (some 17) (.bin .add (.t 16) (.c (.int .i64 1))) <|
  .op (some 4) (.mv (.t 17)) <|
  .nil
def R_slices_Max_Lint_int_L8 : RCode := (.seq (.seq (.reg R_slices_Max_Lint_int_5) (.cond (.t 15) .skip (.exit 0))) (.seq (.block 1 (.reg R_slices_Max_Lint_int_6)) (.reg R_slices_Max_Lint_int_7)))
def R_slices_Max_Lint_int_8 : Sts := .op (some 24) (.mv (.t 3)) <|
  .op (some 2) (.mv (.t 24)) <|
  .nil
def R_slices_Max_Lint_int : RFun := ⟨25, [0, 2, 3, 4], (.seq (.reg R_slices_Max_Lint_int_0) (.seq (.seq (.reg R_slices_Max_Lint_int_1) (.cond (.t 7) (.reg R_slices_Max_Lint_int_2) .skip)) (.seq (.reg R_slices_Max_Lint_int_3) (.seq (.seq (.reg R_slices_Max_Lint_int_4) (.block 0 (.loop R_slices_Max_Lint_int_L8))) (.seq (.reg R_slices_Max_Lint_int_8) .ret))))), [.tmp 2]⟩
theorem R_slices_Max_Lint_int_ok : compF Try.prog [0, 2, 3, 4] [28, 33, 19, 32, 29, 30, 73] 88 = some R_slices_Max_Lint_int := by kernel_rfl

/- lockless/order.isOrder -/
def R_order_isOrder_0 : Sts := .op (some 2) (.mv (.c (.bool false))) <|
  .nil
def R_order_isOrder_1 : Sts := .op (some 3) (.mv (.t 0)) <|
  .op (some 4) (.bin .geq (.t 3) (.c (.int .i64 0))) <|
  .op (some 5) (.mv (.t 4)) <|
  .cnd 5 true (
  .op (some 6) (.mv (.t 0)) <|
  .op (some 7) (.bin .lss (.t 6) (.c (.int .i64 5))) <|
  .nil) 8 (.t 7) <|
  .op (some 2) (.mv (.t 8)) <|
  .nil
def R_order_isOrder : RFun := ⟨9, [0, 2], (.seq (.reg R_order_isOrder_0) (.seq (.reg R_order_isOrder_1) .ret)), [.tmp 2]⟩
theorem R_order_isOrder_ok : compF Try.prog [0, 2] [28, 33, 19, 32, 29, 30, 73] 89 = some R_order_isOrder := by kernel_rfl

/- lockless/order.may -/
def R_order_may_0 : Sts := .op (some 4) (.mv (.c (.bool false))) <|
  .nil
def R_order_may_1 : Sts := .op (some 5) (.mv (.t 0)) <|
  .nil
def R_order_may_2 : Sts := .op (some 7) (.bin .eql (.t 5) (.c (.int .i64 0))) <|
  .op (some 6) (.mv (.t 7)) <|
  .nil
def R_order_may_3 : Sts := .op (some 8) (.mv (.t 1)) <|
  .op (some 9) (.bin .neq (.t 8) (.c (.int .i64 2))) <|
  .op (some 10) (.mv (.t 9)) <|
  .cnd 10 true (
  .op (some 11) (.mv (.t 1)) <|
  .op (some 12) (.bin .neq (.t 11) (.c (.int .i64 3))) <|
  .nil) 13 (.t 12) <|
  .op (some 4) (.mv (.t 13)) <|
  .nil
def R_order_may_4 : Sts := .op (some 15) (.bin .eql (.t 5) (.c (.int .i64 1))) <|
  .op (some 14) (.mv (.t 15)) <|
  .nil
def R_order_may_5 : Sts := .op (some 16) (.mv (.t 1)) <|
  .op (some 17) (.bin .neq (.t 16) (.c (.int .i64 1))) <|
  .op (some 18) (.mv (.t 17)) <|
  .cnd 18 true (
  .op (some 19) (.mv (.t 1)) <|
  .op (some 20) (.bin .neq (.t 19) (.c (.int .i64 3))) <|
  .nil) 21 (.t 20) <|
  .op (some 4) (.mv (.t 21)) <|
  .nil
def R_order_may_6 : Sts := .op (some 23) (.bin .eql (.t 5) (.c (.int .i64 5))) <|
  .op (some 22) (.mv (.t 23)) <|
  .nil
def R_order_may_7 : Sts := .op (some 24) (.mv (.t 1)) <|
  .op (some 25) (.bin .neq (.t 24) (.c (.int .i64 0))) <|
  .op (some 4) (.mv (.t 25)) <|
  .nil
def R_order_may_8 : Sts := .op (some 4) (.mv (.c (.bool true))) <|
  .nil
def R_order_may : RFun := ⟨26, [0, 1, 4, 5], (.seq (.reg R_order_may_0) (.seq (.seq (.reg R_order_may_1) (.block 0 (.seq (.reg R_order_may_2) (.cond (.t 6) (.seq (.reg R_order_may_3) .ret) (.seq (.reg R_order_may_4) (.cond (.t 14) (.seq (.reg R_order_may_5) .ret) (.seq (.reg R_order_may_6) (.cond (.t 22) (.seq (.reg R_order_may_7) .ret) .skip)))))))) (.seq (.reg R_order_may_8) .ret))), [.tmp 4]⟩
theorem R_order_may_ok : compF Try.prog [0, 1, 4, 5] [28, 33, 19, 32, 29, 30, 73] 90 = some R_order_may := by kernel_rfl

/- lockless/litmus.digit -/
def R_litmus_digit_0 : Sts := .op (some 2) (.mv (.c (.bool false))) <|
  .nil
def R_litmus_digit_1 : Sts := .op (some 3) (.mv (.t 0)) <|
  .op (some 4) (.bin .geq (.t 3) (.c (.int .i64 0))) <|
  .op (some 5) (.mv (.t 4)) <|
  .cnd 5 true (
  .op (some 6) (.mv (.t 0)) <|
  .op (some 7) (.bin .leq (.t 6) (.c (.int .i64 9))) <|
  .nil) 8 (.t 7) <|
  .op (some 2) (.mv (.t 8)) <|
  .nil
def R_litmus_digit : RFun := ⟨9, [0, 2], (.seq (.reg R_litmus_digit_0) (.seq (.reg R_litmus_digit_1) .ret)), [.tmp 2]⟩
theorem R_litmus_digit_ok : compF Try.prog [0, 2] [28, 33, 19, 32, 29, 30, 73] 91 = some R_litmus_digit := by kernel_rfl

/- lockless/order.bits -/
def R_order_bits_0 : Sts := .op (some 2) (.mv (.c (.int .i64 0))) <|
  .nil
def R_order_bits_1 : Sts := .op (some 3) (.mv (.t 0)) <|
  .op (some 4) (.bin .eql (.t 3) (.c (.int .i64 4))) <|
  .nil
def R_order_bits_2 : Sts := .op (some 2) (.mv (.c (.int .i64 7))) <|
  .nil
def R_order_bits_3 : Sts := .op (some 5) (.mv (.t 0)) <|
  .op (some 2) (.mv (.t 5)) <|
  .nil
def R_order_bits : RFun := ⟨6, [0, 2], (.seq (.reg R_order_bits_0) (.seq (.seq (.reg R_order_bits_1) (.cond (.t 4) (.seq (.reg R_order_bits_2) .ret) .skip)) (.seq (.reg R_order_bits_3) .ret))), [.tmp 2]⟩
theorem R_order_bits_ok : compF Try.prog [0, 2] [28, 33, 19, 32, 29, 30, 73] 92 = some R_order_bits := by kernel_rfl

end Go.EV

namespace Go.EV
open Go.Proofs

abbrev vi (n : Int) : Value := .int .i64 n
abbrev vb (b : Bool) : Value := .bool b

def bitsP (o : Int) : Int := if o = 4 then 7 else o
def isOrderP (o : Int) : Bool := decide (0 ≤ o) && decide (o < 5)
def mayP (k o : Int) : Bool :=
  if k = 0 then !decide (o = 2) && !decide (o = 3) else if k = 1 then !decide (o = 1) && !decide (o = 3) else if k = 5 then !decide (o = 0) else true

section
variable {M : PHeap}

theorem order_bits_q (o : Int) : ConQ Try.prog 92 #[vi o] M (vi (bitsP o)) := by
  refine Con.enter R_order_bits_ok (args := [vi o]) (by simp [R_order_bits]) fun w0 => ?_
  simp only [R_order_bits, argE]
  repeat' first
      | refine EV.seq ?_
      | refine EV.skip ?_
      | refine EV.block ?_
      | refine EV.inBlock ?_
      | (refine EV.reg ?_; (conv => (arg 2; whnf)); simp only [push_cast, reduceIte, Nat.reduceEqDiff, reduceCtorEq, Nat.reduceAdd, Nat.reduceSub, Nat.reduceMul, Int.reduceToNat, Nat.reduceLeDiff])
      | (refine EV.any _ (List.Sublist.refl _) ?_; (conv => (arg 2; whnf)); simp only [push_cast, reduceIte, Nat.reduceEqDiff, reduceCtorEq, Nat.reduceAdd, Nat.reduceSub, Nat.reduceMul, Int.reduceToNat, Nat.reduceLeDiff])
      | assumption
      | (refine condW.merge ?_ (fun hc K' hK => ?_) ?_; rotate_left)
      | (refine condQ.mk ?_ (fun hc => ?_) ?_; rotate_left; (try simp only [decide_eq_true_eq, decide_eq_false_iff_not, Bool.not_eq_true', Bool.not_eq_false', Bool.and_eq_true, Bool.or_eq_true, Bool.and_eq_false_iff, Bool.or_eq_false_iff] at hc))
      | (with_reducible rfl)
      | ((refine EV.cond rfl (fun h => ?_) (fun h => ?_) <;> try simp only [reduceCtorEq, reduceIte, if_true, if_false, Bool.not_eq_true', Bool.not_eq_false', decide_eq_true_eq, decide_eq_false_iff_not, Bool.and_eq_true, Bool.or_eq_true, Bool.and_eq_false_iff, Bool.or_eq_false_iff] at h) <;> try (exfalso; first | exact h True.intro | (exact h; done) | omega))
      | (refine EV.exit rfl ?_)
      | (refine EV.ret R_order_bits_ok ?_; simp only [push_cast, reduceIte, Nat.reduceEqDiff, reduceCtorEq, Nat.reduceAdd, Nat.reduceSub, Nat.reduceMul, Int.reduceToNat, Nat.reduceLeDiff, R_order_bits])
      | (with_reducible intro b; try simp only [push_cast, reduceIte, Nat.reduceEqDiff, reduceCtorEq, Nat.reduceAdd, Nat.reduceSub, Nat.reduceMul, Int.reduceToNat, Nat.reduceLeDiff])
      | with_reducible intro b
      | (refine And.intro (by omega) ?_)
      | (refine Exists.intro _ (And.intro (rd_M (by assumption)) ?_); try simp only [push_cast, reduceIte, Nat.reduceEqDiff, reduceCtorEq, Nat.reduceAdd, Nat.reduceSub, Nat.reduceMul, Int.reduceToNat, Nat.reduceLeDiff])
      | (refine Exists.intro _ (Exists.intro _ (Exists.intro _ (And.intro (rd_M (by assumption)) ?_))); try simp only [push_cast, reduceIte, Nat.reduceEqDiff, reduceCtorEq, Nat.reduceAdd, Nat.reduceSub, Nat.reduceMul, Int.reduceToNat, Nat.reduceLeDiff])
      | (refine Exists.intro _ (And.intro (by assumption) ?_); try simp only [push_cast, reduceIte, Nat.reduceEqDiff, reduceCtorEq, Nat.reduceAdd, Nat.reduceSub, Nat.reduceMul, Int.reduceToNat, Nat.reduceLeDiff])
      | (refine Exists.intro _ (Exists.intro _ (Exists.intro _ (And.intro (by assumption) ?_))); try simp only [push_cast, reduceIte, Nat.reduceEqDiff, reduceCtorEq, Nat.reduceAdd, Nat.reduceSub, Nat.reduceMul, Int.reduceToNat, Nat.reduceLeDiff])
      | (refine xr rfl (by simp only [List.length_cons, List.length_nil]; omega) ?_; try simp only [push_cast, reduceIte, Nat.reduceEqDiff, reduceCtorEq, Nat.reduceAdd, Nat.reduceSub, Nat.reduceMul, Int.reduceToNat, Nat.reduceLeDiff])
      | (refine xi rfl (by simp only [List.length_cons, List.length_nil]; omega) ?_; try simp only [push_cast, reduceIte, Nat.reduceEqDiff, reduceCtorEq, Nat.reduceAdd, Nat.reduceSub, Nat.reduceMul, Int.reduceToNat, Nat.reduceLeDiff])
      | (refine xs rfl (by simp only [List.length_cons, List.length_nil]; omega) ?_; try simp only [push_cast, reduceIte, Nat.reduceEqDiff, reduceCtorEq, Nat.reduceAdd, Nat.reduceSub, Nat.reduceMul, Int.reduceToNat, Nat.reduceLeDiff])
      | (refine xw ?_; simp only [push_cast, reduceIte, Nat.reduceEqDiff, reduceCtorEq, Nat.reduceAdd, Nat.reduceSub, Nat.reduceMul, Int.reduceToNat, Nat.reduceLeDiff])
      | (refine And.intro (PHeap.le_refl _) (And.intro (fun p hp => hp) ?_))
      | (refine And.intro (PHeap.le_refl _) (And.intro (fun p hp => List.mem_cons_of_mem _ hp) ?_))
      | (refine And.intro (PHeap.le_refl _) (And.intro (fun p hp => List.mem_cons_of_mem _ (List.mem_cons_of_mem _ hp)) ?_))
      | (refine And.intro (PHeap.le_refl _) (And.intro (mem_of_sub ?_) ?_); focus ((repeat' first | exact List.Sublist.refl _ | exact List.nil_sublist _ | exact List.sublist_append_left _ _ | refine List.Sublist.cons_cons _ ?_ | refine List.Sublist.append_left ?_ _ | refine List.sublist_append_of_sublist_right ?_ | refine List.Sublist.cons _ ?_); done); try simp only [push_cast, reduceIte, Nat.reduceEqDiff, reduceCtorEq, Nat.reduceAdd, Nat.reduceSub, Nat.reduceMul, Int.reduceToNat, Nat.reduceLeDiff])
      | (exfalso; simp at hc; done)
      | (exfalso; omega)
      | exact false
      | fail "stuck"
  all_goals simp_all [bitsP]

theorem order_isOrder_q (o : Int) : ConQ Try.prog 89 #[vi o] M (vb (isOrderP o)) := by
  refine Con.enter R_order_isOrder_ok (args := [vi o]) (by simp [R_order_isOrder]) fun w0 => ?_
  simp only [R_order_isOrder, argE]
  repeat' first
      | refine EV.seq ?_
      | refine EV.skip ?_
      | refine EV.block ?_
      | refine EV.inBlock ?_
      | (refine EV.reg ?_; (conv => (arg 2; whnf)); simp only [push_cast, reduceIte, Nat.reduceEqDiff, reduceCtorEq, Nat.reduceAdd, Nat.reduceSub, Nat.reduceMul, Int.reduceToNat, Nat.reduceLeDiff])
      | (refine EV.any _ (List.Sublist.refl _) ?_; (conv => (arg 2; whnf)); simp only [push_cast, reduceIte, Nat.reduceEqDiff, reduceCtorEq, Nat.reduceAdd, Nat.reduceSub, Nat.reduceMul, Int.reduceToNat, Nat.reduceLeDiff])
      | assumption
      | (refine condW.merge ?_ (fun hc K' hK => ?_) ?_; rotate_left)
      | (refine condQ.mk ?_ (fun hc => ?_) ?_; rotate_left; (try simp only [decide_eq_true_eq, decide_eq_false_iff_not, Bool.not_eq_true', Bool.not_eq_false', Bool.and_eq_true, Bool.or_eq_true, Bool.and_eq_false_iff, Bool.or_eq_false_iff] at hc))
      | (with_reducible rfl)
      | ((refine EV.cond rfl (fun h => ?_) (fun h => ?_) <;> try simp only [reduceCtorEq, reduceIte, if_true, if_false, Bool.not_eq_true', Bool.not_eq_false', decide_eq_true_eq, decide_eq_false_iff_not, Bool.and_eq_true, Bool.or_eq_true, Bool.and_eq_false_iff, Bool.or_eq_false_iff] at h) <;> try (exfalso; first | exact h True.intro | (exact h; done) | omega))
      | (refine EV.exit rfl ?_)
      | (refine EV.ret R_order_isOrder_ok ?_; simp only [push_cast, reduceIte, Nat.reduceEqDiff, reduceCtorEq, Nat.reduceAdd, Nat.reduceSub, Nat.reduceMul, Int.reduceToNat, Nat.reduceLeDiff, R_order_isOrder])
      | (with_reducible intro b; try simp only [push_cast, reduceIte, Nat.reduceEqDiff, reduceCtorEq, Nat.reduceAdd, Nat.reduceSub, Nat.reduceMul, Int.reduceToNat, Nat.reduceLeDiff])
      | with_reducible intro b
      | (refine And.intro (by omega) ?_)
      | (refine Exists.intro _ (And.intro (rd_M (by assumption)) ?_); try simp only [push_cast, reduceIte, Nat.reduceEqDiff, reduceCtorEq, Nat.reduceAdd, Nat.reduceSub, Nat.reduceMul, Int.reduceToNat, Nat.reduceLeDiff])
      | (refine Exists.intro _ (Exists.intro _ (Exists.intro _ (And.intro (rd_M (by assumption)) ?_))); try simp only [push_cast, reduceIte, Nat.reduceEqDiff, reduceCtorEq, Nat.reduceAdd, Nat.reduceSub, Nat.reduceMul, Int.reduceToNat, Nat.reduceLeDiff])
      | (refine Exists.intro _ (And.intro (by assumption) ?_); try simp only [push_cast, reduceIte, Nat.reduceEqDiff, reduceCtorEq, Nat.reduceAdd, Nat.reduceSub, Nat.reduceMul, Int.reduceToNat, Nat.reduceLeDiff])
      | (refine Exists.intro _ (Exists.intro _ (Exists.intro _ (And.intro (by assumption) ?_))); try simp only [push_cast, reduceIte, Nat.reduceEqDiff, reduceCtorEq, Nat.reduceAdd, Nat.reduceSub, Nat.reduceMul, Int.reduceToNat, Nat.reduceLeDiff])
      | (refine xr rfl (by simp only [List.length_cons, List.length_nil]; omega) ?_; try simp only [push_cast, reduceIte, Nat.reduceEqDiff, reduceCtorEq, Nat.reduceAdd, Nat.reduceSub, Nat.reduceMul, Int.reduceToNat, Nat.reduceLeDiff])
      | (refine xi rfl (by simp only [List.length_cons, List.length_nil]; omega) ?_; try simp only [push_cast, reduceIte, Nat.reduceEqDiff, reduceCtorEq, Nat.reduceAdd, Nat.reduceSub, Nat.reduceMul, Int.reduceToNat, Nat.reduceLeDiff])
      | (refine xs rfl (by simp only [List.length_cons, List.length_nil]; omega) ?_; try simp only [push_cast, reduceIte, Nat.reduceEqDiff, reduceCtorEq, Nat.reduceAdd, Nat.reduceSub, Nat.reduceMul, Int.reduceToNat, Nat.reduceLeDiff])
      | (refine xw ?_; simp only [push_cast, reduceIte, Nat.reduceEqDiff, reduceCtorEq, Nat.reduceAdd, Nat.reduceSub, Nat.reduceMul, Int.reduceToNat, Nat.reduceLeDiff])
      | (refine And.intro (PHeap.le_refl _) (And.intro (fun p hp => hp) ?_))
      | (refine And.intro (PHeap.le_refl _) (And.intro (fun p hp => List.mem_cons_of_mem _ hp) ?_))
      | (refine And.intro (PHeap.le_refl _) (And.intro (fun p hp => List.mem_cons_of_mem _ (List.mem_cons_of_mem _ hp)) ?_))
      | (refine And.intro (PHeap.le_refl _) (And.intro (mem_of_sub ?_) ?_); focus ((repeat' first | exact List.Sublist.refl _ | exact List.nil_sublist _ | exact List.sublist_append_left _ _ | refine List.Sublist.cons_cons _ ?_ | refine List.Sublist.append_left ?_ _ | refine List.sublist_append_of_sublist_right ?_ | refine List.Sublist.cons _ ?_); done); try simp only [push_cast, reduceIte, Nat.reduceEqDiff, reduceCtorEq, Nat.reduceAdd, Nat.reduceSub, Nat.reduceMul, Int.reduceToNat, Nat.reduceLeDiff])
      | (exfalso; simp at hc; done)
      | (exfalso; omega)
      | exact false
      | fail "stuck"
  all_goals simp_all [isOrderP]

theorem order_may_q (k o : Int) : ConQ Try.prog 90 #[vi k, vi o] M (vb (mayP k o)) := by
  refine Con.enter R_order_may_ok (args := [vi k, vi o]) (by simp [R_order_may]) fun w0 => ?_
  simp only [R_order_may, argE]
  repeat' first
      | refine EV.seq ?_
      | refine EV.skip ?_
      | refine EV.block ?_
      | refine EV.inBlock ?_
      | (refine EV.reg ?_; (conv => (arg 2; whnf)); simp only [push_cast, reduceIte, Nat.reduceEqDiff, reduceCtorEq, Nat.reduceAdd, Nat.reduceSub, Nat.reduceMul, Int.reduceToNat, Nat.reduceLeDiff])
      | (refine EV.any _ (List.Sublist.refl _) ?_; (conv => (arg 2; whnf)); simp only [push_cast, reduceIte, Nat.reduceEqDiff, reduceCtorEq, Nat.reduceAdd, Nat.reduceSub, Nat.reduceMul, Int.reduceToNat, Nat.reduceLeDiff])
      | assumption
      | (refine condW.merge ?_ (fun hc K' hK => ?_) ?_; rotate_left)
      | (refine condQ.mk ?_ (fun hc => ?_) ?_; rotate_left; (try simp only [decide_eq_true_eq, decide_eq_false_iff_not, Bool.not_eq_true', Bool.not_eq_false', Bool.and_eq_true, Bool.or_eq_true, Bool.and_eq_false_iff, Bool.or_eq_false_iff] at hc))
      | (with_reducible rfl)
      | ((refine EV.cond rfl (fun h => ?_) (fun h => ?_) <;> try simp only [reduceCtorEq, reduceIte, if_true, if_false, Bool.not_eq_true', Bool.not_eq_false', decide_eq_true_eq, decide_eq_false_iff_not, Bool.and_eq_true, Bool.or_eq_true, Bool.and_eq_false_iff, Bool.or_eq_false_iff] at h) <;> try (exfalso; first | exact h True.intro | (exact h; done) | omega))
      | (refine EV.exit rfl ?_)
      | (refine EV.ret R_order_may_ok ?_; simp only [push_cast, reduceIte, Nat.reduceEqDiff, reduceCtorEq, Nat.reduceAdd, Nat.reduceSub, Nat.reduceMul, Int.reduceToNat, Nat.reduceLeDiff, R_order_may])
      | (with_reducible intro b; try simp only [push_cast, reduceIte, Nat.reduceEqDiff, reduceCtorEq, Nat.reduceAdd, Nat.reduceSub, Nat.reduceMul, Int.reduceToNat, Nat.reduceLeDiff])
      | with_reducible intro b
      | (refine And.intro (by omega) ?_)
      | (refine Exists.intro _ (And.intro (rd_M (by assumption)) ?_); try simp only [push_cast, reduceIte, Nat.reduceEqDiff, reduceCtorEq, Nat.reduceAdd, Nat.reduceSub, Nat.reduceMul, Int.reduceToNat, Nat.reduceLeDiff])
      | (refine Exists.intro _ (Exists.intro _ (Exists.intro _ (And.intro (rd_M (by assumption)) ?_))); try simp only [push_cast, reduceIte, Nat.reduceEqDiff, reduceCtorEq, Nat.reduceAdd, Nat.reduceSub, Nat.reduceMul, Int.reduceToNat, Nat.reduceLeDiff])
      | (refine Exists.intro _ (And.intro (by assumption) ?_); try simp only [push_cast, reduceIte, Nat.reduceEqDiff, reduceCtorEq, Nat.reduceAdd, Nat.reduceSub, Nat.reduceMul, Int.reduceToNat, Nat.reduceLeDiff])
      | (refine Exists.intro _ (Exists.intro _ (Exists.intro _ (And.intro (by assumption) ?_))); try simp only [push_cast, reduceIte, Nat.reduceEqDiff, reduceCtorEq, Nat.reduceAdd, Nat.reduceSub, Nat.reduceMul, Int.reduceToNat, Nat.reduceLeDiff])
      | (refine xr rfl (by simp only [List.length_cons, List.length_nil]; omega) ?_; try simp only [push_cast, reduceIte, Nat.reduceEqDiff, reduceCtorEq, Nat.reduceAdd, Nat.reduceSub, Nat.reduceMul, Int.reduceToNat, Nat.reduceLeDiff])
      | (refine xi rfl (by simp only [List.length_cons, List.length_nil]; omega) ?_; try simp only [push_cast, reduceIte, Nat.reduceEqDiff, reduceCtorEq, Nat.reduceAdd, Nat.reduceSub, Nat.reduceMul, Int.reduceToNat, Nat.reduceLeDiff])
      | (refine xs rfl (by simp only [List.length_cons, List.length_nil]; omega) ?_; try simp only [push_cast, reduceIte, Nat.reduceEqDiff, reduceCtorEq, Nat.reduceAdd, Nat.reduceSub, Nat.reduceMul, Int.reduceToNat, Nat.reduceLeDiff])
      | (refine xw ?_; simp only [push_cast, reduceIte, Nat.reduceEqDiff, reduceCtorEq, Nat.reduceAdd, Nat.reduceSub, Nat.reduceMul, Int.reduceToNat, Nat.reduceLeDiff])
      | (refine And.intro (PHeap.le_refl _) (And.intro (fun p hp => hp) ?_))
      | (refine And.intro (PHeap.le_refl _) (And.intro (fun p hp => List.mem_cons_of_mem _ hp) ?_))
      | (refine And.intro (PHeap.le_refl _) (And.intro (fun p hp => List.mem_cons_of_mem _ (List.mem_cons_of_mem _ hp)) ?_))
      | (refine And.intro (PHeap.le_refl _) (And.intro (mem_of_sub ?_) ?_); focus ((repeat' first | exact List.Sublist.refl _ | exact List.nil_sublist _ | exact List.sublist_append_left _ _ | refine List.Sublist.cons_cons _ ?_ | refine List.Sublist.append_left ?_ _ | refine List.sublist_append_of_sublist_right ?_ | refine List.Sublist.cons _ ?_); done); try simp only [push_cast, reduceIte, Nat.reduceEqDiff, reduceCtorEq, Nat.reduceAdd, Nat.reduceSub, Nat.reduceMul, Int.reduceToNat, Nat.reduceLeDiff])
      | (exfalso; simp at hc; done)
      | (exfalso; omega)
      | exact false
      | fail "stuck"
  all_goals simp_all [mayP]


def mayR (k o : Int) : Bool := decide (0 ≤ k) && decide (k < 6) && isOrderP o
theorem order_May_q (k o : Int) : ConQ Try.prog 80 #[vi k, vi o] M (.tuple #[vb (mayR k o && mayP k o), vi (if mayR k o then 0 else 1)]) := by
  refine Con.enter R_order_May_ok (args := [vi k, vi o]) (by simp [R_order_May]) fun w0 => ?_
  simp only [R_order_May, argE]
  repeat' first
      | refine EV.seq ?_
      | refine EV.skip ?_
      | refine EV.block ?_
      | refine EV.inBlock ?_
      | (refine EV.reg ?_; (conv => (arg 2; whnf)); simp only [push_cast, reduceIte, Nat.reduceEqDiff, reduceCtorEq, Nat.reduceAdd, Nat.reduceSub, Nat.reduceMul, Int.reduceToNat, Nat.reduceLeDiff])
      | (refine EV.any _ (List.Sublist.refl _) ?_; (conv => (arg 2; whnf)); simp only [push_cast, reduceIte, Nat.reduceEqDiff, reduceCtorEq, Nat.reduceAdd, Nat.reduceSub, Nat.reduceMul, Int.reduceToNat, Nat.reduceLeDiff])
      | (refine ConQ.call (order_may_q _ _) ?_; try simp only [push_cast, reduceIte, Nat.reduceEqDiff, reduceCtorEq, Nat.reduceAdd, Nat.reduceSub, Nat.reduceMul, Int.reduceToNat, Nat.reduceLeDiff])
      | (refine Exists.intro _ (And.intro (order_may_q _ _) ?_); try simp only [push_cast, reduceIte, Nat.reduceEqDiff, reduceCtorEq, Nat.reduceAdd, Nat.reduceSub, Nat.reduceMul, Int.reduceToNat, Nat.reduceLeDiff])
      | (refine ConQ.call (order_isOrder_q _) ?_; try simp only [push_cast, reduceIte, Nat.reduceEqDiff, reduceCtorEq, Nat.reduceAdd, Nat.reduceSub, Nat.reduceMul, Int.reduceToNat, Nat.reduceLeDiff])
      | (refine Exists.intro _ (And.intro (order_isOrder_q _) ?_); try simp only [push_cast, reduceIte, Nat.reduceEqDiff, reduceCtorEq, Nat.reduceAdd, Nat.reduceSub, Nat.reduceMul, Int.reduceToNat, Nat.reduceLeDiff])
      | assumption
      | (refine condW.merge ?_ (fun hc K' hK => ?_) ?_; rotate_left)
      | (refine condQ.mk ?_ (fun hc => ?_) ?_; rotate_left; (try simp only [decide_eq_true_eq, decide_eq_false_iff_not, Bool.not_eq_true', Bool.not_eq_false', Bool.and_eq_true, Bool.or_eq_true, Bool.and_eq_false_iff, Bool.or_eq_false_iff] at hc))
      | (with_reducible rfl)
      | ((refine EV.cond rfl (fun h => ?_) (fun h => ?_) <;> try simp only [reduceCtorEq, reduceIte, if_true, if_false, Bool.not_eq_true', Bool.not_eq_false', decide_eq_true_eq, decide_eq_false_iff_not, Bool.and_eq_true, Bool.or_eq_true, Bool.and_eq_false_iff, Bool.or_eq_false_iff] at h) <;> try (exfalso; first | exact h True.intro | (exact h; done) | omega))
      | (refine EV.exit rfl ?_)
      | (refine EV.ret R_order_May_ok ?_; simp only [push_cast, reduceIte, Nat.reduceEqDiff, reduceCtorEq, Nat.reduceAdd, Nat.reduceSub, Nat.reduceMul, Int.reduceToNat, Nat.reduceLeDiff, R_order_May])
      | (with_reducible intro b; try simp only [push_cast, reduceIte, Nat.reduceEqDiff, reduceCtorEq, Nat.reduceAdd, Nat.reduceSub, Nat.reduceMul, Int.reduceToNat, Nat.reduceLeDiff])
      | with_reducible intro b
      | (refine And.intro (by omega) ?_)
      | (refine Exists.intro _ (And.intro (rd_M (by assumption)) ?_); try simp only [push_cast, reduceIte, Nat.reduceEqDiff, reduceCtorEq, Nat.reduceAdd, Nat.reduceSub, Nat.reduceMul, Int.reduceToNat, Nat.reduceLeDiff])
      | (refine Exists.intro _ (Exists.intro _ (Exists.intro _ (And.intro (rd_M (by assumption)) ?_))); try simp only [push_cast, reduceIte, Nat.reduceEqDiff, reduceCtorEq, Nat.reduceAdd, Nat.reduceSub, Nat.reduceMul, Int.reduceToNat, Nat.reduceLeDiff])
      | (refine Exists.intro _ (And.intro (by assumption) ?_); try simp only [push_cast, reduceIte, Nat.reduceEqDiff, reduceCtorEq, Nat.reduceAdd, Nat.reduceSub, Nat.reduceMul, Int.reduceToNat, Nat.reduceLeDiff])
      | (refine Exists.intro _ (Exists.intro _ (Exists.intro _ (And.intro (by assumption) ?_))); try simp only [push_cast, reduceIte, Nat.reduceEqDiff, reduceCtorEq, Nat.reduceAdd, Nat.reduceSub, Nat.reduceMul, Int.reduceToNat, Nat.reduceLeDiff])
      | (refine xr rfl (by simp only [List.length_cons, List.length_nil]; omega) ?_; try simp only [push_cast, reduceIte, Nat.reduceEqDiff, reduceCtorEq, Nat.reduceAdd, Nat.reduceSub, Nat.reduceMul, Int.reduceToNat, Nat.reduceLeDiff])
      | (refine xi rfl (by simp only [List.length_cons, List.length_nil]; omega) ?_; try simp only [push_cast, reduceIte, Nat.reduceEqDiff, reduceCtorEq, Nat.reduceAdd, Nat.reduceSub, Nat.reduceMul, Int.reduceToNat, Nat.reduceLeDiff])
      | (refine xs rfl (by simp only [List.length_cons, List.length_nil]; omega) ?_; try simp only [push_cast, reduceIte, Nat.reduceEqDiff, reduceCtorEq, Nat.reduceAdd, Nat.reduceSub, Nat.reduceMul, Int.reduceToNat, Nat.reduceLeDiff])
      | (refine xw ?_; simp only [push_cast, reduceIte, Nat.reduceEqDiff, reduceCtorEq, Nat.reduceAdd, Nat.reduceSub, Nat.reduceMul, Int.reduceToNat, Nat.reduceLeDiff])
      | (refine And.intro (PHeap.le_refl _) (And.intro (fun p hp => hp) ?_))
      | (refine And.intro (PHeap.le_refl _) (And.intro (fun p hp => List.mem_cons_of_mem _ hp) ?_))
      | (refine And.intro (PHeap.le_refl _) (And.intro (fun p hp => List.mem_cons_of_mem _ (List.mem_cons_of_mem _ hp)) ?_))
      | (refine And.intro (PHeap.le_refl _) (And.intro (mem_of_sub ?_) ?_); focus ((repeat' first | exact List.Sublist.refl _ | exact List.nil_sublist _ | exact List.sublist_append_left _ _ | refine List.Sublist.cons_cons _ ?_ | refine List.Sublist.append_left ?_ _ | refine List.sublist_append_of_sublist_right ?_ | refine List.Sublist.cons _ ?_); done); try simp only [push_cast, reduceIte, Nat.reduceEqDiff, reduceCtorEq, Nat.reduceAdd, Nat.reduceSub, Nat.reduceMul, Int.reduceToNat, Nat.reduceLeDiff])
      | (exfalso; simp at hc; done)
      | (exfalso; omega)
      | exact false
      | fail "stuck"
  all_goals (simp [mayR]; grind)

def acqP (o : Int) : Bool := decide (o = 1) || decide (o = 3) || decide (o = 4)
def relP (o : Int) : Bool := decide (o = 2) || decide (o = 3) || decide (o = 4)

theorem isOrder_cases {o : Int} (h : isOrderP o = true) : o = 0 ∨ o = 1 ∨ o = 2 ∨ o = 3 ∨ o = 4 := by
  simp [isOrderP] at h; omega

theorem order_Acquires_q (o : Int) (ho : isOrderP o = true) : ConQ Try.prog 82 #[vi o] M (.tuple #[vb (acqP o), vi 0]) := by
  refine Con.enter R_order_Acquires_ok (args := [vi o]) (by simp [R_order_Acquires]) fun w0 => ?_
  simp only [R_order_Acquires, argE]
  repeat' first
      | refine EV.seq ?_
      | refine EV.skip ?_
      | refine EV.block ?_
      | refine EV.inBlock ?_
      | (refine EV.reg ?_; (conv => (arg 2; whnf)); simp only [push_cast, reduceIte, Nat.reduceEqDiff, reduceCtorEq, Nat.reduceAdd, Nat.reduceSub, Nat.reduceMul, Int.reduceToNat, Nat.reduceLeDiff])
      | (refine EV.any _ (List.Sublist.refl _) ?_; (conv => (arg 2; whnf)); simp only [push_cast, reduceIte, Nat.reduceEqDiff, reduceCtorEq, Nat.reduceAdd, Nat.reduceSub, Nat.reduceMul, Int.reduceToNat, Nat.reduceLeDiff])
      | (refine ConQ.call (order_bits_q _) ?_; try simp only [push_cast, reduceIte, Nat.reduceEqDiff, reduceCtorEq, Nat.reduceAdd, Nat.reduceSub, Nat.reduceMul, Int.reduceToNat, Nat.reduceLeDiff])
      | (refine Exists.intro _ (And.intro (order_bits_q _) ?_); try simp only [push_cast, reduceIte, Nat.reduceEqDiff, reduceCtorEq, Nat.reduceAdd, Nat.reduceSub, Nat.reduceMul, Int.reduceToNat, Nat.reduceLeDiff])
      | (refine ConQ.call (order_isOrder_q _) ?_; try simp only [push_cast, reduceIte, Nat.reduceEqDiff, reduceCtorEq, Nat.reduceAdd, Nat.reduceSub, Nat.reduceMul, Int.reduceToNat, Nat.reduceLeDiff])
      | (refine Exists.intro _ (And.intro (order_isOrder_q _) ?_); try simp only [push_cast, reduceIte, Nat.reduceEqDiff, reduceCtorEq, Nat.reduceAdd, Nat.reduceSub, Nat.reduceMul, Int.reduceToNat, Nat.reduceLeDiff])
      | assumption
      | (refine condW.merge ?_ (fun hc K' hK => ?_) ?_; rotate_left)
      | (refine condQ.mk ?_ (fun hc => ?_) ?_; rotate_left; (try simp only [decide_eq_true_eq, decide_eq_false_iff_not, Bool.not_eq_true', Bool.not_eq_false', Bool.and_eq_true, Bool.or_eq_true, Bool.and_eq_false_iff, Bool.or_eq_false_iff] at hc))
      | (with_reducible rfl)
      | ((refine EV.cond rfl (fun h => ?_) (fun h => ?_) <;> try simp only [reduceCtorEq, reduceIte, if_true, if_false, Bool.not_eq_true', Bool.not_eq_false', decide_eq_true_eq, decide_eq_false_iff_not, Bool.and_eq_true, Bool.or_eq_true, Bool.and_eq_false_iff, Bool.or_eq_false_iff] at h) <;> try (exfalso; first | exact h True.intro | (exact h; done) | omega))
      | (refine EV.exit rfl ?_)
      | (refine EV.ret R_order_Acquires_ok ?_; simp only [push_cast, reduceIte, Nat.reduceEqDiff, reduceCtorEq, Nat.reduceAdd, Nat.reduceSub, Nat.reduceMul, Int.reduceToNat, Nat.reduceLeDiff, R_order_Acquires])
      | (with_reducible intro b; try simp only [push_cast, reduceIte, Nat.reduceEqDiff, reduceCtorEq, Nat.reduceAdd, Nat.reduceSub, Nat.reduceMul, Int.reduceToNat, Nat.reduceLeDiff])
      | with_reducible intro b
      | (refine And.intro (by omega) ?_)
      | (refine Exists.intro _ (And.intro (rd_M (by assumption)) ?_); try simp only [push_cast, reduceIte, Nat.reduceEqDiff, reduceCtorEq, Nat.reduceAdd, Nat.reduceSub, Nat.reduceMul, Int.reduceToNat, Nat.reduceLeDiff])
      | (refine Exists.intro _ (Exists.intro _ (Exists.intro _ (And.intro (rd_M (by assumption)) ?_))); try simp only [push_cast, reduceIte, Nat.reduceEqDiff, reduceCtorEq, Nat.reduceAdd, Nat.reduceSub, Nat.reduceMul, Int.reduceToNat, Nat.reduceLeDiff])
      | (refine Exists.intro _ (And.intro (by assumption) ?_); try simp only [push_cast, reduceIte, Nat.reduceEqDiff, reduceCtorEq, Nat.reduceAdd, Nat.reduceSub, Nat.reduceMul, Int.reduceToNat, Nat.reduceLeDiff])
      | (refine Exists.intro _ (Exists.intro _ (Exists.intro _ (And.intro (by assumption) ?_))); try simp only [push_cast, reduceIte, Nat.reduceEqDiff, reduceCtorEq, Nat.reduceAdd, Nat.reduceSub, Nat.reduceMul, Int.reduceToNat, Nat.reduceLeDiff])
      | (refine xr rfl (by simp only [List.length_cons, List.length_nil]; omega) ?_; try simp only [push_cast, reduceIte, Nat.reduceEqDiff, reduceCtorEq, Nat.reduceAdd, Nat.reduceSub, Nat.reduceMul, Int.reduceToNat, Nat.reduceLeDiff])
      | (refine xi rfl (by simp only [List.length_cons, List.length_nil]; omega) ?_; try simp only [push_cast, reduceIte, Nat.reduceEqDiff, reduceCtorEq, Nat.reduceAdd, Nat.reduceSub, Nat.reduceMul, Int.reduceToNat, Nat.reduceLeDiff])
      | (refine xs rfl (by simp only [List.length_cons, List.length_nil]; omega) ?_; try simp only [push_cast, reduceIte, Nat.reduceEqDiff, reduceCtorEq, Nat.reduceAdd, Nat.reduceSub, Nat.reduceMul, Int.reduceToNat, Nat.reduceLeDiff])
      | (refine xw ?_; simp only [push_cast, reduceIte, Nat.reduceEqDiff, reduceCtorEq, Nat.reduceAdd, Nat.reduceSub, Nat.reduceMul, Int.reduceToNat, Nat.reduceLeDiff])
      | (refine And.intro (PHeap.le_refl _) (And.intro (fun p hp => hp) ?_))
      | (refine And.intro (PHeap.le_refl _) (And.intro (fun p hp => List.mem_cons_of_mem _ hp) ?_))
      | (refine And.intro (PHeap.le_refl _) (And.intro (fun p hp => List.mem_cons_of_mem _ (List.mem_cons_of_mem _ hp)) ?_))
      | (refine And.intro (PHeap.le_refl _) (And.intro (mem_of_sub ?_) ?_); focus ((repeat' first | exact List.Sublist.refl _ | exact List.nil_sublist _ | exact List.sublist_append_left _ _ | refine List.Sublist.cons_cons _ ?_ | refine List.Sublist.append_left ?_ _ | refine List.sublist_append_of_sublist_right ?_ | refine List.Sublist.cons _ ?_); done); try simp only [push_cast, reduceIte, Nat.reduceEqDiff, reduceCtorEq, Nat.reduceAdd, Nat.reduceSub, Nat.reduceMul, Int.reduceToNat, Nat.reduceLeDiff])
      | (exfalso; simp at hc; done)
      | (exfalso; omega)
      | exact false
      | fail "stuck"
  all_goals (first | (cases (ho.symm.trans h); done) | (rcases isOrder_cases ho with rfl | rfl | rfl | rfl | rfl <;> (congr 3 <;> decide)))

theorem order_Releases_q (o : Int) (ho : isOrderP o = true) : ConQ Try.prog 84 #[vi o] M (.tuple #[vb (relP o), vi 0]) := by
  refine Con.enter R_order_Releases_ok (args := [vi o]) (by simp [R_order_Releases]) fun w0 => ?_
  simp only [R_order_Releases, argE]
  repeat' first
      | refine EV.seq ?_
      | refine EV.skip ?_
      | refine EV.block ?_
      | refine EV.inBlock ?_
      | (refine EV.reg ?_; (conv => (arg 2; whnf)); simp only [push_cast, reduceIte, Nat.reduceEqDiff, reduceCtorEq, Nat.reduceAdd, Nat.reduceSub, Nat.reduceMul, Int.reduceToNat, Nat.reduceLeDiff])
      | (refine EV.any _ (List.Sublist.refl _) ?_; (conv => (arg 2; whnf)); simp only [push_cast, reduceIte, Nat.reduceEqDiff, reduceCtorEq, Nat.reduceAdd, Nat.reduceSub, Nat.reduceMul, Int.reduceToNat, Nat.reduceLeDiff])
      | (refine ConQ.call (order_bits_q _) ?_; try simp only [push_cast, reduceIte, Nat.reduceEqDiff, reduceCtorEq, Nat.reduceAdd, Nat.reduceSub, Nat.reduceMul, Int.reduceToNat, Nat.reduceLeDiff])
      | (refine Exists.intro _ (And.intro (order_bits_q _) ?_); try simp only [push_cast, reduceIte, Nat.reduceEqDiff, reduceCtorEq, Nat.reduceAdd, Nat.reduceSub, Nat.reduceMul, Int.reduceToNat, Nat.reduceLeDiff])
      | (refine ConQ.call (order_isOrder_q _) ?_; try simp only [push_cast, reduceIte, Nat.reduceEqDiff, reduceCtorEq, Nat.reduceAdd, Nat.reduceSub, Nat.reduceMul, Int.reduceToNat, Nat.reduceLeDiff])
      | (refine Exists.intro _ (And.intro (order_isOrder_q _) ?_); try simp only [push_cast, reduceIte, Nat.reduceEqDiff, reduceCtorEq, Nat.reduceAdd, Nat.reduceSub, Nat.reduceMul, Int.reduceToNat, Nat.reduceLeDiff])
      | assumption
      | (refine condW.merge ?_ (fun hc K' hK => ?_) ?_; rotate_left)
      | (refine condQ.mk ?_ (fun hc => ?_) ?_; rotate_left; (try simp only [decide_eq_true_eq, decide_eq_false_iff_not, Bool.not_eq_true', Bool.not_eq_false', Bool.and_eq_true, Bool.or_eq_true, Bool.and_eq_false_iff, Bool.or_eq_false_iff] at hc))
      | (with_reducible rfl)
      | ((refine EV.cond rfl (fun h => ?_) (fun h => ?_) <;> try simp only [reduceCtorEq, reduceIte, if_true, if_false, Bool.not_eq_true', Bool.not_eq_false', decide_eq_true_eq, decide_eq_false_iff_not, Bool.and_eq_true, Bool.or_eq_true, Bool.and_eq_false_iff, Bool.or_eq_false_iff] at h) <;> try (exfalso; first | exact h True.intro | (exact h; done) | omega))
      | (refine EV.exit rfl ?_)
      | (refine EV.ret R_order_Releases_ok ?_; simp only [push_cast, reduceIte, Nat.reduceEqDiff, reduceCtorEq, Nat.reduceAdd, Nat.reduceSub, Nat.reduceMul, Int.reduceToNat, Nat.reduceLeDiff, R_order_Releases])
      | (with_reducible intro b; try simp only [push_cast, reduceIte, Nat.reduceEqDiff, reduceCtorEq, Nat.reduceAdd, Nat.reduceSub, Nat.reduceMul, Int.reduceToNat, Nat.reduceLeDiff])
      | with_reducible intro b
      | (refine And.intro (by omega) ?_)
      | (refine Exists.intro _ (And.intro (rd_M (by assumption)) ?_); try simp only [push_cast, reduceIte, Nat.reduceEqDiff, reduceCtorEq, Nat.reduceAdd, Nat.reduceSub, Nat.reduceMul, Int.reduceToNat, Nat.reduceLeDiff])
      | (refine Exists.intro _ (Exists.intro _ (Exists.intro _ (And.intro (rd_M (by assumption)) ?_))); try simp only [push_cast, reduceIte, Nat.reduceEqDiff, reduceCtorEq, Nat.reduceAdd, Nat.reduceSub, Nat.reduceMul, Int.reduceToNat, Nat.reduceLeDiff])
      | (refine Exists.intro _ (And.intro (by assumption) ?_); try simp only [push_cast, reduceIte, Nat.reduceEqDiff, reduceCtorEq, Nat.reduceAdd, Nat.reduceSub, Nat.reduceMul, Int.reduceToNat, Nat.reduceLeDiff])
      | (refine Exists.intro _ (Exists.intro _ (Exists.intro _ (And.intro (by assumption) ?_))); try simp only [push_cast, reduceIte, Nat.reduceEqDiff, reduceCtorEq, Nat.reduceAdd, Nat.reduceSub, Nat.reduceMul, Int.reduceToNat, Nat.reduceLeDiff])
      | (refine xr rfl (by simp only [List.length_cons, List.length_nil]; omega) ?_; try simp only [push_cast, reduceIte, Nat.reduceEqDiff, reduceCtorEq, Nat.reduceAdd, Nat.reduceSub, Nat.reduceMul, Int.reduceToNat, Nat.reduceLeDiff])
      | (refine xi rfl (by simp only [List.length_cons, List.length_nil]; omega) ?_; try simp only [push_cast, reduceIte, Nat.reduceEqDiff, reduceCtorEq, Nat.reduceAdd, Nat.reduceSub, Nat.reduceMul, Int.reduceToNat, Nat.reduceLeDiff])
      | (refine xs rfl (by simp only [List.length_cons, List.length_nil]; omega) ?_; try simp only [push_cast, reduceIte, Nat.reduceEqDiff, reduceCtorEq, Nat.reduceAdd, Nat.reduceSub, Nat.reduceMul, Int.reduceToNat, Nat.reduceLeDiff])
      | (refine xw ?_; simp only [push_cast, reduceIte, Nat.reduceEqDiff, reduceCtorEq, Nat.reduceAdd, Nat.reduceSub, Nat.reduceMul, Int.reduceToNat, Nat.reduceLeDiff])
      | (refine And.intro (PHeap.le_refl _) (And.intro (fun p hp => hp) ?_))
      | (refine And.intro (PHeap.le_refl _) (And.intro (fun p hp => List.mem_cons_of_mem _ hp) ?_))
      | (refine And.intro (PHeap.le_refl _) (And.intro (fun p hp => List.mem_cons_of_mem _ (List.mem_cons_of_mem _ hp)) ?_))
      | (refine And.intro (PHeap.le_refl _) (And.intro (mem_of_sub ?_) ?_); focus ((repeat' first | exact List.Sublist.refl _ | exact List.nil_sublist _ | exact List.sublist_append_left _ _ | refine List.Sublist.cons_cons _ ?_ | refine List.Sublist.append_left ?_ _ | refine List.sublist_append_of_sublist_right ?_ | refine List.Sublist.cons _ ?_); done); try simp only [push_cast, reduceIte, Nat.reduceEqDiff, reduceCtorEq, Nat.reduceAdd, Nat.reduceSub, Nat.reduceMul, Int.reduceToNat, Nat.reduceLeDiff])
      | (exfalso; simp at hc; done)
      | (exfalso; omega)
      | exact false
      | fail "stuck"
  all_goals (first | (cases (ho.symm.trans h); done) | (rcases isOrder_cases ho with rfl | rfl | rfl | rfl | rfl <;> (congr 3 <;> decide)))

def plainP (k o : Int) : Int := if o ≠ 4 then o else if k = 0 then 1 else if k = 1 then 2 else 3
theorem order_Plain_q (k o : Int) (hk : mayR k o = true) (hm : mayP k o = true) (h5 : k ≠ 5) : ConQ Try.prog 63 #[vi k, vi o] M (.tuple #[vi (plainP k o), vi 0]) := by
  refine Con.enter R_order_Plain_ok (args := [vi k, vi o]) (by simp [R_order_Plain]) fun w0 => ?_
  simp only [R_order_Plain, argE]
  repeat' first
      | refine EV.seq ?_
      | refine EV.skip ?_
      | refine EV.block ?_
      | refine EV.inBlock ?_
      | (refine EV.reg ?_; (conv => (arg 2; whnf)); simp only [push_cast, reduceIte, Nat.reduceEqDiff, reduceCtorEq, Nat.reduceAdd, Nat.reduceSub, Nat.reduceMul, Int.reduceToNat, Nat.reduceLeDiff])
      | (refine EV.any _ (List.Sublist.refl _) ?_; (conv => (arg 2; whnf)); simp only [push_cast, reduceIte, Nat.reduceEqDiff, reduceCtorEq, Nat.reduceAdd, Nat.reduceSub, Nat.reduceMul, Int.reduceToNat, Nat.reduceLeDiff])
      | (refine ConQ.call (order_May_q _ _) ?_; try simp only [push_cast, reduceIte, Nat.reduceEqDiff, reduceCtorEq, Nat.reduceAdd, Nat.reduceSub, Nat.reduceMul, Int.reduceToNat, Nat.reduceLeDiff])
      | (refine Exists.intro _ (And.intro (order_May_q _ _) ?_); try simp only [push_cast, reduceIte, Nat.reduceEqDiff, reduceCtorEq, Nat.reduceAdd, Nat.reduceSub, Nat.reduceMul, Int.reduceToNat, Nat.reduceLeDiff])
      | assumption
      | (refine condW.merge ?_ (fun hc K' hK => ?_) ?_; rotate_left)
      | (refine condQ.mk ?_ (fun hc => ?_) ?_; rotate_left; (try simp only [decide_eq_true_eq, decide_eq_false_iff_not, Bool.not_eq_true', Bool.not_eq_false', Bool.and_eq_true, Bool.or_eq_true, Bool.and_eq_false_iff, Bool.or_eq_false_iff] at hc))
      | (with_reducible rfl)
      | ((refine EV.cond rfl (fun h => ?_) (fun h => ?_) <;> try simp only [reduceCtorEq, reduceIte, if_true, if_false, Bool.not_eq_true', Bool.not_eq_false', decide_eq_true_eq, decide_eq_false_iff_not, Bool.and_eq_true, Bool.or_eq_true, Bool.and_eq_false_iff, Bool.or_eq_false_iff] at h) <;> try (exfalso; first | exact h True.intro | (exact h; done) | omega))
      | (refine EV.exit rfl ?_)
      | (refine EV.ret R_order_Plain_ok ?_; simp only [push_cast, reduceIte, Nat.reduceEqDiff, reduceCtorEq, Nat.reduceAdd, Nat.reduceSub, Nat.reduceMul, Int.reduceToNat, Nat.reduceLeDiff, R_order_Plain])
      | (with_reducible intro b; try simp only [push_cast, reduceIte, Nat.reduceEqDiff, reduceCtorEq, Nat.reduceAdd, Nat.reduceSub, Nat.reduceMul, Int.reduceToNat, Nat.reduceLeDiff])
      | with_reducible intro b
      | (refine And.intro (by omega) ?_)
      | (refine Exists.intro _ (And.intro (rd_M (by assumption)) ?_); try simp only [push_cast, reduceIte, Nat.reduceEqDiff, reduceCtorEq, Nat.reduceAdd, Nat.reduceSub, Nat.reduceMul, Int.reduceToNat, Nat.reduceLeDiff])
      | (refine Exists.intro _ (Exists.intro _ (Exists.intro _ (And.intro (rd_M (by assumption)) ?_))); try simp only [push_cast, reduceIte, Nat.reduceEqDiff, reduceCtorEq, Nat.reduceAdd, Nat.reduceSub, Nat.reduceMul, Int.reduceToNat, Nat.reduceLeDiff])
      | (refine Exists.intro _ (And.intro (by assumption) ?_); try simp only [push_cast, reduceIte, Nat.reduceEqDiff, reduceCtorEq, Nat.reduceAdd, Nat.reduceSub, Nat.reduceMul, Int.reduceToNat, Nat.reduceLeDiff])
      | (refine Exists.intro _ (Exists.intro _ (Exists.intro _ (And.intro (by assumption) ?_))); try simp only [push_cast, reduceIte, Nat.reduceEqDiff, reduceCtorEq, Nat.reduceAdd, Nat.reduceSub, Nat.reduceMul, Int.reduceToNat, Nat.reduceLeDiff])
      | (refine xr rfl (by simp only [List.length_cons, List.length_nil]; omega) ?_; try simp only [push_cast, reduceIte, Nat.reduceEqDiff, reduceCtorEq, Nat.reduceAdd, Nat.reduceSub, Nat.reduceMul, Int.reduceToNat, Nat.reduceLeDiff])
      | (refine xi rfl (by simp only [List.length_cons, List.length_nil]; omega) ?_; try simp only [push_cast, reduceIte, Nat.reduceEqDiff, reduceCtorEq, Nat.reduceAdd, Nat.reduceSub, Nat.reduceMul, Int.reduceToNat, Nat.reduceLeDiff])
      | (refine xs rfl (by simp only [List.length_cons, List.length_nil]; omega) ?_; try simp only [push_cast, reduceIte, Nat.reduceEqDiff, reduceCtorEq, Nat.reduceAdd, Nat.reduceSub, Nat.reduceMul, Int.reduceToNat, Nat.reduceLeDiff])
      | (refine xw ?_; simp only [push_cast, reduceIte, Nat.reduceEqDiff, reduceCtorEq, Nat.reduceAdd, Nat.reduceSub, Nat.reduceMul, Int.reduceToNat, Nat.reduceLeDiff])
      | (refine And.intro (PHeap.le_refl _) (And.intro (fun p hp => hp) ?_))
      | (refine And.intro (PHeap.le_refl _) (And.intro (fun p hp => List.mem_cons_of_mem _ hp) ?_))
      | (refine And.intro (PHeap.le_refl _) (And.intro (fun p hp => List.mem_cons_of_mem _ (List.mem_cons_of_mem _ hp)) ?_))
      | (refine And.intro (PHeap.le_refl _) (And.intro (mem_of_sub ?_) ?_); focus ((repeat' first | exact List.Sublist.refl _ | exact List.nil_sublist _ | exact List.sublist_append_left _ _ | refine List.Sublist.cons_cons _ ?_ | refine List.Sublist.append_left ?_ _ | refine List.sublist_append_of_sublist_right ?_ | refine List.Sublist.cons _ ?_); done); try simp only [push_cast, reduceIte, Nat.reduceEqDiff, reduceCtorEq, Nat.reduceAdd, Nat.reduceSub, Nat.reduceMul, Int.reduceToNat, Nat.reduceLeDiff])
      | (exfalso; simp at hc; done)
      | (exfalso; omega)
      | exact false
      | fail "stuck"
  all_goals simp_all [plainP]

/-- An operation of a litmus program. -/
structure OpV where
  kind : Int
  loc : Int
  v : Int
  w : Int
  ord : Int
  deriving DecidableEq

abbrev encOp (o : OpV) : List Value := [vi o.kind, vi o.loc, vi o.v, vi o.w, vi o.ord]
abbrev vop (o : OpV) : Value := .agg #[vi o.kind, vi o.loc, vi o.v, vi o.w, vi o.ord]

def digitP (n : Int) : Bool := decide (0 ≤ n) && decide (n ≤ 9)
theorem litmus_digit_q (n : Int) : ConQ Try.prog 91 #[vi n] M (vb (digitP n)) := by
  refine Con.enter R_litmus_digit_ok (args := [vi n]) (by simp [R_litmus_digit]) fun w0 => ?_
  simp only [R_litmus_digit, argE]
  repeat' first
      | refine EV.seq ?_
      | refine EV.skip ?_
      | refine EV.block ?_
      | refine EV.inBlock ?_
      | (refine EV.reg ?_; (conv => (arg 2; whnf)); simp only [push_cast, reduceIte, Nat.reduceEqDiff, reduceCtorEq, Nat.reduceAdd, Nat.reduceSub, Nat.reduceMul, Int.reduceToNat, Nat.reduceLeDiff])
      | (refine EV.any _ (List.Sublist.refl _) ?_; (conv => (arg 2; whnf)); simp only [push_cast, reduceIte, Nat.reduceEqDiff, reduceCtorEq, Nat.reduceAdd, Nat.reduceSub, Nat.reduceMul, Int.reduceToNat, Nat.reduceLeDiff])
      | assumption
      | (refine condW.merge ?_ (fun hc K' hK => ?_) ?_; rotate_left)
      | (refine condQ.mk ?_ (fun hc => ?_) ?_; rotate_left; (try simp only [decide_eq_true_eq, decide_eq_false_iff_not, Bool.not_eq_true', Bool.not_eq_false', Bool.and_eq_true, Bool.or_eq_true, Bool.and_eq_false_iff, Bool.or_eq_false_iff] at hc))
      | (with_reducible rfl)
      | ((refine EV.cond rfl (fun h => ?_) (fun h => ?_) <;> try simp only [reduceCtorEq, reduceIte, if_true, if_false, Bool.not_eq_true', Bool.not_eq_false', decide_eq_true_eq, decide_eq_false_iff_not, Bool.and_eq_true, Bool.or_eq_true, Bool.and_eq_false_iff, Bool.or_eq_false_iff] at h) <;> try (exfalso; first | exact h True.intro | (exact h; done) | omega))
      | (refine EV.exit rfl ?_)
      | (refine EV.ret R_litmus_digit_ok ?_; simp only [push_cast, reduceIte, Nat.reduceEqDiff, reduceCtorEq, Nat.reduceAdd, Nat.reduceSub, Nat.reduceMul, Int.reduceToNat, Nat.reduceLeDiff, R_litmus_digit])
      | (with_reducible intro b; try simp only [push_cast, reduceIte, Nat.reduceEqDiff, reduceCtorEq, Nat.reduceAdd, Nat.reduceSub, Nat.reduceMul, Int.reduceToNat, Nat.reduceLeDiff])
      | with_reducible intro b
      | (refine And.intro (by omega) ?_)
      | (refine Exists.intro _ (And.intro (rd_M (by assumption)) ?_); try simp only [push_cast, reduceIte, Nat.reduceEqDiff, reduceCtorEq, Nat.reduceAdd, Nat.reduceSub, Nat.reduceMul, Int.reduceToNat, Nat.reduceLeDiff])
      | (refine Exists.intro _ (Exists.intro _ (Exists.intro _ (And.intro (rd_M (by assumption)) ?_))); try simp only [push_cast, reduceIte, Nat.reduceEqDiff, reduceCtorEq, Nat.reduceAdd, Nat.reduceSub, Nat.reduceMul, Int.reduceToNat, Nat.reduceLeDiff])
      | (refine Exists.intro _ (And.intro (by assumption) ?_); try simp only [push_cast, reduceIte, Nat.reduceEqDiff, reduceCtorEq, Nat.reduceAdd, Nat.reduceSub, Nat.reduceMul, Int.reduceToNat, Nat.reduceLeDiff])
      | (refine Exists.intro _ (Exists.intro _ (Exists.intro _ (And.intro (by assumption) ?_))); try simp only [push_cast, reduceIte, Nat.reduceEqDiff, reduceCtorEq, Nat.reduceAdd, Nat.reduceSub, Nat.reduceMul, Int.reduceToNat, Nat.reduceLeDiff])
      | (refine xr rfl (by simp only [List.length_cons, List.length_nil]; omega) ?_; try simp only [push_cast, reduceIte, Nat.reduceEqDiff, reduceCtorEq, Nat.reduceAdd, Nat.reduceSub, Nat.reduceMul, Int.reduceToNat, Nat.reduceLeDiff])
      | (refine xi rfl (by simp only [List.length_cons, List.length_nil]; omega) ?_; try simp only [push_cast, reduceIte, Nat.reduceEqDiff, reduceCtorEq, Nat.reduceAdd, Nat.reduceSub, Nat.reduceMul, Int.reduceToNat, Nat.reduceLeDiff])
      | (refine xs rfl (by simp only [List.length_cons, List.length_nil]; omega) ?_; try simp only [push_cast, reduceIte, Nat.reduceEqDiff, reduceCtorEq, Nat.reduceAdd, Nat.reduceSub, Nat.reduceMul, Int.reduceToNat, Nat.reduceLeDiff])
      | (refine xw ?_; simp only [push_cast, reduceIte, Nat.reduceEqDiff, reduceCtorEq, Nat.reduceAdd, Nat.reduceSub, Nat.reduceMul, Int.reduceToNat, Nat.reduceLeDiff])
      | (refine And.intro (PHeap.le_refl _) (And.intro (fun p hp => hp) ?_))
      | (refine And.intro (PHeap.le_refl _) (And.intro (fun p hp => List.mem_cons_of_mem _ hp) ?_))
      | (refine And.intro (PHeap.le_refl _) (And.intro (fun p hp => List.mem_cons_of_mem _ (List.mem_cons_of_mem _ hp)) ?_))
      | (refine And.intro (PHeap.le_refl _) (And.intro (mem_of_sub ?_) ?_); focus ((repeat' first | exact List.Sublist.refl _ | exact List.nil_sublist _ | exact List.sublist_append_left _ _ | refine List.Sublist.cons_cons _ ?_ | refine List.Sublist.append_left ?_ _ | refine List.sublist_append_of_sublist_right ?_ | refine List.Sublist.cons _ ?_); done); try simp only [push_cast, reduceIte, Nat.reduceEqDiff, reduceCtorEq, Nat.reduceAdd, Nat.reduceSub, Nat.reduceMul, Int.reduceToNat, Nat.reduceLeDiff])
      | (exfalso; simp at hc; done)
      | (exfalso; omega)
      | exact false
      | fail "stuck"
  all_goals simp_all [digitP]

def accessP (o : OpV) : Bool := decide (0 ≤ o.kind) && decide (o.kind ≤ 4)
theorem litmus_access_q (o : OpV) : ConQ Try.prog 62 #[vop o] M (vb (accessP o)) := by
  refine Con.enter R_litmus_access_ok (args := [vop o]) (by simp [R_litmus_access]) fun w0 => ?_
  simp only [R_litmus_access, argE]
  repeat' first
      | refine EV.seq ?_
      | refine EV.skip ?_
      | refine EV.block ?_
      | refine EV.inBlock ?_
      | (refine EV.reg ?_; (conv => (arg 2; whnf)); simp only [push_cast, reduceIte, Nat.reduceEqDiff, reduceCtorEq, Nat.reduceAdd, Nat.reduceSub, Nat.reduceMul, Int.reduceToNat, Nat.reduceLeDiff])
      | (refine EV.any _ (List.Sublist.refl _) ?_; (conv => (arg 2; whnf)); simp only [push_cast, reduceIte, Nat.reduceEqDiff, reduceCtorEq, Nat.reduceAdd, Nat.reduceSub, Nat.reduceMul, Int.reduceToNat, Nat.reduceLeDiff])
      | assumption
      | (refine condW.merge ?_ (fun hc K' hK => ?_) ?_; rotate_left)
      | (refine condQ.mk ?_ (fun hc => ?_) ?_; rotate_left; (try simp only [decide_eq_true_eq, decide_eq_false_iff_not, Bool.not_eq_true', Bool.not_eq_false', Bool.and_eq_true, Bool.or_eq_true, Bool.and_eq_false_iff, Bool.or_eq_false_iff] at hc))
      | (with_reducible rfl)
      | ((refine EV.cond rfl (fun h => ?_) (fun h => ?_) <;> try simp only [reduceCtorEq, reduceIte, if_true, if_false, Bool.not_eq_true', Bool.not_eq_false', decide_eq_true_eq, decide_eq_false_iff_not, Bool.and_eq_true, Bool.or_eq_true, Bool.and_eq_false_iff, Bool.or_eq_false_iff] at h) <;> try (exfalso; first | exact h True.intro | (exact h; done) | omega))
      | (refine EV.exit rfl ?_)
      | (refine EV.ret R_litmus_access_ok ?_; simp only [push_cast, reduceIte, Nat.reduceEqDiff, reduceCtorEq, Nat.reduceAdd, Nat.reduceSub, Nat.reduceMul, Int.reduceToNat, Nat.reduceLeDiff, R_litmus_access])
      | (with_reducible intro b; try simp only [push_cast, reduceIte, Nat.reduceEqDiff, reduceCtorEq, Nat.reduceAdd, Nat.reduceSub, Nat.reduceMul, Int.reduceToNat, Nat.reduceLeDiff])
      | with_reducible intro b
      | (refine And.intro (by omega) ?_)
      | (refine Exists.intro _ (And.intro (rd_M (by assumption)) ?_); try simp only [push_cast, reduceIte, Nat.reduceEqDiff, reduceCtorEq, Nat.reduceAdd, Nat.reduceSub, Nat.reduceMul, Int.reduceToNat, Nat.reduceLeDiff])
      | (refine Exists.intro _ (Exists.intro _ (Exists.intro _ (And.intro (rd_M (by assumption)) ?_))); try simp only [push_cast, reduceIte, Nat.reduceEqDiff, reduceCtorEq, Nat.reduceAdd, Nat.reduceSub, Nat.reduceMul, Int.reduceToNat, Nat.reduceLeDiff])
      | (refine Exists.intro _ (And.intro (by assumption) ?_); try simp only [push_cast, reduceIte, Nat.reduceEqDiff, reduceCtorEq, Nat.reduceAdd, Nat.reduceSub, Nat.reduceMul, Int.reduceToNat, Nat.reduceLeDiff])
      | (refine Exists.intro _ (Exists.intro _ (Exists.intro _ (And.intro (by assumption) ?_))); try simp only [push_cast, reduceIte, Nat.reduceEqDiff, reduceCtorEq, Nat.reduceAdd, Nat.reduceSub, Nat.reduceMul, Int.reduceToNat, Nat.reduceLeDiff])
      | (refine xr rfl (by simp only [List.length_cons, List.length_nil]; omega) ?_; try simp only [push_cast, reduceIte, Nat.reduceEqDiff, reduceCtorEq, Nat.reduceAdd, Nat.reduceSub, Nat.reduceMul, Int.reduceToNat, Nat.reduceLeDiff])
      | (refine xi rfl (by simp only [List.length_cons, List.length_nil]; omega) ?_; try simp only [push_cast, reduceIte, Nat.reduceEqDiff, reduceCtorEq, Nat.reduceAdd, Nat.reduceSub, Nat.reduceMul, Int.reduceToNat, Nat.reduceLeDiff])
      | (refine xs rfl (by simp only [List.length_cons, List.length_nil]; omega) ?_; try simp only [push_cast, reduceIte, Nat.reduceEqDiff, reduceCtorEq, Nat.reduceAdd, Nat.reduceSub, Nat.reduceMul, Int.reduceToNat, Nat.reduceLeDiff])
      | (refine xw ?_; simp only [push_cast, reduceIte, Nat.reduceEqDiff, reduceCtorEq, Nat.reduceAdd, Nat.reduceSub, Nat.reduceMul, Int.reduceToNat, Nat.reduceLeDiff])
      | (refine And.intro (PHeap.le_refl _) (And.intro (fun p hp => hp) ?_))
      | (refine And.intro (PHeap.le_refl _) (And.intro (fun p hp => List.mem_cons_of_mem _ hp) ?_))
      | (refine And.intro (PHeap.le_refl _) (And.intro (fun p hp => List.mem_cons_of_mem _ (List.mem_cons_of_mem _ hp)) ?_))
      | (refine And.intro (PHeap.le_refl _) (And.intro (mem_of_sub ?_) ?_); focus ((repeat' first | exact List.Sublist.refl _ | exact List.nil_sublist _ | exact List.sublist_append_left _ _ | refine List.Sublist.cons_cons _ ?_ | refine List.Sublist.append_left ?_ _ | refine List.sublist_append_of_sublist_right ?_ | refine List.Sublist.cons _ ?_); done); try simp only [push_cast, reduceIte, Nat.reduceEqDiff, reduceCtorEq, Nat.reduceAdd, Nat.reduceSub, Nat.reduceMul, Int.reduceToNat, Nat.reduceLeDiff])
      | (exfalso; simp at hc; done)
      | (exfalso; omega)
      | exact false
      | fail "stuck"
  all_goals simp_all [accessP]

def fitsP (o : OpV) : Bool :=
  decide (0 ≤ o.loc) && decide (o.loc < 3) &&
  (if o.kind = 0 then decide (o.v = 0) && decide (o.w = 0) else if o.kind = 1 then digitP o.v && decide (o.w = 0) else if o.kind = 2 then decide (-9 ≤ o.v) && decide (o.v ≤ 9) && decide (o.w = 0)
    else if o.kind = 3 ∨ o.kind = 4 then digitP o.v && digitP o.w else if o.kind = 5 then decide (o.loc = 0) && decide (o.v = 0) && decide (o.w = 0) else false)
theorem litmus_fits_q (o : OpV) : ConQ Try.prog 81 #[vop o] M (vb (fitsP o)) := by
  refine Con.enter R_litmus_fits_ok (args := [vop o]) (by simp [R_litmus_fits]) fun w0 => ?_
  simp only [R_litmus_fits, argE]
  repeat' first
      | refine EV.seq ?_
      | refine EV.skip ?_
      | refine EV.block ?_
      | refine EV.inBlock ?_
      | (refine EV.reg ?_; (conv => (arg 2; whnf)); simp only [push_cast, reduceIte, Nat.reduceEqDiff, reduceCtorEq, Nat.reduceAdd, Nat.reduceSub, Nat.reduceMul, Int.reduceToNat, Nat.reduceLeDiff])
      | (refine EV.any _ (List.Sublist.refl _) ?_; (conv => (arg 2; whnf)); simp only [push_cast, reduceIte, Nat.reduceEqDiff, reduceCtorEq, Nat.reduceAdd, Nat.reduceSub, Nat.reduceMul, Int.reduceToNat, Nat.reduceLeDiff])
      | (refine ConQ.call (litmus_digit_q _) ?_; try simp only [push_cast, reduceIte, Nat.reduceEqDiff, reduceCtorEq, Nat.reduceAdd, Nat.reduceSub, Nat.reduceMul, Int.reduceToNat, Nat.reduceLeDiff])
      | (refine Exists.intro _ (And.intro (litmus_digit_q _) ?_); try simp only [push_cast, reduceIte, Nat.reduceEqDiff, reduceCtorEq, Nat.reduceAdd, Nat.reduceSub, Nat.reduceMul, Int.reduceToNat, Nat.reduceLeDiff])
      | assumption
      | (refine condW.merge ?_ (fun hc K' hK => ?_) ?_; rotate_left)
      | (refine condQ.mk ?_ (fun hc => ?_) ?_; rotate_left; (try simp only [decide_eq_true_eq, decide_eq_false_iff_not, Bool.not_eq_true', Bool.not_eq_false', Bool.and_eq_true, Bool.or_eq_true, Bool.and_eq_false_iff, Bool.or_eq_false_iff] at hc))
      | (with_reducible rfl)
      | ((refine EV.cond rfl (fun h => ?_) (fun h => ?_) <;> try simp only [reduceCtorEq, reduceIte, if_true, if_false, Bool.not_eq_true', Bool.not_eq_false', decide_eq_true_eq, decide_eq_false_iff_not, Bool.and_eq_true, Bool.or_eq_true, Bool.and_eq_false_iff, Bool.or_eq_false_iff] at h) <;> try (exfalso; first | exact h True.intro | (exact h; done) | omega))
      | (refine EV.exit rfl ?_)
      | (refine EV.ret R_litmus_fits_ok ?_; simp only [push_cast, reduceIte, Nat.reduceEqDiff, reduceCtorEq, Nat.reduceAdd, Nat.reduceSub, Nat.reduceMul, Int.reduceToNat, Nat.reduceLeDiff, R_litmus_fits])
      | (with_reducible intro b; try simp only [push_cast, reduceIte, Nat.reduceEqDiff, reduceCtorEq, Nat.reduceAdd, Nat.reduceSub, Nat.reduceMul, Int.reduceToNat, Nat.reduceLeDiff])
      | with_reducible intro b
      | (refine And.intro (by omega) ?_)
      | (refine Exists.intro _ (And.intro (rd_M (by assumption)) ?_); try simp only [push_cast, reduceIte, Nat.reduceEqDiff, reduceCtorEq, Nat.reduceAdd, Nat.reduceSub, Nat.reduceMul, Int.reduceToNat, Nat.reduceLeDiff])
      | (refine Exists.intro _ (Exists.intro _ (Exists.intro _ (And.intro (rd_M (by assumption)) ?_))); try simp only [push_cast, reduceIte, Nat.reduceEqDiff, reduceCtorEq, Nat.reduceAdd, Nat.reduceSub, Nat.reduceMul, Int.reduceToNat, Nat.reduceLeDiff])
      | (refine Exists.intro _ (And.intro (by assumption) ?_); try simp only [push_cast, reduceIte, Nat.reduceEqDiff, reduceCtorEq, Nat.reduceAdd, Nat.reduceSub, Nat.reduceMul, Int.reduceToNat, Nat.reduceLeDiff])
      | (refine Exists.intro _ (Exists.intro _ (Exists.intro _ (And.intro (by assumption) ?_))); try simp only [push_cast, reduceIte, Nat.reduceEqDiff, reduceCtorEq, Nat.reduceAdd, Nat.reduceSub, Nat.reduceMul, Int.reduceToNat, Nat.reduceLeDiff])
      | (refine xr rfl (by simp only [List.length_cons, List.length_nil]; omega) ?_; try simp only [push_cast, reduceIte, Nat.reduceEqDiff, reduceCtorEq, Nat.reduceAdd, Nat.reduceSub, Nat.reduceMul, Int.reduceToNat, Nat.reduceLeDiff])
      | (refine xi rfl (by simp only [List.length_cons, List.length_nil]; omega) ?_; try simp only [push_cast, reduceIte, Nat.reduceEqDiff, reduceCtorEq, Nat.reduceAdd, Nat.reduceSub, Nat.reduceMul, Int.reduceToNat, Nat.reduceLeDiff])
      | (refine xs rfl (by simp only [List.length_cons, List.length_nil]; omega) ?_; try simp only [push_cast, reduceIte, Nat.reduceEqDiff, reduceCtorEq, Nat.reduceAdd, Nat.reduceSub, Nat.reduceMul, Int.reduceToNat, Nat.reduceLeDiff])
      | (refine xw ?_; simp only [push_cast, reduceIte, Nat.reduceEqDiff, reduceCtorEq, Nat.reduceAdd, Nat.reduceSub, Nat.reduceMul, Int.reduceToNat, Nat.reduceLeDiff])
      | (refine And.intro (PHeap.le_refl _) (And.intro (fun p hp => hp) ?_))
      | (refine And.intro (PHeap.le_refl _) (And.intro (fun p hp => List.mem_cons_of_mem _ hp) ?_))
      | (refine And.intro (PHeap.le_refl _) (And.intro (fun p hp => List.mem_cons_of_mem _ (List.mem_cons_of_mem _ hp)) ?_))
      | (refine And.intro (PHeap.le_refl _) (And.intro (mem_of_sub ?_) ?_); focus ((repeat' first | exact List.Sublist.refl _ | exact List.nil_sublist _ | exact List.sublist_append_left _ _ | refine List.Sublist.cons_cons _ ?_ | refine List.Sublist.append_left ?_ _ | refine List.sublist_append_of_sublist_right ?_ | refine List.Sublist.cons _ ?_); done); try simp only [push_cast, reduceIte, Nat.reduceEqDiff, reduceCtorEq, Nat.reduceAdd, Nat.reduceSub, Nat.reduceMul, Int.reduceToNat, Nat.reduceLeDiff])
      | (exfalso; simp at hc; done)
      | (exfalso; omega)
      | exact false
      | fail "stuck"
  all_goals (simp [fitsP]; grind)

end
end Go.EV

namespace Go.EV
open Go.Proofs

theorem Sl.ints {H : PHeap} {b off : Nat} {xs : List Int} (h : rd H b off xs.length (xs.map vi)) : ∀ i (hi : i < xs.length), rd H b (off + i) 1 [vi xs[i]] := by
  intro i hi
  have := h.part (i := i) (m := 1) (by omega)
  rwa [show ((xs.map vi).drop i).take 1 = [vi xs[i]] from by
    rw [List.drop_eq_getElem_cons (by simpa using hi)]; simp] at this

section
variable {M : PHeap}

def mx (xs : List Int) (i : Nat) : Int := (xs.take i).foldl (fun a b => if b > a then b else a) (xs.headD 0)

theorem mx_step {xs : List Int} {i : Nat} (hi : i < xs.length) : mx xs (i + 1) = if xs[i] > mx xs i then xs[i] else mx xs i := by
  simp only [mx, List.take_succ_eq_append_getElem hi, List.foldl_append, List.foldl_cons, List.foldl_nil]
  rfl

theorem slices_Max_q (H : PHeap) (b off c : Nat) (xs : List Int) (h0 : 0 < xs.length) (hl : xs.length < 1000000) (h : rd H b off xs.length (xs.map vi)) : ConQ Try.prog 88 #[.slice (some ⟨b, off, none⟩) xs.length c] H (vi (mx xs xs.length)) := by
  have hr := Sl.ints h
  have hr0 : rd H b off 1 [vi xs[0]] := hr 0 h0
  have hx0 : xs[0] = mx xs 1 := by cases xs with | nil => simp at h0 | cons x xs => simp [mx]
  refine Con.enter R_slices_Max_Lint_int_ok (args := [.slice (some ⟨b, off, none⟩) xs.length c]) (by simp [R_slices_Max_Lint_int]) fun w0 => ?_
  simp only [R_slices_Max_Lint_int, argE]
  repeat' first
      | refine EV.seq ?_
      | refine EV.skip ?_
      | refine EV.block ?_
      | refine EV.inBlock ?_
      | (refine EV.reg ?_; (conv => (arg 2; whnf)); simp only [push_cast, reduceIte, Nat.reduceEqDiff, reduceCtorEq, Nat.reduceAdd, Nat.reduceSub, Nat.reduceMul, Int.reduceToNat, Nat.reduceLeDiff])
      | (refine EV.any _ (List.Sublist.refl _) ?_; (conv => (arg 2; whnf)); simp only [push_cast, reduceIte, Nat.reduceEqDiff, reduceCtorEq, Nat.reduceAdd, Nat.reduceSub, Nat.reduceMul, Int.reduceToNat, Nat.reduceLeDiff])
      | assumption
      | (refine condW.merge ?_ (fun hc K' hK => ?_) ?_; rotate_left)
      | (refine condQ.mk ?_ (fun hc => ?_) ?_; rotate_left; (try simp only [decide_eq_true_eq, decide_eq_false_iff_not, Bool.not_eq_true', Bool.not_eq_false', Bool.and_eq_true, Bool.or_eq_true, Bool.and_eq_false_iff, Bool.or_eq_false_iff] at hc))
      | (with_reducible rfl)
      | ((refine EV.cond rfl (fun h => ?_) (fun h => ?_) <;> try simp only [reduceCtorEq, reduceIte, if_true, if_false, Bool.not_eq_true', Bool.not_eq_false', decide_eq_true_eq, decide_eq_false_iff_not, Bool.and_eq_true, Bool.or_eq_true, Bool.and_eq_false_iff, Bool.or_eq_false_iff] at h) <;> try (exfalso; first | exact h True.intro | (exact h; done) | omega))
      | (refine EV.exit rfl ?_)
      | (refine EV.ret R_slices_Max_Lint_int_ok ?_; simp only [push_cast, reduceIte, Nat.reduceEqDiff, reduceCtorEq, Nat.reduceAdd, Nat.reduceSub, Nat.reduceMul, Int.reduceToNat, Nat.reduceLeDiff, R_slices_Max_Lint_int])
      | (with_reducible intro b; try simp only [push_cast, reduceIte, Nat.reduceEqDiff, reduceCtorEq, Nat.reduceAdd, Nat.reduceSub, Nat.reduceMul, Int.reduceToNat, Nat.reduceLeDiff])
      | with_reducible intro b
      | (refine And.intro (by omega) ?_)
      | (refine Exists.intro _ (And.intro (rd_M (by assumption)) ?_); try simp only [push_cast, reduceIte, Nat.reduceEqDiff, reduceCtorEq, Nat.reduceAdd, Nat.reduceSub, Nat.reduceMul, Int.reduceToNat, Nat.reduceLeDiff])
      | (refine Exists.intro _ (Exists.intro _ (Exists.intro _ (And.intro (rd_M (by assumption)) ?_))); try simp only [push_cast, reduceIte, Nat.reduceEqDiff, reduceCtorEq, Nat.reduceAdd, Nat.reduceSub, Nat.reduceMul, Int.reduceToNat, Nat.reduceLeDiff])
      | (refine Exists.intro _ (And.intro (by assumption) ?_); try simp only [push_cast, reduceIte, Nat.reduceEqDiff, reduceCtorEq, Nat.reduceAdd, Nat.reduceSub, Nat.reduceMul, Int.reduceToNat, Nat.reduceLeDiff])
      | (refine Exists.intro _ (Exists.intro _ (Exists.intro _ (And.intro (by assumption) ?_))); try simp only [push_cast, reduceIte, Nat.reduceEqDiff, reduceCtorEq, Nat.reduceAdd, Nat.reduceSub, Nat.reduceMul, Int.reduceToNat, Nat.reduceLeDiff])
      | (refine xr rfl (by simp only [List.length_cons, List.length_nil]; omega) ?_; try simp only [push_cast, reduceIte, Nat.reduceEqDiff, reduceCtorEq, Nat.reduceAdd, Nat.reduceSub, Nat.reduceMul, Int.reduceToNat, Nat.reduceLeDiff])
      | (refine xi rfl (by simp only [List.length_cons, List.length_nil]; omega) ?_; try simp only [push_cast, reduceIte, Nat.reduceEqDiff, reduceCtorEq, Nat.reduceAdd, Nat.reduceSub, Nat.reduceMul, Int.reduceToNat, Nat.reduceLeDiff])
      | (refine xs rfl (by simp only [List.length_cons, List.length_nil]; omega) ?_; try simp only [push_cast, reduceIte, Nat.reduceEqDiff, reduceCtorEq, Nat.reduceAdd, Nat.reduceSub, Nat.reduceMul, Int.reduceToNat, Nat.reduceLeDiff])
      | (refine xw ?_; simp only [push_cast, reduceIte, Nat.reduceEqDiff, reduceCtorEq, Nat.reduceAdd, Nat.reduceSub, Nat.reduceMul, Int.reduceToNat, Nat.reduceLeDiff])
      | (refine And.intro (PHeap.le_refl _) (And.intro (fun p hp => hp) ?_))
      | (refine And.intro (PHeap.le_refl _) (And.intro (fun p hp => List.mem_cons_of_mem _ hp) ?_))
      | (refine And.intro (PHeap.le_refl _) (And.intro (fun p hp => List.mem_cons_of_mem _ (List.mem_cons_of_mem _ hp)) ?_))
      | (refine And.intro (PHeap.le_refl _) (And.intro (mem_of_sub ?_) ?_); focus ((repeat' first | exact List.Sublist.refl _ | exact List.nil_sublist _ | exact List.sublist_append_left _ _ | refine List.Sublist.cons_cons _ ?_ | refine List.Sublist.append_left ?_ _ | refine List.sublist_append_of_sublist_right ?_ | refine List.Sublist.cons _ ?_); done); try simp only [push_cast, reduceIte, Nat.reduceEqDiff, reduceCtorEq, Nat.reduceAdd, Nat.reduceSub, Nat.reduceMul, Int.reduceToNat, Nat.reduceLeDiff])
      | (exfalso; simp at hc; done)
      | (exfalso; omega)
      | exact false
      | fail "stuck"
  · refine EV.to (ρ' := [(0, .slice (some ⟨b, off, none⟩) xs.length c), (3, vi (mx xs 1)), (4, vi (1 : Nat))]) ?_ (by simp [get, hx0]) (List.Sublist.refl _)
    refine EV.loop (fun i : Nat => ([(0, .slice (some ⟨b, off, none⟩) xs.length c), (3, vi (mx xs i)), (4, vi i)], H, [])) (fun i => 1 ≤ i ∧ i ≤ xs.length) (fun i => xs.length - i) 1 ⟨by omega, by omega⟩ ?_
    intro i ⟨hi1, hi2⟩ ih
    dsimp only at ih ⊢
    repeat' first
        | refine EV.seq ?_
        | refine EV.skip ?_
        | refine EV.block ?_
        | refine EV.inBlock ?_
        | (refine EV.reg ?_; (conv => (arg 2; whnf)); simp only [push_cast, reduceIte, Nat.reduceEqDiff, reduceCtorEq, Nat.reduceAdd, Nat.reduceSub, Nat.reduceMul, Int.reduceToNat, Nat.reduceLeDiff])
        | (refine EV.any _ (List.Sublist.refl _) ?_; (conv => (arg 2; whnf)); simp only [push_cast, reduceIte, Nat.reduceEqDiff, reduceCtorEq, Nat.reduceAdd, Nat.reduceSub, Nat.reduceMul, Int.reduceToNat, Nat.reduceLeDiff])
        | assumption
        | (refine condW.merge ?_ (fun hc K' hK => ?_) ?_; rotate_left)
        | (refine condQ.mk ?_ (fun hc => ?_) ?_; rotate_left; (try simp only [decide_eq_true_eq, decide_eq_false_iff_not, Bool.not_eq_true', Bool.not_eq_false', Bool.and_eq_true, Bool.or_eq_true, Bool.and_eq_false_iff, Bool.or_eq_false_iff] at hc))
        | (with_reducible rfl)
        | ((refine EV.cond rfl (fun h => ?_) (fun h => ?_) <;> try simp only [reduceCtorEq, reduceIte, if_true, if_false, Bool.not_eq_true', Bool.not_eq_false', decide_eq_true_eq, decide_eq_false_iff_not, Bool.and_eq_true, Bool.or_eq_true, Bool.and_eq_false_iff, Bool.or_eq_false_iff] at h) <;> try (exfalso; first | exact h True.intro | (exact h; done) | omega))
        | (refine EV.exit rfl ?_)
        | (refine EV.ret R_slices_Max_Lint_int_ok ?_; simp only [push_cast, reduceIte, Nat.reduceEqDiff, reduceCtorEq, Nat.reduceAdd, Nat.reduceSub, Nat.reduceMul, Int.reduceToNat, Nat.reduceLeDiff, R_slices_Max_Lint_int])
        | (with_reducible intro b; try simp only [push_cast, reduceIte, Nat.reduceEqDiff, reduceCtorEq, Nat.reduceAdd, Nat.reduceSub, Nat.reduceMul, Int.reduceToNat, Nat.reduceLeDiff])
        | with_reducible intro b
        | (refine And.intro (by omega) ?_)
        | (refine Exists.intro _ (And.intro (rd_M (by assumption)) ?_); try simp only [push_cast, reduceIte, Nat.reduceEqDiff, reduceCtorEq, Nat.reduceAdd, Nat.reduceSub, Nat.reduceMul, Int.reduceToNat, Nat.reduceLeDiff])
        | (refine Exists.intro _ (Exists.intro _ (Exists.intro _ (And.intro (rd_M (by assumption)) ?_))); try simp only [push_cast, reduceIte, Nat.reduceEqDiff, reduceCtorEq, Nat.reduceAdd, Nat.reduceSub, Nat.reduceMul, Int.reduceToNat, Nat.reduceLeDiff])
        | (refine Exists.intro _ (And.intro (by assumption) ?_); try simp only [push_cast, reduceIte, Nat.reduceEqDiff, reduceCtorEq, Nat.reduceAdd, Nat.reduceSub, Nat.reduceMul, Int.reduceToNat, Nat.reduceLeDiff])
        | (refine Exists.intro _ (Exists.intro _ (Exists.intro _ (And.intro (by assumption) ?_))); try simp only [push_cast, reduceIte, Nat.reduceEqDiff, reduceCtorEq, Nat.reduceAdd, Nat.reduceSub, Nat.reduceMul, Int.reduceToNat, Nat.reduceLeDiff])
        | (refine xr rfl (by simp only [List.length_cons, List.length_nil]; omega) ?_; try simp only [push_cast, reduceIte, Nat.reduceEqDiff, reduceCtorEq, Nat.reduceAdd, Nat.reduceSub, Nat.reduceMul, Int.reduceToNat, Nat.reduceLeDiff])
        | (refine xi rfl (by simp only [List.length_cons, List.length_nil]; omega) ?_; try simp only [push_cast, reduceIte, Nat.reduceEqDiff, reduceCtorEq, Nat.reduceAdd, Nat.reduceSub, Nat.reduceMul, Int.reduceToNat, Nat.reduceLeDiff])
        | (refine xs rfl (by simp only [List.length_cons, List.length_nil]; omega) ?_; try simp only [push_cast, reduceIte, Nat.reduceEqDiff, reduceCtorEq, Nat.reduceAdd, Nat.reduceSub, Nat.reduceMul, Int.reduceToNat, Nat.reduceLeDiff])
        | (refine xw ?_; simp only [push_cast, reduceIte, Nat.reduceEqDiff, reduceCtorEq, Nat.reduceAdd, Nat.reduceSub, Nat.reduceMul, Int.reduceToNat, Nat.reduceLeDiff])
        | (refine And.intro (PHeap.le_refl _) (And.intro (fun p hp => hp) ?_))
        | (refine And.intro (PHeap.le_refl _) (And.intro (fun p hp => List.mem_cons_of_mem _ hp) ?_))
        | (refine And.intro (PHeap.le_refl _) (And.intro (fun p hp => List.mem_cons_of_mem _ (List.mem_cons_of_mem _ hp)) ?_))
        | (refine And.intro (PHeap.le_refl _) (And.intro (mem_of_sub ?_) ?_); focus ((repeat' first | exact List.Sublist.refl _ | exact List.nil_sublist _ | exact List.sublist_append_left _ _ | refine List.Sublist.cons_cons _ ?_ | refine List.Sublist.append_left ?_ _ | refine List.sublist_append_of_sublist_right ?_ | refine List.Sublist.cons _ ?_); done); try simp only [push_cast, reduceIte, Nat.reduceEqDiff, reduceCtorEq, Nat.reduceAdd, Nat.reduceSub, Nat.reduceMul, Int.reduceToNat, Nat.reduceLeDiff])
        | (exfalso; simp at hc; done)
        | (exfalso; omega)
        | exact false
        | fail "stuck"
    · have hi : i < xs.length := by omega
      refine ⟨_, rd_M (hr i hi), ?_⟩
      repeat' first
          | refine EV.seq ?_
          | refine EV.skip ?_
          | refine EV.block ?_
          | refine EV.inBlock ?_
          | (refine EV.reg ?_; (conv => (arg 2; whnf)); simp only [push_cast, reduceIte, Nat.reduceEqDiff, reduceCtorEq, Nat.reduceAdd, Nat.reduceSub, Nat.reduceMul, Int.reduceToNat, Nat.reduceLeDiff])
          | (refine EV.any _ (List.Sublist.refl _) ?_; (conv => (arg 2; whnf)); simp only [push_cast, reduceIte, Nat.reduceEqDiff, reduceCtorEq, Nat.reduceAdd, Nat.reduceSub, Nat.reduceMul, Int.reduceToNat, Nat.reduceLeDiff])
          | assumption
          | (refine condW.merge ?_ (fun hc K' hK => ?_) ?_; rotate_left)
          | (refine condQ.mk ?_ (fun hc => ?_) ?_; rotate_left; (try simp only [decide_eq_true_eq, decide_eq_false_iff_not, Bool.not_eq_true', Bool.not_eq_false', Bool.and_eq_true, Bool.or_eq_true, Bool.and_eq_false_iff, Bool.or_eq_false_iff] at hc))
          | (with_reducible rfl)
          | ((refine EV.cond rfl (fun h => ?_) (fun h => ?_) <;> try simp only [reduceCtorEq, reduceIte, if_true, if_false, Bool.not_eq_true', Bool.not_eq_false', decide_eq_true_eq, decide_eq_false_iff_not, Bool.and_eq_true, Bool.or_eq_true, Bool.and_eq_false_iff, Bool.or_eq_false_iff] at h) <;> try (exfalso; first | exact h True.intro | (exact h; done) | omega))
          | (refine EV.exit rfl ?_)
          | (refine EV.ret R_slices_Max_Lint_int_ok ?_; simp only [push_cast, reduceIte, Nat.reduceEqDiff, reduceCtorEq, Nat.reduceAdd, Nat.reduceSub, Nat.reduceMul, Int.reduceToNat, Nat.reduceLeDiff, R_slices_Max_Lint_int])
          | (with_reducible intro b; try simp only [push_cast, reduceIte, Nat.reduceEqDiff, reduceCtorEq, Nat.reduceAdd, Nat.reduceSub, Nat.reduceMul, Int.reduceToNat, Nat.reduceLeDiff])
          | with_reducible intro b
          | (refine And.intro (by omega) ?_)
          | (refine Exists.intro _ (And.intro (rd_M (by assumption)) ?_); try simp only [push_cast, reduceIte, Nat.reduceEqDiff, reduceCtorEq, Nat.reduceAdd, Nat.reduceSub, Nat.reduceMul, Int.reduceToNat, Nat.reduceLeDiff])
          | (refine Exists.intro _ (Exists.intro _ (Exists.intro _ (And.intro (rd_M (by assumption)) ?_))); try simp only [push_cast, reduceIte, Nat.reduceEqDiff, reduceCtorEq, Nat.reduceAdd, Nat.reduceSub, Nat.reduceMul, Int.reduceToNat, Nat.reduceLeDiff])
          | (refine Exists.intro _ (And.intro (by assumption) ?_); try simp only [push_cast, reduceIte, Nat.reduceEqDiff, reduceCtorEq, Nat.reduceAdd, Nat.reduceSub, Nat.reduceMul, Int.reduceToNat, Nat.reduceLeDiff])
          | (refine Exists.intro _ (Exists.intro _ (Exists.intro _ (And.intro (by assumption) ?_))); try simp only [push_cast, reduceIte, Nat.reduceEqDiff, reduceCtorEq, Nat.reduceAdd, Nat.reduceSub, Nat.reduceMul, Int.reduceToNat, Nat.reduceLeDiff])
          | (refine xr rfl (by simp only [List.length_cons, List.length_nil]; omega) ?_; try simp only [push_cast, reduceIte, Nat.reduceEqDiff, reduceCtorEq, Nat.reduceAdd, Nat.reduceSub, Nat.reduceMul, Int.reduceToNat, Nat.reduceLeDiff])
          | (refine xi rfl (by simp only [List.length_cons, List.length_nil]; omega) ?_; try simp only [push_cast, reduceIte, Nat.reduceEqDiff, reduceCtorEq, Nat.reduceAdd, Nat.reduceSub, Nat.reduceMul, Int.reduceToNat, Nat.reduceLeDiff])
          | (refine xs rfl (by simp only [List.length_cons, List.length_nil]; omega) ?_; try simp only [push_cast, reduceIte, Nat.reduceEqDiff, reduceCtorEq, Nat.reduceAdd, Nat.reduceSub, Nat.reduceMul, Int.reduceToNat, Nat.reduceLeDiff])
          | (refine xw ?_; simp only [push_cast, reduceIte, Nat.reduceEqDiff, reduceCtorEq, Nat.reduceAdd, Nat.reduceSub, Nat.reduceMul, Int.reduceToNat, Nat.reduceLeDiff])
          | (refine And.intro (PHeap.le_refl _) (And.intro (fun p hp => hp) ?_))
          | (refine And.intro (PHeap.le_refl _) (And.intro (fun p hp => List.mem_cons_of_mem _ hp) ?_))
          | (refine And.intro (PHeap.le_refl _) (And.intro (fun p hp => List.mem_cons_of_mem _ (List.mem_cons_of_mem _ hp)) ?_))
          | (refine And.intro (PHeap.le_refl _) (And.intro (mem_of_sub ?_) ?_); focus ((repeat' first | exact List.Sublist.refl _ | exact List.nil_sublist _ | exact List.sublist_append_left _ _ | refine List.Sublist.cons_cons _ ?_ | refine List.Sublist.append_left ?_ _ | refine List.sublist_append_of_sublist_right ?_ | refine List.Sublist.cons _ ?_); done); try simp only [push_cast, reduceIte, Nat.reduceEqDiff, reduceCtorEq, Nat.reduceAdd, Nat.reduceSub, Nat.reduceMul, Int.reduceToNat, Nat.reduceLeDiff])
          | (exfalso; simp at hc; done)
          | (exfalso; omega)
          | exact false
          | fail "stuck"
      refine EV.to (ih (i + 1) ⟨by omega, by omega⟩ (by omega)) ?_ (List.Sublist.refl _)
      repeat' first
        | (refine List.forall_mem_cons.2 (And.intro ?_ ?_))
        | (intro _ hnil; cases hnil; done)
        | rfl
        | (refine env_w64 rfl (by first | rfl | (push_cast; first | rfl | omega)) (by omega) (by omega); done)
        | (simp (disch := omega) only [get_cons, get_nil, reduceIte, Nat.reduceEqDiff, Option.some.injEq, Value.int.injEq, w64, Int.natCast_add, Int.natCast_one, Int.cast_ofNat_Int, Int.natCast_zero, mx_step hi]; done)
    · rw [show i = xs.length from by omega]


/-- What limits counts. -/
structure LimS where
  acc : Int
  fen : Int
  w0 : Int
  w1 : Int
  w2 : Int

def limStep (s : LimS) (o : OpV) : LimS :=
  if o.kind = 5 then { s with fen := s.fen + 1 }
  else if accessP o = true then
    { acc := s.acc + 1, fen := if o.ord = 4 then s.fen + 2 else s.fen,
      w0 := if o.kind ≠ 0 ∧ o.loc = 0 then s.w0 + 1 else s.w0, w1 := if o.kind ≠ 0 ∧ o.loc = 1 then s.w1 + 1 else s.w1, w2 := if o.kind ≠ 0 ∧ o.loc = 2 then s.w2 + 1 else s.w2 }
  else s

def limOf (l : List OpV) : LimS := l.foldl limStep ⟨0, 0, 0, 0, 0⟩

def limitsP (ts : List (List OpV)) : Bool :=
  decide (ts.length ≤ 3) && decide ((limOf ts.flatten).acc ≤ 6) && decide ((limOf ts.flatten).fen ≤ 8) && decide ((limOf ts.flatten).w0 ≤ 4) && decide ((limOf ts.flatten).w1 ≤ 4) && decide ((limOf ts.flatten).w2 ≤ 4)

theorem lim_bound (l : List OpV) : 0 ≤ (limOf l).acc ∧ (limOf l).acc ≤ l.length ∧ 0 ≤ (limOf l).fen ∧ (limOf l).fen ≤ 2 * l.length ∧ 0 ≤ (limOf l).w0 ∧ (limOf l).w0 ≤ l.length ∧ 0 ≤ (limOf l).w1 ∧ (limOf l).w1 ≤ l.length ∧ 0 ≤ (limOf l).w2 ∧ (limOf l).w2 ≤ l.length := by
  have key : ∀ (l : List OpV) (s : LimS), s.acc ≤ (l.foldl limStep s).acc ∧ (l.foldl limStep s).acc ≤ s.acc + l.length ∧ s.fen ≤ (l.foldl limStep s).fen ∧ (l.foldl limStep s).fen ≤ s.fen + 2 * l.length ∧ s.w0 ≤ (l.foldl limStep s).w0 ∧ (l.foldl limStep s).w0 ≤ s.w0 + l.length ∧ s.w1 ≤ (l.foldl limStep s).w1 ∧ (l.foldl limStep s).w1 ≤ s.w1 + l.length ∧ s.w2 ≤ (l.foldl limStep s).w2 ∧ (l.foldl limStep s).w2 ≤ s.w2 + l.length := by
    intro l
    induction l with
    | nil => intro s; simp
    | cons o l ih =>
      intro s
      have := ih (limStep s o)
      simp only [List.foldl_cons, List.length_cons]
      have h2 : s.acc ≤ (limStep s o).acc ∧ (limStep s o).acc ≤ s.acc + 1 ∧ s.fen ≤ (limStep s o).fen ∧ (limStep s o).fen ≤ s.fen + 2 ∧ s.w0 ≤ (limStep s o).w0 ∧ (limStep s o).w0 ≤ s.w0 + 1 ∧ s.w1 ≤ (limStep s o).w1 ∧ (limStep s o).w1 ≤ s.w1 + 1 ∧ s.w2 ≤ (limStep s o).w2 ∧ (limStep s o).w2 ≤ s.w2 + 1 := by
        unfold limStep
        split
        · simp; omega
        · split
          · simp only []
            refine ⟨?_, ?_, ?_, ?_, ?_, ?_, ?_, ?_, ?_, ?_⟩ <;> (repeat' split) <;> omega
          · simp; omega
      omega
  have := key l ⟨0, 0, 0, 0, 0⟩
  dsimp only at this
  unfold limOf
  omega

theorem flat_take {α : Type} {ts : List (List α)} {i : Nat} (hi : i < ts.length) : (ts.take (i + 1)).flatten = (ts.take i).flatten ++ ts[i] := by
  rw [List.take_succ_eq_append_getElem hi, List.flatten_append]; simp

theorem flat_take_le {α : Type} (ts : List (List α)) (i : Nat) : (ts.take i).flatten.length ≤ ts.flatten.length := by
  have : ts.flatten = (ts.take i).flatten ++ (ts.drop i).flatten := by rw [← List.flatten_append, List.take_append_drop]
  rw [this]; simp

set_option maxHeartbeats 4000000 in
theorem litmus_limits_q (ts : List (List OpV)) (s : Value) (hs : SlSl M 5 encOp s ts) (hb : ts.flatten.length < 1000000) (hb' : ts.length < 1000000) : ConQ Try.prog 79 #[.agg #[s]] M (vb (limitsP ts)) := by
  obtain ⟨a, c, vs, rfl, hl, hrd, hk⟩ := hs
  refine Con.enter R_litmus_limits_ok (args := [.agg #[.slice a ts.length c]]) (by simp [R_litmus_limits]) fun w0 => ?_
  simp only [R_litmus_limits, argE]
  repeat' first
      | refine EV.seq ?_
      | refine EV.skip ?_
      | refine EV.block ?_
      | refine EV.inBlock ?_
      | (refine EV.reg ?_; (conv => (arg 2; whnf)); simp only [push_cast, reduceIte, Nat.reduceEqDiff, reduceCtorEq, Nat.reduceAdd, Nat.reduceSub, Nat.reduceMul, Int.reduceToNat, Nat.reduceLeDiff])
      | (refine EV.any _ (List.Sublist.refl _) ?_; (conv => (arg 2; whnf)); simp only [push_cast, reduceIte, Nat.reduceEqDiff, reduceCtorEq, Nat.reduceAdd, Nat.reduceSub, Nat.reduceMul, Int.reduceToNat, Nat.reduceLeDiff])
      | assumption
      | (refine condW.merge ?_ (fun hc K' hK => ?_) ?_; rotate_left)
      | (refine condQ.mk ?_ (fun hc => ?_) ?_; rotate_left; (try simp only [decide_eq_true_eq, decide_eq_false_iff_not, Bool.not_eq_true', Bool.not_eq_false', Bool.and_eq_true, Bool.or_eq_true, Bool.and_eq_false_iff, Bool.or_eq_false_iff] at hc))
      | (with_reducible rfl)
      | ((refine EV.cond rfl (fun h => ?_) (fun h => ?_) <;> try simp only [reduceCtorEq, reduceIte, if_true, if_false, Bool.not_eq_true', Bool.not_eq_false', decide_eq_true_eq, decide_eq_false_iff_not, Bool.and_eq_true, Bool.or_eq_true, Bool.and_eq_false_iff, Bool.or_eq_false_iff] at h) <;> try (exfalso; first | exact h True.intro | (exact h; done) | omega))
      | (refine EV.exit rfl ?_)
      | (refine EV.ret R_litmus_limits_ok ?_; simp only [push_cast, reduceIte, Nat.reduceEqDiff, reduceCtorEq, Nat.reduceAdd, Nat.reduceSub, Nat.reduceMul, Int.reduceToNat, Nat.reduceLeDiff, R_litmus_limits])
      | (with_reducible intro b; try simp only [push_cast, reduceIte, Nat.reduceEqDiff, reduceCtorEq, Nat.reduceAdd, Nat.reduceSub, Nat.reduceMul, Int.reduceToNat, Nat.reduceLeDiff])
      | with_reducible intro b
      | (refine And.intro (by omega) ?_)
      | (refine Exists.intro _ (And.intro (rd_M (by assumption)) ?_); try simp only [push_cast, reduceIte, Nat.reduceEqDiff, reduceCtorEq, Nat.reduceAdd, Nat.reduceSub, Nat.reduceMul, Int.reduceToNat, Nat.reduceLeDiff])
      | (refine Exists.intro _ (Exists.intro _ (Exists.intro _ (And.intro (rd_M (by assumption)) ?_))); try simp only [push_cast, reduceIte, Nat.reduceEqDiff, reduceCtorEq, Nat.reduceAdd, Nat.reduceSub, Nat.reduceMul, Int.reduceToNat, Nat.reduceLeDiff])
      | (refine Exists.intro _ (And.intro (by assumption) ?_); try simp only [push_cast, reduceIte, Nat.reduceEqDiff, reduceCtorEq, Nat.reduceAdd, Nat.reduceSub, Nat.reduceMul, Int.reduceToNat, Nat.reduceLeDiff])
      | (refine Exists.intro _ (Exists.intro _ (Exists.intro _ (And.intro (by assumption) ?_))); try simp only [push_cast, reduceIte, Nat.reduceEqDiff, reduceCtorEq, Nat.reduceAdd, Nat.reduceSub, Nat.reduceMul, Int.reduceToNat, Nat.reduceLeDiff])
      | (refine xr rfl (by simp only [List.length_cons, List.length_nil]; omega) ?_; try simp only [push_cast, reduceIte, Nat.reduceEqDiff, reduceCtorEq, Nat.reduceAdd, Nat.reduceSub, Nat.reduceMul, Int.reduceToNat, Nat.reduceLeDiff])
      | (refine xi rfl (by simp only [List.length_cons, List.length_nil]; omega) ?_; try simp only [push_cast, reduceIte, Nat.reduceEqDiff, reduceCtorEq, Nat.reduceAdd, Nat.reduceSub, Nat.reduceMul, Int.reduceToNat, Nat.reduceLeDiff])
      | (refine xs rfl (by simp only [List.length_cons, List.length_nil]; omega) ?_; try simp only [push_cast, reduceIte, Nat.reduceEqDiff, reduceCtorEq, Nat.reduceAdd, Nat.reduceSub, Nat.reduceMul, Int.reduceToNat, Nat.reduceLeDiff])
      | (refine xw ?_; simp only [push_cast, reduceIte, Nat.reduceEqDiff, reduceCtorEq, Nat.reduceAdd, Nat.reduceSub, Nat.reduceMul, Int.reduceToNat, Nat.reduceLeDiff])
      | (refine And.intro (PHeap.le_refl _) (And.intro (fun p hp => hp) ?_))
      | (refine And.intro (PHeap.le_refl _) (And.intro (fun p hp => List.mem_cons_of_mem _ hp) ?_))
      | (refine And.intro (PHeap.le_refl _) (And.intro (fun p hp => List.mem_cons_of_mem _ (List.mem_cons_of_mem _ hp)) ?_))
      | (refine And.intro (PHeap.le_refl _) (And.intro (mem_of_sub ?_) ?_); focus ((repeat' first | exact List.Sublist.refl _ | exact List.nil_sublist _ | exact List.sublist_append_left _ _ | refine List.Sublist.cons_cons _ ?_ | refine List.Sublist.append_left ?_ _ | refine List.sublist_append_of_sublist_right ?_ | refine List.Sublist.cons _ ?_); done); try simp only [push_cast, reduceIte, Nat.reduceEqDiff, reduceCtorEq, Nat.reduceAdd, Nat.reduceSub, Nat.reduceMul, Int.reduceToNat, Nat.reduceLeDiff])
      | (exfalso; simp at hc; done)
      | (exfalso; omega)
      | exact false
      | fail "stuck"
  · simp [limitsP]; omega
  rename_i b1
  have hlen3 : ts.length ≤ 3 := by omega
  refine EV.to (ρ' := [(3, vi (limOf (ts.take 0).flatten).acc), (4, vi (limOf (ts.take 0).flatten).fen), (5, pv b 0), (15, .slice a ts.length c), (16, vi ts.length), (17, vi (0 : Nat))])
    (G' := [(b, Cl 58 [vi (limOf (ts.take 0).flatten).w0, vi (limOf (ts.take 0).flatten).w1, vi (limOf (ts.take 0).flatten).w2])]) ?_ (by simp [get, limOf]) (by simp [limOf])
  refine EV.loop (fun i : Nat => ([(3, vi (limOf (ts.take i).flatten).acc), (4, vi (limOf (ts.take i).flatten).fen), (5, pv b 0), (15, .slice a ts.length c), (16, vi ts.length), (17, vi i)], M,
    [(b, Cl 58 [vi (limOf (ts.take i).flatten).w0, vi (limOf (ts.take i).flatten).w1, vi (limOf (ts.take i).flatten).w2])])) (fun i => i ≤ ts.length) (fun i => ts.length - i) 0 (Nat.zero_le _) ?_
  intro i hi ih
  dsimp only at ih ⊢
  repeat' first
      | refine EV.seq ?_
      | refine EV.skip ?_
      | refine EV.block ?_
      | refine EV.inBlock ?_
      | (refine EV.reg ?_; (conv => (arg 2; whnf)); simp only [push_cast, reduceIte, Nat.reduceEqDiff, reduceCtorEq, Nat.reduceAdd, Nat.reduceSub, Nat.reduceMul, Int.reduceToNat, Nat.reduceLeDiff])
      | (refine EV.any _ (List.Sublist.refl _) ?_; (conv => (arg 2; whnf)); simp only [push_cast, reduceIte, Nat.reduceEqDiff, reduceCtorEq, Nat.reduceAdd, Nat.reduceSub, Nat.reduceMul, Int.reduceToNat, Nat.reduceLeDiff])
      | (refine ConQ.call (slices_Max_q _ _ 0 3 [_, _, _] (by simp) (by simp) (rd_own' 0 rfl rfl (by simp))) ?_; try simp only [push_cast, reduceIte, Nat.reduceEqDiff, reduceCtorEq, Nat.reduceAdd, Nat.reduceSub, Nat.reduceMul, Int.reduceToNat, Nat.reduceLeDiff])
      | (refine Exists.intro _ (And.intro (slices_Max_q _ _ 0 3 [_, _, _] (by simp) (by simp) (rd_own' 0 rfl rfl (by simp))) ?_); try simp only [push_cast, reduceIte, Nat.reduceEqDiff, reduceCtorEq, Nat.reduceAdd, Nat.reduceSub, Nat.reduceMul, Int.reduceToNat, Nat.reduceLeDiff])
      | assumption
      | (refine condW.merge ?_ (fun hc K' hK => ?_) ?_; rotate_left)
      | (refine condQ.mk ?_ (fun hc => ?_) ?_; rotate_left; (try simp only [decide_eq_true_eq, decide_eq_false_iff_not, Bool.not_eq_true', Bool.not_eq_false', Bool.and_eq_true, Bool.or_eq_true, Bool.and_eq_false_iff, Bool.or_eq_false_iff] at hc))
      | (with_reducible rfl)
      | ((refine EV.cond rfl (fun h => ?_) (fun h => ?_) <;> try simp only [reduceCtorEq, reduceIte, if_true, if_false, Bool.not_eq_true', Bool.not_eq_false', decide_eq_true_eq, decide_eq_false_iff_not, Bool.and_eq_true, Bool.or_eq_true, Bool.and_eq_false_iff, Bool.or_eq_false_iff] at h) <;> try (exfalso; first | exact h True.intro | (exact h; done) | omega))
      | (refine EV.exit rfl ?_)
      | (refine EV.ret R_litmus_limits_ok ?_; simp only [push_cast, reduceIte, Nat.reduceEqDiff, reduceCtorEq, Nat.reduceAdd, Nat.reduceSub, Nat.reduceMul, Int.reduceToNat, Nat.reduceLeDiff, R_litmus_limits])
      | (with_reducible intro b; try simp only [push_cast, reduceIte, Nat.reduceEqDiff, reduceCtorEq, Nat.reduceAdd, Nat.reduceSub, Nat.reduceMul, Int.reduceToNat, Nat.reduceLeDiff])
      | with_reducible intro b
      | (refine And.intro (by omega) ?_)
      | (refine Exists.intro _ (And.intro (rd_M (by assumption)) ?_); try simp only [push_cast, reduceIte, Nat.reduceEqDiff, reduceCtorEq, Nat.reduceAdd, Nat.reduceSub, Nat.reduceMul, Int.reduceToNat, Nat.reduceLeDiff])
      | (refine Exists.intro _ (Exists.intro _ (Exists.intro _ (And.intro (rd_M (by assumption)) ?_))); try simp only [push_cast, reduceIte, Nat.reduceEqDiff, reduceCtorEq, Nat.reduceAdd, Nat.reduceSub, Nat.reduceMul, Int.reduceToNat, Nat.reduceLeDiff])
      | (refine Exists.intro _ (And.intro (by assumption) ?_); try simp only [push_cast, reduceIte, Nat.reduceEqDiff, reduceCtorEq, Nat.reduceAdd, Nat.reduceSub, Nat.reduceMul, Int.reduceToNat, Nat.reduceLeDiff])
      | (refine Exists.intro _ (Exists.intro _ (Exists.intro _ (And.intro (by assumption) ?_))); try simp only [push_cast, reduceIte, Nat.reduceEqDiff, reduceCtorEq, Nat.reduceAdd, Nat.reduceSub, Nat.reduceMul, Int.reduceToNat, Nat.reduceLeDiff])
      | (refine xr rfl (by simp only [List.length_cons, List.length_nil]; omega) ?_; try simp only [push_cast, reduceIte, Nat.reduceEqDiff, reduceCtorEq, Nat.reduceAdd, Nat.reduceSub, Nat.reduceMul, Int.reduceToNat, Nat.reduceLeDiff])
      | (refine xi rfl (by simp only [List.length_cons, List.length_nil]; omega) ?_; try simp only [push_cast, reduceIte, Nat.reduceEqDiff, reduceCtorEq, Nat.reduceAdd, Nat.reduceSub, Nat.reduceMul, Int.reduceToNat, Nat.reduceLeDiff])
      | (refine xs rfl (by simp only [List.length_cons, List.length_nil]; omega) ?_; try simp only [push_cast, reduceIte, Nat.reduceEqDiff, reduceCtorEq, Nat.reduceAdd, Nat.reduceSub, Nat.reduceMul, Int.reduceToNat, Nat.reduceLeDiff])
      | (refine xw ?_; simp only [push_cast, reduceIte, Nat.reduceEqDiff, reduceCtorEq, Nat.reduceAdd, Nat.reduceSub, Nat.reduceMul, Int.reduceToNat, Nat.reduceLeDiff])
      | (refine And.intro (PHeap.le_refl _) (And.intro (fun p hp => hp) ?_))
      | (refine And.intro (PHeap.le_refl _) (And.intro (fun p hp => List.mem_cons_of_mem _ hp) ?_))
      | (refine And.intro (PHeap.le_refl _) (And.intro (fun p hp => List.mem_cons_of_mem _ (List.mem_cons_of_mem _ hp)) ?_))
      | (refine And.intro (PHeap.le_refl _) (And.intro (mem_of_sub ?_) ?_); focus ((repeat' first | exact List.Sublist.refl _ | exact List.nil_sublist _ | exact List.sublist_append_left _ _ | refine List.Sublist.cons_cons _ ?_ | refine List.Sublist.append_left ?_ _ | refine List.sublist_append_of_sublist_right ?_ | refine List.Sublist.cons _ ?_); done); try simp only [push_cast, reduceIte, Nat.reduceEqDiff, reduceCtorEq, Nat.reduceAdd, Nat.reduceSub, Nat.reduceMul, Int.reduceToNat, Nat.reduceLeDiff])
      | (exfalso; simp at hc; done)
      | (exfalso; omega)
      | exact false
      | fail "stuck"
  · have hi' : i < ts.length := by omega
    obtain ⟨pb, po, rfl, hat⟩ := SlSl.at hrd hl hk (by omega)
    obtain ⟨a', c', hr1, hr2⟩ := hat i hi'
    simp only [Nat.mul_one] at hr1
    repeat' first
        | refine EV.seq ?_
        | refine EV.skip ?_
        | refine EV.block ?_
        | refine EV.inBlock ?_
        | (refine EV.reg ?_; (conv => (arg 2; whnf)); simp only [push_cast, reduceIte, Nat.reduceEqDiff, reduceCtorEq, Nat.reduceAdd, Nat.reduceSub, Nat.reduceMul, Int.reduceToNat, Nat.reduceLeDiff])
        | (refine EV.any _ (List.Sublist.refl _) ?_; (conv => (arg 2; whnf)); simp only [push_cast, reduceIte, Nat.reduceEqDiff, reduceCtorEq, Nat.reduceAdd, Nat.reduceSub, Nat.reduceMul, Int.reduceToNat, Nat.reduceLeDiff])
        | assumption
        | (refine condW.merge ?_ (fun hc K' hK => ?_) ?_; rotate_left)
        | (refine condQ.mk ?_ (fun hc => ?_) ?_; rotate_left; (try simp only [decide_eq_true_eq, decide_eq_false_iff_not, Bool.not_eq_true', Bool.not_eq_false', Bool.and_eq_true, Bool.or_eq_true, Bool.and_eq_false_iff, Bool.or_eq_false_iff] at hc))
        | (with_reducible rfl)
        | ((refine EV.cond rfl (fun h => ?_) (fun h => ?_) <;> try simp only [reduceCtorEq, reduceIte, if_true, if_false, Bool.not_eq_true', Bool.not_eq_false', decide_eq_true_eq, decide_eq_false_iff_not, Bool.and_eq_true, Bool.or_eq_true, Bool.and_eq_false_iff, Bool.or_eq_false_iff] at h) <;> try (exfalso; first | exact h True.intro | (exact h; done) | omega))
        | (refine EV.exit rfl ?_)
        | (refine EV.ret R_litmus_limits_ok ?_; simp only [push_cast, reduceIte, Nat.reduceEqDiff, reduceCtorEq, Nat.reduceAdd, Nat.reduceSub, Nat.reduceMul, Int.reduceToNat, Nat.reduceLeDiff, R_litmus_limits])
        | (with_reducible intro b; try simp only [push_cast, reduceIte, Nat.reduceEqDiff, reduceCtorEq, Nat.reduceAdd, Nat.reduceSub, Nat.reduceMul, Int.reduceToNat, Nat.reduceLeDiff])
        | with_reducible intro b
        | (refine And.intro (by omega) ?_)
        | (refine Exists.intro _ (And.intro (rd_M (by assumption)) ?_); try simp only [push_cast, reduceIte, Nat.reduceEqDiff, reduceCtorEq, Nat.reduceAdd, Nat.reduceSub, Nat.reduceMul, Int.reduceToNat, Nat.reduceLeDiff])
        | (refine Exists.intro _ (Exists.intro _ (Exists.intro _ (And.intro (rd_M (by assumption)) ?_))); try simp only [push_cast, reduceIte, Nat.reduceEqDiff, reduceCtorEq, Nat.reduceAdd, Nat.reduceSub, Nat.reduceMul, Int.reduceToNat, Nat.reduceLeDiff])
        | (refine Exists.intro _ (And.intro (by assumption) ?_); try simp only [push_cast, reduceIte, Nat.reduceEqDiff, reduceCtorEq, Nat.reduceAdd, Nat.reduceSub, Nat.reduceMul, Int.reduceToNat, Nat.reduceLeDiff])
        | (refine Exists.intro _ (Exists.intro _ (Exists.intro _ (And.intro (by assumption) ?_))); try simp only [push_cast, reduceIte, Nat.reduceEqDiff, reduceCtorEq, Nat.reduceAdd, Nat.reduceSub, Nat.reduceMul, Int.reduceToNat, Nat.reduceLeDiff])
        | (refine xr rfl (by simp only [List.length_cons, List.length_nil]; omega) ?_; try simp only [push_cast, reduceIte, Nat.reduceEqDiff, reduceCtorEq, Nat.reduceAdd, Nat.reduceSub, Nat.reduceMul, Int.reduceToNat, Nat.reduceLeDiff])
        | (refine xi rfl (by simp only [List.length_cons, List.length_nil]; omega) ?_; try simp only [push_cast, reduceIte, Nat.reduceEqDiff, reduceCtorEq, Nat.reduceAdd, Nat.reduceSub, Nat.reduceMul, Int.reduceToNat, Nat.reduceLeDiff])
        | (refine xs rfl (by simp only [List.length_cons, List.length_nil]; omega) ?_; try simp only [push_cast, reduceIte, Nat.reduceEqDiff, reduceCtorEq, Nat.reduceAdd, Nat.reduceSub, Nat.reduceMul, Int.reduceToNat, Nat.reduceLeDiff])
        | (refine xw ?_; simp only [push_cast, reduceIte, Nat.reduceEqDiff, reduceCtorEq, Nat.reduceAdd, Nat.reduceSub, Nat.reduceMul, Int.reduceToNat, Nat.reduceLeDiff])
        | (refine And.intro (PHeap.le_refl _) (And.intro (fun p hp => hp) ?_))
        | (refine And.intro (PHeap.le_refl _) (And.intro (fun p hp => List.mem_cons_of_mem _ hp) ?_))
        | (refine And.intro (PHeap.le_refl _) (And.intro (fun p hp => List.mem_cons_of_mem _ (List.mem_cons_of_mem _ hp)) ?_))
        | (refine And.intro (PHeap.le_refl _) (And.intro (mem_of_sub ?_) ?_); focus ((repeat' first | exact List.Sublist.refl _ | exact List.nil_sublist _ | exact List.sublist_append_left _ _ | refine List.Sublist.cons_cons _ ?_ | refine List.Sublist.append_left ?_ _ | refine List.sublist_append_of_sublist_right ?_ | refine List.Sublist.cons _ ?_); done); try simp only [push_cast, reduceIte, Nat.reduceEqDiff, reduceCtorEq, Nat.reduceAdd, Nat.reduceSub, Nat.reduceMul, Int.reduceToNat, Nat.reduceLeDiff])
        | (exfalso; simp at hc; done)
        | (exfalso; omega)
        | exact false
        | fail "stuck"
    have hlen : ((ts.take i).flatten ++ ts[i]).length ≤ ts.flatten.length := by rw [← flat_take hi']; exact flat_take_le ts (i + 1)
    simp only [List.length_append] at hlen
    let W : Nat → LimS := fun j => limOf ((ts.take i).flatten ++ ts[i].take j)
    refine EV.to (ρ' := [(3, vi (W 0).acc), (4, vi (W 0).fen), (5, pv b 0), (15, .slice (some ⟨pb, po, none⟩) ts.length c), (16, vi ts.length), (17, vi i), (21, .slice a' ts[i].length c'), (22, vi ts[i].length), (23, vi (0 : Nat))])
      (G' := [(b, Cl 58 [vi (W 0).w0, vi (W 0).w1, vi (W 0).w2])]) ?_ (by simp [get, W]) (by simp [W])
    refine EV.loop (fun j : Nat => ([(3, vi (W j).acc), (4, vi (W j).fen), (5, pv b 0), (15, .slice (some ⟨pb, po, none⟩) ts.length c), (16, vi ts.length), (17, vi i), (21, .slice a' ts[i].length c'), (22, vi ts[i].length), (23, vi j)], M,
      [(b, Cl 58 [vi (W j).w0, vi (W j).w1, vi (W j).w2])])) (fun j => j ≤ ts[i].length) (fun j => ts[i].length - j) 0 (Nat.zero_le _) ?_
    intro j hj ih2
    dsimp only at ih2 ⊢
    repeat' first
        | refine EV.seq ?_
        | refine EV.skip ?_
        | refine EV.block ?_
        | refine EV.inBlock ?_
        | (refine EV.reg ?_; (conv => (arg 2; whnf)); simp only [push_cast, reduceIte, Nat.reduceEqDiff, reduceCtorEq, Nat.reduceAdd, Nat.reduceSub, Nat.reduceMul, Int.reduceToNat, Nat.reduceLeDiff])
        | (refine EV.any _ (List.Sublist.refl _) ?_; (conv => (arg 2; whnf)); simp only [push_cast, reduceIte, Nat.reduceEqDiff, reduceCtorEq, Nat.reduceAdd, Nat.reduceSub, Nat.reduceMul, Int.reduceToNat, Nat.reduceLeDiff])
        | assumption
        | (refine condW.merge ?_ (fun hc K' hK => ?_) ?_; rotate_left)
        | (refine condQ.mk ?_ (fun hc => ?_) ?_; rotate_left; (try simp only [decide_eq_true_eq, decide_eq_false_iff_not, Bool.not_eq_true', Bool.not_eq_false', Bool.and_eq_true, Bool.or_eq_true, Bool.and_eq_false_iff, Bool.or_eq_false_iff] at hc))
        | (with_reducible rfl)
        | ((refine EV.cond rfl (fun h => ?_) (fun h => ?_) <;> try simp only [reduceCtorEq, reduceIte, if_true, if_false, Bool.not_eq_true', Bool.not_eq_false', decide_eq_true_eq, decide_eq_false_iff_not, Bool.and_eq_true, Bool.or_eq_true, Bool.and_eq_false_iff, Bool.or_eq_false_iff] at h) <;> try (exfalso; first | exact h True.intro | (exact h; done) | omega))
        | (refine EV.exit rfl ?_)
        | (refine EV.ret R_litmus_limits_ok ?_; simp only [push_cast, reduceIte, Nat.reduceEqDiff, reduceCtorEq, Nat.reduceAdd, Nat.reduceSub, Nat.reduceMul, Int.reduceToNat, Nat.reduceLeDiff, R_litmus_limits])
        | (with_reducible intro b; try simp only [push_cast, reduceIte, Nat.reduceEqDiff, reduceCtorEq, Nat.reduceAdd, Nat.reduceSub, Nat.reduceMul, Int.reduceToNat, Nat.reduceLeDiff])
        | with_reducible intro b
        | (refine And.intro (by omega) ?_)
        | (refine Exists.intro _ (And.intro (rd_M (by assumption)) ?_); try simp only [push_cast, reduceIte, Nat.reduceEqDiff, reduceCtorEq, Nat.reduceAdd, Nat.reduceSub, Nat.reduceMul, Int.reduceToNat, Nat.reduceLeDiff])
        | (refine Exists.intro _ (Exists.intro _ (Exists.intro _ (And.intro (rd_M (by assumption)) ?_))); try simp only [push_cast, reduceIte, Nat.reduceEqDiff, reduceCtorEq, Nat.reduceAdd, Nat.reduceSub, Nat.reduceMul, Int.reduceToNat, Nat.reduceLeDiff])
        | (refine Exists.intro _ (And.intro (by assumption) ?_); try simp only [push_cast, reduceIte, Nat.reduceEqDiff, reduceCtorEq, Nat.reduceAdd, Nat.reduceSub, Nat.reduceMul, Int.reduceToNat, Nat.reduceLeDiff])
        | (refine Exists.intro _ (Exists.intro _ (Exists.intro _ (And.intro (by assumption) ?_))); try simp only [push_cast, reduceIte, Nat.reduceEqDiff, reduceCtorEq, Nat.reduceAdd, Nat.reduceSub, Nat.reduceMul, Int.reduceToNat, Nat.reduceLeDiff])
        | (refine xr rfl (by simp only [List.length_cons, List.length_nil]; omega) ?_; try simp only [push_cast, reduceIte, Nat.reduceEqDiff, reduceCtorEq, Nat.reduceAdd, Nat.reduceSub, Nat.reduceMul, Int.reduceToNat, Nat.reduceLeDiff])
        | (refine xi rfl (by simp only [List.length_cons, List.length_nil]; omega) ?_; try simp only [push_cast, reduceIte, Nat.reduceEqDiff, reduceCtorEq, Nat.reduceAdd, Nat.reduceSub, Nat.reduceMul, Int.reduceToNat, Nat.reduceLeDiff])
        | (refine xs rfl (by simp only [List.length_cons, List.length_nil]; omega) ?_; try simp only [push_cast, reduceIte, Nat.reduceEqDiff, reduceCtorEq, Nat.reduceAdd, Nat.reduceSub, Nat.reduceMul, Int.reduceToNat, Nat.reduceLeDiff])
        | (refine xw ?_; simp only [push_cast, reduceIte, Nat.reduceEqDiff, reduceCtorEq, Nat.reduceAdd, Nat.reduceSub, Nat.reduceMul, Int.reduceToNat, Nat.reduceLeDiff])
        | (refine And.intro (PHeap.le_refl _) (And.intro (fun p hp => hp) ?_))
        | (refine And.intro (PHeap.le_refl _) (And.intro (fun p hp => List.mem_cons_of_mem _ hp) ?_))
        | (refine And.intro (PHeap.le_refl _) (And.intro (fun p hp => List.mem_cons_of_mem _ (List.mem_cons_of_mem _ hp)) ?_))
        | (refine And.intro (PHeap.le_refl _) (And.intro (mem_of_sub ?_) ?_); focus ((repeat' first | exact List.Sublist.refl _ | exact List.nil_sublist _ | exact List.sublist_append_left _ _ | refine List.Sublist.cons_cons _ ?_ | refine List.Sublist.append_left ?_ _ | refine List.sublist_append_of_sublist_right ?_ | refine List.Sublist.cons _ ?_); done); try simp only [push_cast, reduceIte, Nat.reduceEqDiff, reduceCtorEq, Nat.reduceAdd, Nat.reduceSub, Nat.reduceMul, Int.reduceToNat, Nat.reduceLeDiff])
        | (exfalso; simp at hc; done)
        | (exfalso; omega)
        | exact false
        | fail "stuck"
    · have hj' : j < ts[i].length := by omega
      obtain ⟨qb, qo, rfl, hat2⟩ := Sl.at (enc := encOp) (fun _ => rfl) (by omega) hr2 (by omega)
      have hr3 := hat2 j hj'
      have hW : W (j + 1) = limStep (W j) ts[i][j] := by
        simp only [W, limOf, List.take_succ_eq_append_getElem hj', ← List.append_assoc, List.foldl_append, List.foldl_cons, List.foldl_nil]
      have hWb := lim_bound ((ts.take i).flatten ++ ts[i].take j)
      have hWl : ((ts.take i).flatten ++ ts[i].take j).length < 1000000 := by rw [List.length_append, List.length_take]; omega
      have fin : ∀ ρ G', (∀ p ∈ [(3, vi (W (j + 1)).acc), (4, vi (W (j + 1)).fen), (5, pv b 0), (15, .slice (some ⟨pb, po, none⟩) ts.length c), (16, vi ts.length), (17, vi i), (21, .slice (some ⟨qb, qo, none⟩) ts[i].length c'), (22, vi ts[i].length), (23, vi (j + 1 : Nat))], get ρ p.1 = some p.2) →
          [(b, Cl 58 [vi (W (j + 1)).w0, vi (W (j + 1)).w1, vi (W (j + 1)).w2])].Sublist G' → _ := fun ρ G' h1 h2 => EV.to (ρ := ρ) (G := G') (ih2 (j + 1) (by omega) (by omega)) h1 h2
      rw [hW] at fin
      have hWe : W j = limOf ((ts.take i).flatten ++ ts[i].take j) := rfl
      rw [← hWe] at hWb
      clear_value W
      have e1 : IntKind.i64.wrap ((W j).acc + 1) = (W j).acc + 1 := w64 (by omega) (by omega)
      have e2 : IntKind.i64.wrap ((W j).fen + 1) = (W j).fen + 1 := w64 (by omega) (by omega)
      have e3 : IntKind.i64.wrap ((W j).fen + 2) = (W j).fen + 2 := w64 (by omega) (by omega)
      have e4 : IntKind.i64.wrap ((W j).w0 + 1) = (W j).w0 + 1 := w64 (by omega) (by omega)
      have e5 : IntKind.i64.wrap ((W j).w1 + 1) = (W j).w1 + 1 := w64 (by omega) (by omega)
      have e6 : IntKind.i64.wrap ((W j).w2 + 1) = (W j).w2 + 1 := w64 (by omega) (by omega)
      have e7 : IntKind.i64.wrap ((j : Int) + 1) = ((j + 1 : Nat) : Int) := w64 (by omega) (by omega)
      clear ih ih2 hat hat2 hrd hk hr1 hr2 hWb hWl hWe hlen hW hb hb' hl
      generalize W j = s at *
      generalize ts[i][j] = o at *
      clear W
      repeat' first
          | refine EV.seq ?_
          | refine EV.skip ?_
          | refine EV.block ?_
          | refine EV.inBlock ?_
          | (refine EV.reg ?_; (conv => (arg 2; whnf)); simp only [push_cast, reduceIte, Nat.reduceEqDiff, reduceCtorEq, Nat.reduceAdd, Nat.reduceSub, Nat.reduceMul, Int.reduceToNat, Nat.reduceLeDiff])
          | (refine EV.any _ (List.Sublist.refl _) ?_; (conv => (arg 2; whnf)); simp only [push_cast, reduceIte, Nat.reduceEqDiff, reduceCtorEq, Nat.reduceAdd, Nat.reduceSub, Nat.reduceMul, Int.reduceToNat, Nat.reduceLeDiff])
          | (refine ConQ.call (litmus_access_q _) ?_; try simp only [push_cast, reduceIte, Nat.reduceEqDiff, reduceCtorEq, Nat.reduceAdd, Nat.reduceSub, Nat.reduceMul, Int.reduceToNat, Nat.reduceLeDiff])
          | (refine Exists.intro _ (And.intro (litmus_access_q _) ?_); try simp only [push_cast, reduceIte, Nat.reduceEqDiff, reduceCtorEq, Nat.reduceAdd, Nat.reduceSub, Nat.reduceMul, Int.reduceToNat, Nat.reduceLeDiff])
          | assumption
          | (refine condW.merge ?_ (fun hc K' hK => ?_) ?_; rotate_left)
          | (refine condQ.mk ?_ (fun hc => ?_) ?_; rotate_left; (try simp only [decide_eq_true_eq, decide_eq_false_iff_not, Bool.not_eq_true', Bool.not_eq_false', Bool.and_eq_true, Bool.or_eq_true, Bool.and_eq_false_iff, Bool.or_eq_false_iff] at hc))
          | (with_reducible rfl)
          | ((refine EV.cond rfl (fun h => ?_) (fun h => ?_) <;> try simp only [reduceCtorEq, reduceIte, if_true, if_false, Bool.not_eq_true', Bool.not_eq_false', decide_eq_true_eq, decide_eq_false_iff_not, Bool.and_eq_true, Bool.or_eq_true, Bool.and_eq_false_iff, Bool.or_eq_false_iff] at h) <;> try (exfalso; first | exact h True.intro | (exact h; done) | omega))
          | (refine EV.exit rfl ?_)
          | (refine EV.ret R_litmus_limits_ok ?_; simp only [push_cast, reduceIte, Nat.reduceEqDiff, reduceCtorEq, Nat.reduceAdd, Nat.reduceSub, Nat.reduceMul, Int.reduceToNat, Nat.reduceLeDiff, R_litmus_limits])
          | (with_reducible intro b; try simp only [push_cast, reduceIte, Nat.reduceEqDiff, reduceCtorEq, Nat.reduceAdd, Nat.reduceSub, Nat.reduceMul, Int.reduceToNat, Nat.reduceLeDiff])
          | with_reducible intro b
          | (refine And.intro (by omega) ?_)
          | (refine Exists.intro _ (And.intro (rd_M (by assumption)) ?_); try simp only [push_cast, reduceIte, Nat.reduceEqDiff, reduceCtorEq, Nat.reduceAdd, Nat.reduceSub, Nat.reduceMul, Int.reduceToNat, Nat.reduceLeDiff])
          | (refine Exists.intro _ (Exists.intro _ (Exists.intro _ (And.intro (rd_M (by assumption)) ?_))); try simp only [push_cast, reduceIte, Nat.reduceEqDiff, reduceCtorEq, Nat.reduceAdd, Nat.reduceSub, Nat.reduceMul, Int.reduceToNat, Nat.reduceLeDiff])
          | (refine Exists.intro _ (And.intro (by assumption) ?_); try simp only [push_cast, reduceIte, Nat.reduceEqDiff, reduceCtorEq, Nat.reduceAdd, Nat.reduceSub, Nat.reduceMul, Int.reduceToNat, Nat.reduceLeDiff])
          | (refine Exists.intro _ (Exists.intro _ (Exists.intro _ (And.intro (by assumption) ?_))); try simp only [push_cast, reduceIte, Nat.reduceEqDiff, reduceCtorEq, Nat.reduceAdd, Nat.reduceSub, Nat.reduceMul, Int.reduceToNat, Nat.reduceLeDiff])
          | (refine xr rfl (by simp only [List.length_cons, List.length_nil]; omega) ?_; try simp only [push_cast, reduceIte, Nat.reduceEqDiff, reduceCtorEq, Nat.reduceAdd, Nat.reduceSub, Nat.reduceMul, Int.reduceToNat, Nat.reduceLeDiff])
          | (refine xi rfl (by simp only [List.length_cons, List.length_nil]; omega) ?_; try simp only [push_cast, reduceIte, Nat.reduceEqDiff, reduceCtorEq, Nat.reduceAdd, Nat.reduceSub, Nat.reduceMul, Int.reduceToNat, Nat.reduceLeDiff])
          | (refine xs rfl (by simp only [List.length_cons, List.length_nil]; omega) ?_; try simp only [push_cast, reduceIte, Nat.reduceEqDiff, reduceCtorEq, Nat.reduceAdd, Nat.reduceSub, Nat.reduceMul, Int.reduceToNat, Nat.reduceLeDiff])
          | (refine xw ?_; simp only [push_cast, reduceIte, Nat.reduceEqDiff, reduceCtorEq, Nat.reduceAdd, Nat.reduceSub, Nat.reduceMul, Int.reduceToNat, Nat.reduceLeDiff])
          | (refine And.intro (PHeap.le_refl _) (And.intro (fun p hp => hp) ?_))
          | (refine And.intro (PHeap.le_refl _) (And.intro (fun p hp => List.mem_cons_of_mem _ hp) ?_))
          | (refine And.intro (PHeap.le_refl _) (And.intro (fun p hp => List.mem_cons_of_mem _ (List.mem_cons_of_mem _ hp)) ?_))
          | (refine And.intro (PHeap.le_refl _) (And.intro (mem_of_sub ?_) ?_); focus ((repeat' first | exact List.Sublist.refl _ | exact List.nil_sublist _ | exact List.sublist_append_left _ _ | refine List.Sublist.cons_cons _ ?_ | refine List.Sublist.append_left ?_ _ | refine List.sublist_append_of_sublist_right ?_ | refine List.Sublist.cons _ ?_); done); try simp only [push_cast, reduceIte, Nat.reduceEqDiff, reduceCtorEq, Nat.reduceAdd, Nat.reduceSub, Nat.reduceMul, Int.reduceToNat, Nat.reduceLeDiff])
          | (exfalso; simp at hc; done)
          | (exfalso; omega)
          | exact false
          | fail "stuck"
      all_goals try refine fin _ _ ?_ ?_
      all_goals first
        | (simp [get, limStep, *]; done)
        | (simp [get, limStep, *]; grind)
        | skip
      all_goals
        have hloc : o.loc = 0 ∨ o.loc = 1 ∨ o.loc = 2 := by omega
        have hk0 : ¬ o.kind = 0 := by omega
        rcases hloc with hloc | hloc | hloc <;> rw [hloc] <;> simp only [Int.reduceToNat, Int.toNat_zero, Int.reduceLE, Int.reduceLT, true_and]
      all_goals repeat' first
          | refine EV.seq ?_
          | refine EV.skip ?_
          | refine EV.block ?_
          | refine EV.inBlock ?_
          | (refine EV.reg ?_; (conv => (arg 2; whnf)); simp only [push_cast, reduceIte, Nat.reduceEqDiff, reduceCtorEq, Nat.reduceAdd, Nat.reduceSub, Nat.reduceMul, Int.reduceToNat, Nat.reduceLeDiff])
          | (refine EV.any _ (List.Sublist.refl _) ?_; (conv => (arg 2; whnf)); simp only [push_cast, reduceIte, Nat.reduceEqDiff, reduceCtorEq, Nat.reduceAdd, Nat.reduceSub, Nat.reduceMul, Int.reduceToNat, Nat.reduceLeDiff])
          | assumption
          | (refine condW.merge ?_ (fun hc K' hK => ?_) ?_; rotate_left)
          | (refine condQ.mk ?_ (fun hc => ?_) ?_; rotate_left; (try simp only [decide_eq_true_eq, decide_eq_false_iff_not, Bool.not_eq_true', Bool.not_eq_false', Bool.and_eq_true, Bool.or_eq_true, Bool.and_eq_false_iff, Bool.or_eq_false_iff] at hc))
          | (with_reducible rfl)
          | ((refine EV.cond rfl (fun h => ?_) (fun h => ?_) <;> try simp only [reduceCtorEq, reduceIte, if_true, if_false, Bool.not_eq_true', Bool.not_eq_false', decide_eq_true_eq, decide_eq_false_iff_not, Bool.and_eq_true, Bool.or_eq_true, Bool.and_eq_false_iff, Bool.or_eq_false_iff] at h) <;> try (exfalso; first | exact h True.intro | (exact h; done) | omega))
          | (refine EV.exit rfl ?_)
          | (refine EV.ret R_litmus_limits_ok ?_; simp only [push_cast, reduceIte, Nat.reduceEqDiff, reduceCtorEq, Nat.reduceAdd, Nat.reduceSub, Nat.reduceMul, Int.reduceToNat, Nat.reduceLeDiff, R_litmus_limits])
          | (with_reducible intro b; try simp only [push_cast, reduceIte, Nat.reduceEqDiff, reduceCtorEq, Nat.reduceAdd, Nat.reduceSub, Nat.reduceMul, Int.reduceToNat, Nat.reduceLeDiff])
          | with_reducible intro b
          | (refine And.intro (by omega) ?_)
          | (refine Exists.intro _ (And.intro (rd_M (by assumption)) ?_); try simp only [push_cast, reduceIte, Nat.reduceEqDiff, reduceCtorEq, Nat.reduceAdd, Nat.reduceSub, Nat.reduceMul, Int.reduceToNat, Nat.reduceLeDiff])
          | (refine Exists.intro _ (Exists.intro _ (Exists.intro _ (And.intro (rd_M (by assumption)) ?_))); try simp only [push_cast, reduceIte, Nat.reduceEqDiff, reduceCtorEq, Nat.reduceAdd, Nat.reduceSub, Nat.reduceMul, Int.reduceToNat, Nat.reduceLeDiff])
          | (refine Exists.intro _ (And.intro (by assumption) ?_); try simp only [push_cast, reduceIte, Nat.reduceEqDiff, reduceCtorEq, Nat.reduceAdd, Nat.reduceSub, Nat.reduceMul, Int.reduceToNat, Nat.reduceLeDiff])
          | (refine Exists.intro _ (Exists.intro _ (Exists.intro _ (And.intro (by assumption) ?_))); try simp only [push_cast, reduceIte, Nat.reduceEqDiff, reduceCtorEq, Nat.reduceAdd, Nat.reduceSub, Nat.reduceMul, Int.reduceToNat, Nat.reduceLeDiff])
          | (refine xr rfl (by simp only [List.length_cons, List.length_nil]; omega) ?_; try simp only [push_cast, reduceIte, Nat.reduceEqDiff, reduceCtorEq, Nat.reduceAdd, Nat.reduceSub, Nat.reduceMul, Int.reduceToNat, Nat.reduceLeDiff])
          | (refine xi rfl (by simp only [List.length_cons, List.length_nil]; omega) ?_; try simp only [push_cast, reduceIte, Nat.reduceEqDiff, reduceCtorEq, Nat.reduceAdd, Nat.reduceSub, Nat.reduceMul, Int.reduceToNat, Nat.reduceLeDiff])
          | (refine xs rfl (by simp only [List.length_cons, List.length_nil]; omega) ?_; try simp only [push_cast, reduceIte, Nat.reduceEqDiff, reduceCtorEq, Nat.reduceAdd, Nat.reduceSub, Nat.reduceMul, Int.reduceToNat, Nat.reduceLeDiff])
          | (refine xw ?_; simp only [push_cast, reduceIte, Nat.reduceEqDiff, reduceCtorEq, Nat.reduceAdd, Nat.reduceSub, Nat.reduceMul, Int.reduceToNat, Nat.reduceLeDiff])
          | (refine And.intro (PHeap.le_refl _) (And.intro (fun p hp => hp) ?_))
          | (refine And.intro (PHeap.le_refl _) (And.intro (fun p hp => List.mem_cons_of_mem _ hp) ?_))
          | (refine And.intro (PHeap.le_refl _) (And.intro (fun p hp => List.mem_cons_of_mem _ (List.mem_cons_of_mem _ hp)) ?_))
          | (refine And.intro (PHeap.le_refl _) (And.intro (mem_of_sub ?_) ?_); focus ((repeat' first | exact List.Sublist.refl _ | exact List.nil_sublist _ | exact List.sublist_append_left _ _ | refine List.Sublist.cons_cons _ ?_ | refine List.Sublist.append_left ?_ _ | refine List.sublist_append_of_sublist_right ?_ | refine List.Sublist.cons _ ?_); done); try simp only [push_cast, reduceIte, Nat.reduceEqDiff, reduceCtorEq, Nat.reduceAdd, Nat.reduceSub, Nat.reduceMul, Int.reduceToNat, Nat.reduceLeDiff])
          | (exfalso; simp at hc; done)
          | (exfalso; omega)
          | exact false
          | fail "stuck"
      all_goals try refine fin _ _ ?_ ?_
      all_goals first
        | (simp [get, limStep, *]; done)
        | (simp [get, limStep, *]; grind)
        | skip
    · have hj' : j = ts[i].length := by omega
      subst hj'
      have hf : (ts.take i).flatten ++ ts[i].take ts[i].length = (ts.take (i + 1)).flatten := by rw [flat_take hi', List.take_length]
      refine EV.to (ih (i + 1) (by omega) (by omega)) ?_ ?_
      · clear ih ih2
        rw [← hf]
        simp [get, W]
        exact w64 (by omega) (by omega)
      · rw [← hf]
        exact List.Sublist.refl _
  · have hi3 : i = ts.length := by omega
    subst hi3
    rw [List.take_length]
    simp only [limitsP, mx, List.take_succ_cons, List.take_zero, List.foldl_cons, List.foldl_nil, List.headD_cons]
    congr 1
    have h3 : decide (ts.length ≤ 3) = true := by simpa using hlen3
    rw [h3]
    grind

end
end Go.EV
