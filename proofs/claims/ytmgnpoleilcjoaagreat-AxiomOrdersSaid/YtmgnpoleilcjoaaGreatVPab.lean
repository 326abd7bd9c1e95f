/- The calculus EV, part 14: resolving by reckoning; the check of a whole function. The calculus EV, part 15: regions and functions, resolved by reckoning. The calculus EV, part 16: what simp reckons. The calculus EV, part 17: helpers of proofs. -/
import Derived.Test.YtmgnpoleilcjoaaGreatVPaa
set_option maxRecDepth 8000
set_option linter.unusedSimpArgs false
set_option linter.unusedVariables false
set_option linter.unusedSectionVars false
namespace Go.EV
variable {P : Program}

def szP (P : Program) (t : TypeId) : Option Nat := (P.info? t).map (·.size)
def zeroP (P : Program) (t : TypeId) : Option Value := (P.info? t).bind (·.zero)

def cBin (P : Program) (o : Oper) (op : BinOp) (t : TypeId) (x y : Operand) : Option ROp :=
 match P.underlying t with
 | some (.int _) => (cA x).bind fun x' => (cA y).bind fun y' => some (.bin op x' y')
 | some .string => (cA x).bind fun x' => (cA y).bind fun y' => some (.bin op x' y')
 | some .bool => (cA x).bind fun x' => (cA y).bind fun y' => match op with | .eql => some (.eqb false x' y') | .neq => some (.eqb true x' y') | _ => none
 | some (.pointer _) => match y with
  | .const (.pointer none) => (cA x).bind fun x' => match op with | .eql => some (.eqp false x') | .neq => some (.eqp true x') | _ => none
  | _ => some .bad
 | some (.slice _) => match y with
  | .const (.slice none 0 0) => (cA x).bind fun x' => match op with | .eql => some (.eqS false x') | .neq => some (.eqS true x') | _ => none
  | _ => some .bad
 | _ => match eqTy P t with
  | some ks => (cA x).bind fun x' => (cA y).bind fun y' => match op with | .eql => some (.eqA false ks x' y') | .neq => some (.eqA true ks x' y') | _ => none
  | none => some .bad

theorem cBin_ok {o : Oper} {op : BinOp} {t u : TypeId} {x y : Operand} {r : ROp} (h : o.op = .binOp op t x y u) (hr : cBin P o op t x y = some r) : Cmp P o r := by
 unfold cBin at hr
 split at hr
 ·simp only [Option.bind_eq_some_iff] at hr
  obtain ⟨x', hx, y', hy, e⟩ := hr
  cases e
  exact .bin h hx hy
 ·simp only [Option.bind_eq_some_iff] at hr
  obtain ⟨x', hx, y', hy, e⟩ := hr
  cases e
  exact .bin h hx hy
 ·rename_i hu
  simp only [Option.bind_eq_some_iff] at hr
  obtain ⟨x', hx, y', hy, e⟩ := hr
  split at e <;> cases e
  ·exact .eqb (neg := false) h hu hx hy
  ·exact .eqb (neg := true) h hu hx hy
 ·rename_i hu
  split at hr
  ·simp only [Option.bind_eq_some_iff] at hr
   obtain ⟨x', hx, e⟩ := hr
   split at e <;> cases e
   ·exact .eqp (neg := false) h hu hx
   ·exact .eqp (neg := true) h hu hx
  ·cases hr; exact .bad
 ·rename_i hu
  split at hr
  ·simp only [Option.bind_eq_some_iff] at hr
   obtain ⟨x', hx, e⟩ := hr
   split at e <;> cases e
   ·exact .eqS (neg := false) h hu hx
   ·exact .eqS (neg := true) h hu hx
  ·cases hr; exact .bad
 ·split at hr
  ·rename_i ks he
   simp only [Option.bind_eq_some_iff] at hr
   obtain ⟨x', hx, y', hy, e⟩ := hr
   split at e <;> cases e
   ·exact .eqA (neg := false) h he hx hy
   ·exact .eqA (neg := true) h he hx hy
  ·cases hr; exact .bad

def cFaddr (P : Program) (s : TypeId) (x : Operand) (f : Nat) : Option ROp :=
 match P.underlying s with
 | some (.struct fs) => fs[f]?.bind fun fl => match szP P fl.type with
  | some (_ + 1) => (cA x).bind fun x' => some (.faddr fl.offset x')
  | _ => none
 | _ => none

theorem cFaddr_ok {o : Oper} {s : TypeId} {x : Operand} {f : Nat} {r : ROp} (h : o.op = .fieldAddr s x f) (hr : cFaddr P s x f = some r) : Cmp P o r := by
 unfold cFaddr at hr
 split at hr
 ·rename_i fs hu
  simp only [Option.bind_eq_some_iff] at hr
  obtain ⟨fl, hf, hr⟩ := hr
  split at hr
  ·rename_i n hs
   simp only [Option.bind_eq_some_iff] at hr
   obtain ⟨x', hx, e⟩ := hr
   cases e
   exact .faddr h hx hu hf hs
  ·cases hr
 ·cases hr

def cField (P : Program) (s : TypeId) (x : Operand) (f : Nat) : Option ROp :=
 match P.underlying s with
 | some (.struct fs) => fs[f]?.bind fun fl => (cA x).bind fun x' => match aggT P fl.type with
  | some true => (szP P fl.type).bind fun sz => some (.fieldA fl.offset sz x')
  | some false => some (.field1 fl.offset x')
  | none => none
 | _ => none

theorem cField_ok {o : Oper} {s : TypeId} {x : Operand} {f : Nat} {r : ROp} (h : o.op = .field s x f) (hr : cField P s x f = some r) : Cmp P o r := by
 unfold cField at hr
 split at hr
 ·rename_i fs hu
  simp only [Option.bind_eq_some_iff] at hr
  obtain ⟨fl, hf, x', hx, hr⟩ := hr
  split at hr
  ·rename_i ha
   simp only [Option.bind_eq_some_iff] at hr
   obtain ⟨sz, hs, e⟩ := hr
   cases e
   exact .fieldA h hx hu hf ha hs
  ·rename_i ha
   cases hr
   exact .field1 h hx hu hf ha
  ·cases hr
 ·cases hr

def cIaddr (P : Program) (t : TypeId) (x i : Operand) : Option ROp :=
 match P.underlying t with
 | some (.array n e) => (szP P e).bind fun sz => (cA x).bind fun x' => (cA i).bind fun i' => some (.iaddrA n sz x' i')
 | some (.slice e) => (szP P e).bind fun sz => (cA x).bind fun x' => (cA i).bind fun i' => some (.iaddrS sz x' i')
 | _ => none

theorem cIaddr_ok {o : Oper} {t : TypeId} {x i : Operand} {r : ROp} (h : o.op = .indexAddr t x i) (hr : cIaddr P t x i = some r) : Cmp P o r := by
 unfold cIaddr at hr
 split at hr
 ·rename_i hu
  simp only [Option.bind_eq_some_iff] at hr
  obtain ⟨sz, hs, x', hx, i', hi, e⟩ := hr
  cases e
  exact .iaddrA h hx hi hu hs
 ·rename_i hu
  simp only [Option.bind_eq_some_iff] at hr
  obtain ⟨sz, hs, x', hx, i', hi, e⟩ := hr
  cases e
  exact .iaddrS h hx hi hu hs
 ·cases hr

def cLoad (P : Program) (t : TypeId) (x : Operand) : Option ROp :=
 (cA x).bind fun x' => match aggT P t with
  | some true => (szP P t).bind fun sz => some (.loadA sz x')
  | some false => match P.underlying t with
   | some (.int k) => some (.loadI k x')
   | some .bool => some (.loadB x')
   | some (.slice _) => some (.loadS x')
   | _ => some (.loadX x')
  | none => none

theorem cLoad_ok {o : Oper} {t : TypeId} {x : Operand} {r : ROp} (h : o.op = .load t x) (hr : cLoad P t x = some r) : Cmp P o r := by
 unfold cLoad at hr
 simp only [Option.bind_eq_some_iff] at hr
 obtain ⟨x', hx, hr⟩ := hr
 split at hr
 ·rename_i ha
  simp only [Option.bind_eq_some_iff] at hr
  obtain ⟨sz, hs, e⟩ := hr
  cases e
  exact .loadA h hx ha hs
 ·rename_i ha
  split at hr <;> cases hr
  ·exact .loadI h hx ha
  ·exact .loadB h hx ha
  ·exact .loadS h hx ha
  ·exact .loadX h hx ha
 ·cases hr

def cBuild (P : Program) (t : TypeId) (parts : Array (Nat × Operand)) : Option ROp :=
 (zeroP P t).bind fun z => match P.underlying t with
  | some (.struct fs) => if (fs.all fun f => (P.info? f.type).isSome) = true then (resPs P fs parts.toList).bind fun ps => some (.build z.cells.toList ps) else none
  | some (.array _ e) => (szP P e).bind fun sz => (resPa sz parts.toList).bind fun ps => some (.build z.cells.toList ps)
  | _ => none

theorem cBuild_ok {o : Oper} {t : TypeId} {parts : Array (Nat × Operand)} {r : ROp} (h : o.op = .build t parts) (hr : cBuild P t parts = some r) : Cmp P o r := by
 unfold cBuild at hr
 simp only [Option.bind_eq_some_iff] at hr
 obtain ⟨z, hz, hr⟩ := hr
 split at hr
 ·rename_i fs hu
  split at hr
  ·rename_i hall
   simp only [Option.bind_eq_some_iff] at hr
   obtain ⟨ps, hp, e⟩ := hr
   cases e
   exact .buildS h hu hz hp hall
  ·cases hr
 ·rename_i hu
  simp only [Option.bind_eq_some_iff] at hr
  obtain ⟨sz, hs, ps, hp, e⟩ := hr
  cases e
  exact .buildA h hu hz hs hp
 ·cases hr

def cBuildSl (P : Program) (t : TypeId) (n : Nat) (parts : Array (Nat × Operand)) : Option ROp :=
 match P.underlying t with
 | some (.slice e) => (zeroP P e).bind fun z => (szP P e).bind fun sz => (resPa sz parts.toList).bind fun ps =>
   if z.cells.size = sz ∧ n * sz ≤ 2 ^ 24 then some (.buildSl e n (List.replicate n z.cells.toList).flatten ps) else none
 | _ => none

theorem cBuildSl_ok {o : Oper} {t : TypeId} {n : Nat} {parts : Array (Nat × Operand)} {r : ROp} (h : o.op = .buildSlice t n parts) (hr : cBuildSl P t n parts = some r) : Cmp P o r := by
 unfold cBuildSl at hr
 split at hr
 ·rename_i hu
  simp only [Option.bind_eq_some_iff] at hr
  obtain ⟨z, hz, sz, hs, ps, hp, hr⟩ := hr
  split at hr
  ·rename_i hc
   cases hr
   exact .buildSl h hu hz hs hc.1 hc.2 hp
  ·cases hr
 ·cases hr

def cMakeSl (P : Program) (t : TypeId) (x y : Operand) : Option ROp :=
 match P.underlying t with
 | some (.slice e) => (P.info? e).bind fun i => i.zero.bind fun z => (cA x).bind fun x' => (cA y).bind fun y' =>
   if z.cells.size = i.size ∧ 0 < i.size then some (.makeSl e i.size i.bytes z.cells.toList x' y') else none
 | _ => none

theorem cMakeSl_ok {o : Oper} {t : TypeId} {x y : Operand} {r : ROp} (h : o.op = .makeSlice t x y) (hr : cMakeSl P t x y = some r) : Cmp P o r := by
 unfold cMakeSl at hr
 split at hr
 ·rename_i hu
  simp only [Option.bind_eq_some_iff] at hr
  obtain ⟨i, hi, z, hz, x', hx, y', hy, hr⟩ := hr
  split at hr
  ·rename_i hc
   cases hr
   exact .makeSl h hx hy hu hi hz hc.1 hc.2
  ·cases hr
 ·cases hr

def cSlice (P : Program) (t : TypeId) (x : Operand) (lo hi mx : Option Operand) : Option ROp :=
 match P.underlying t with
 | some (.slice e) => (szP P e).bind fun sz => (cA x).bind fun x' => (cAo lo).bind fun lo' => (cAo hi).bind fun hi' => (cAo mx).bind fun mx' => some (.slS sz x' lo' hi' mx')
 | some (.array n e) => match mx with
  | none => (szP P e).bind fun sz => (cA x).bind fun x' => (cAo lo).bind fun lo' => (cAo hi).bind fun hi' => some (.slA n sz x' lo' hi')
  | some _ => none
 | _ => none

theorem cSlice_ok {o : Oper} {t : TypeId} {x : Operand} {lo hi mx : Option Operand} {r : ROp} (h : o.op = .slice t x lo hi mx) (hr : cSlice P t x lo hi mx = some r) : Cmp P o r := by
 unfold cSlice at hr
 split at hr
 ·rename_i hu
  simp only [Option.bind_eq_some_iff] at hr
  obtain ⟨sz, hs, x', hx, lo', hlo, hi', hhi, mx', hmx, e⟩ := hr
  cases e
  exact .slS h hx hlo hhi hmx hu hs
 ·rename_i hu
  split at hr
  ·simp only [Option.bind_eq_some_iff] at hr
   obtain ⟨sz, hs, x', hx, lo', hlo, hi', hhi, e⟩ := hr
   cases e
   exact .slA h hx hlo hhi hu hs
  ·cases hr
 ·cases hr

def cIdx (P : Program) (t : TypeId) (x i : Operand) : Option ROp :=
 match P.underlying t with
 | some (.array n e) => (cA x).bind fun x' => (cA i).bind fun i' => match aggT P e with
  | some true => (szP P e).bind fun sz => some (.idxA n sz x' i')
  | some false => if szP P e = some 1 then some (.idx1 n x' i') else none
  | none => none
 | _ => some .bad

theorem cIdx_ok {o : Oper} {t : TypeId} {x i : Operand} {r : ROp} (h : o.op = .index t x i) (hr : cIdx P t x i = some r) : Cmp P o r := by
 unfold cIdx at hr
 split at hr
 ·rename_i hu
  simp only [Option.bind_eq_some_iff] at hr
  obtain ⟨x', hx, i', hi, hr⟩ := hr
  split at hr
  ·rename_i ha
   simp only [Option.bind_eq_some_iff] at hr
   obtain ⟨sz, hs, e⟩ := hr
   cases e
   exact .idxA h hx hi hu ha hs
  ·rename_i ha
   split at hr
   ·rename_i hs
    cases hr
    exact .idx1 h hx hi hu ha hs
   ·cases hr
  ·cases hr
 ·cases hr; exact .bad

def cCall (P : Program) (o : Oper) (c : Call) : Option ROp :=
 match c with
 | { callee := .value (.func f), args, .. } => (cAs args.toList).bind fun a => some (if isGo P f = true then .call f a else .ext f a)
 | { callee := .value x, args, .. } => (cA x).bind fun x' => (cAs args.toList).bind fun a => some (.callv x' a)
 | { callee := .builtin .len, args, argTypes } => match args.toList, argTypes.toList with
  | [x], [t] => (cA x).bind fun x' => match P.underlying t with
   | some (.slice _) => some (.len x')
   | some .string => some (.lenT x')
   | _ => some .bad
  | _, _ => none
 | { callee := .builtin .max, args, .. } => match args.toList with
  | [x, y] => (cA x).bind fun x' => (cA y).bind fun y' => some (.maxi x' y')
  | _ => some .bad
 | { callee := .builtin .min, args, .. } => match args.toList with
  | [x, y] => (cA x).bind fun x' => (cA y).bind fun y' => some (.mini x' y')
  | _ => some .bad
 | { callee := .builtin .cap, args, argTypes } => match args.toList, argTypes.toList with
  | [x], [t] => (cA x).bind fun x' => match P.underlying t with
   | some (.slice _) => some (.cap x')
   | _ => some .bad
  | _, _ => none
 | { callee := .builtin .copy, args, argTypes } => match args.toList, argTypes.toList with
  | [x, y], [t, _] => match P.underlying t with
   | some (.slice e) => (szP P e).bind fun sz => (cA x).bind fun x' => (cA y).bind fun y' => some (.copyO sz x' y')
   | _ => some .bad
  | _, _ => none
 | { callee := .builtin .clear, args, argTypes } => match args.toList, argTypes.toList with
  | [x], [t] => match P.underlying t with
   | some (.slice e) => ((P.info? e).bind (·.zero)).bind fun z => (cA x).bind fun x' => match z.cells.toList with
    | [z'] => if z'.oneCell' = true then some (.clearS z' x') else some .bad
    | _ => some .bad
   | _ => some .bad
  | _, _ => none
 | { callee := .builtin .append, args, argTypes } => match args.toList, argTypes.toList with
  | [x, y], [t, t'] => if t' = t then
    match P.underlying t with
    | some (.slice e) => (P.info? e).bind fun i => i.zero.bind fun z => (cA x).bind fun x' => (cA y).bind fun y' =>
      if z.cells.size = i.size ∧ 0 < i.size then some (.append e i.size i.bytes z.cells.toList x' y') else none
    | _ => none
   else match P.underlying t' with
    | some (.int _) => match P.underlying t with
     | some (.slice e) => (P.info? e).bind fun i => i.zero.bind fun z => (cA x).bind fun x' => (cA y).bind fun y' =>
      if z.cells.size = i.size ∧ 0 < i.size then some (.appendZ e i.size i.bytes z.cells.toList x' y') else none
     | _ => none
    | _ => some .bad
  | _, _ => none
 | _ => some .bad

theorem arr1 {α : Type} {a : Array α} {x : α} (h : a.toList = [x]) : a = #[x] := by apply Array.ext'; simpa using h
theorem arr2 {α : Type} {a : Array α} {x y : α} (h : a.toList = [x, y]) : a = #[x, y] := by apply Array.ext'; simpa using h

theorem cCall_ok {o : Oper} {c : Call} {r : ROp} (h : o.op = .call c) (hr : cCall P o c = some r) : Cmp P o r := by
 unfold cCall at hr
 split at hr
 ·simp only [Option.bind_eq_some_iff] at hr
  obtain ⟨a, ha, e⟩ := hr
  cases e
  split
  ·exact .call h ha
  ·exact .ext h ha
 ·simp only [Option.bind_eq_some_iff] at hr
  obtain ⟨x', hx, a, ha, e⟩ := hr
  cases e
  exact .callv h hx ha
 ·split at hr
  ·rename_i h1 h2
   have e1 := arr1 h1
   have e2 := arr1 h2
   subst e1 e2
   simp only [Option.bind_eq_some_iff] at hr
   obtain ⟨x', hx, hr⟩ := hr
   split at hr <;> cases hr
   ·rename_i hu; exact .len h hx hu
   ·rename_i hu; exact .lenT h hx hu
   ·exact .bad
  ·cases hr
 ·split at hr
  ·rename_i h1
   have e1 := arr2 h1
   subst e1
   simp only [Option.bind_eq_some_iff] at hr
   obtain ⟨x', hx, y', hy, e⟩ := hr
   cases e
   exact .maxi h hx hy
  ·cases hr; exact .bad
 ·split at hr
  ·rename_i h1
   have e1 := arr2 h1
   subst e1
   simp only [Option.bind_eq_some_iff] at hr
   obtain ⟨x', hx, y', hy, e⟩ := hr
   cases e
   exact .mini h hx hy
  ·cases hr; exact .bad
 ·split at hr
  ·rename_i h1 h2
   have e1 := arr1 h1
   have e2 := arr1 h2
   subst e1 e2
   simp only [Option.bind_eq_some_iff] at hr
   obtain ⟨x', hx, hr⟩ := hr
   split at hr <;> cases hr
   ·rename_i hu; exact .cap h hx hu
   ·exact .bad
  ·cases hr
 ·split at hr
  ·rename_i h1 h2
   have e1 := arr2 h1
   have e2 := arr2 h2
   subst e1 e2
   split at hr
   ·rename_i hu
    simp only [Option.bind_eq_some_iff] at hr
    obtain ⟨sz, hs, x', hx, y', hy, e⟩ := hr
    cases e
    exact .copyO h hx hy hu hs
   ·cases hr; exact .bad
  ·cases hr
 ·split at hr
  ·rename_i h1 h2
   have e1 := arr1 h1
   have e2 := arr1 h2
   subst e1 e2
   split at hr
   ·rename_i hu
    simp only [Option.bind_eq_some_iff] at hr
    obtain ⟨z, hz, x', hx, e⟩ := hr
    split at e
    ·rename_i hzc
     split at e
     ·rename_i h1'
      cases e
      exact .clearS h hx hu (Option.bind_eq_some_iff.2 hz) hzc h1'
     ·cases e; exact .bad
    ·cases e; exact .bad
   ·cases hr; exact .bad
  ·cases hr
 ·split at hr
  ·rename_i h1 h2
   have e1 := arr2 h1
   have e2 := arr2 h2
   subst e1 e2
   split at hr
   ·rename_i et
    subst et
    split at hr
    ·rename_i hu
     simp only [Option.bind_eq_some_iff] at hr
     obtain ⟨i, hi, z, hz, x', hx, y', hy, hr⟩ := hr
     split at hr
     ·rename_i hc
      cases hr
      exact .append h hx hy hu hi hz hc.1 hc.2
     ·cases hr
    ·cases hr
   ·split at hr
    ·rename_i hu'
     split at hr
     ·rename_i hu
      simp only [Option.bind_eq_some_iff] at hr
      obtain ⟨i, hi, z, hz, x', hx, y', hy, hr⟩ := hr
      split at hr
      ·rename_i hc
       cases hr
       exact .appendZ h hx hy hu hu' hi hz hc.1 hc.2
      ·cases hr
     ·cases hr
    ·cases hr; exact .bad
  ·cases hr
 ·cases hr; exact .bad

def comp (P : Program) (o : Oper) : Option ROp :=
 match o.op with
 | .move x => (cA x).bind fun x' => some (.mv x')
 | .assign x => (cA x).bind fun x' => some (.mv x')
 | .pick c a b => (cA c).bind fun c' => (cA a).bind fun a' => (cA b).bind fun b' => some (.pick c' a' b')
 | .binOp op t x y _ => cBin P o op t x y
 | .unOp .not _ x => (cA x).bind fun x' => some (.notb x')
 | .convert src dst x => (cA x).bind fun x' => match P.underlying src, P.underlying dst with
  | some _, some (.int k) => some (.conv k x')
  | _, _ => some .bad
 | .fieldAddr s x f => cFaddr P s x f
 | .indexAddr t x i => cIaddr P t x i
 | .nilCheck x => (cA x).bind fun x' => some (.nilck x')
 | .extract x k => (cA x).bind fun x' => some (.extract k x')
 | .field s x f => cField P s x f
 | .load t x => cLoad P t x
 | .store t x v => (cA x).bind fun x' => (cA v).bind fun v' => (szP P t).bind fun sz => some (.store sz x' v')
 | .box T x => (cA x).bind fun x' => some (.box T x')
 | .alloc T => (zeroP P T).bind fun z => some (.alloc T z.cells.toList)
 | .build t parts => cBuild P t parts
 | .buildSlice t n parts => cBuildSl P t n parts
 | .makeFunc (.func f) first caps => (cAs first.toList).bind fun fs => (cAs caps.toList).bind fun cs => some (.mkfn f fs cs)
 | .makeSlice t x y => cMakeSl P t x y
 | .slice t x lo hi mx => cSlice P t x lo hi mx
 | .call c => cCall P o c
 | .index t x i => cIdx P t x i
 | _ => some .bad

theorem comp_ok {o : Oper} {r : ROp} (h : comp P o = some r) : Cmp P o r := by
 unfold comp at h
 split at h
 ·rename_i x hop; simp only [Option.bind_eq_some_iff] at h; obtain ⟨x', hx, e⟩ := h; cases e; exact .mv (.inl hop) hx
 ·rename_i x hop; simp only [Option.bind_eq_some_iff] at h; obtain ⟨x', hx, e⟩ := h; cases e; exact .mv (.inr hop) hx
 ·rename_i hop; simp only [Option.bind_eq_some_iff] at h; obtain ⟨c', hc, a', ha, b', hb, e⟩ := h; cases e; exact .pick hop hc ha hb
 ·rename_i hop; exact cBin_ok hop h
 ·rename_i hop; simp only [Option.bind_eq_some_iff] at h; obtain ⟨x', hx, e⟩ := h; cases e; exact .notb hop hx
 ·rename_i hop
  simp only [Option.bind_eq_some_iff] at h
  obtain ⟨x', hx, h⟩ := h
  split at h
  ·rename_i h1 h2; cases h; exact .conv hop hx h1 h2
  ·cases h; exact .bad
 ·rename_i hop; exact cFaddr_ok hop h
 ·rename_i hop; exact cIaddr_ok hop h
 ·rename_i hop; simp only [Option.bind_eq_some_iff] at h; obtain ⟨x', hx, e⟩ := h; cases e; exact .nilck hop hx
 ·rename_i hop; simp only [Option.bind_eq_some_iff] at h; obtain ⟨x', hx, e⟩ := h; cases e; exact .extract hop hx
 ·rename_i hop; exact cField_ok hop h
 ·rename_i hop; exact cLoad_ok hop h
 ·rename_i hop; simp only [Option.bind_eq_some_iff] at h; obtain ⟨x', hx, v', hv, sz, hs, e⟩ := h; cases e; exact .store hop hx hv hs
 ·rename_i hop; simp only [Option.bind_eq_some_iff] at h; obtain ⟨x', hx, e⟩ := h; cases e; exact .box hop hx
 ·rename_i hop; simp only [Option.bind_eq_some_iff] at h; obtain ⟨z, hz, e⟩ := h; cases e; exact .alloc hop hz
 ·rename_i hop; exact cBuild_ok hop h
 ·rename_i hop; exact cBuildSl_ok hop h
 ·rename_i hop; simp only [Option.bind_eq_some_iff] at h; obtain ⟨fs, hf, cs, hc, e⟩ := h; cases e; exact .mkfn hop hf hc
 ·rename_i hop; exact cMakeSl_ok hop h
 ·rename_i hop; exact cSlice_ok hop h
 ·rename_i hop; exact cCall_ok hop h
 ·rename_i hop; exact cIdx_ok hop h
 ·cases h; exact .bad

end Go.EV

namespace Go.EV
variable {P : Program}

def findPick (ops : Array Oper) (s : Nat) (g : Option (Nat × Bool)) : Nat → Nat → Option Nat
 | _, 0 => none
 | i, n + 1 => match ops[i]? with
  | some o => if o.guard = g then (match o.op with
    | .pick (.tmp s') _ _ => if s' = s then some i else findPick ops s g (i + 1) n
    | _ => findPick ops s g (i + 1) n) else findPick ops s g (i + 1) n
  | none => none

def pickOf (want : Bool) (s : Nat) : Op → Option Operand
 | .pick (.tmp s') x y => if s' = s then (if want then (match y with | .const (.bool false) => some x | _ => none) else (match x with | .const (.bool true) => some y | _ => none)) else none
 | _ => none

theorem pickOf_ok {want : Bool} {s : Nat} {op : Op} {x : Operand} (h : pickOf want s op = some x) : op = if want then .pick (.tmp s) x (.const (.bool false)) else .pick (.tmp s) (.const (.bool true)) x := by
 unfold pickOf at h
 split at h
 ·split at h
  ·rename_i e
   subst e
   split at h
   ·rename_i hw
    split at h
    ·cases h; simp [hw]
    ·cases h
   ·rename_i hw
    split at h
    ·cases h; simp [hw]
    ·cases h
  ·cases h
 ·cases h

def okG (g : Option (Nat × Bool)) (i : Nat) : Bool :=
 match g with
 | none => true
 | some p => decide (p.1 < i)

theorem okG_ok {g : Option (Nat × Bool)} {i : Nat} (h : okG g i = true) : ∀ p, g = some p → p.1 < i := by
 intro p e; subst e; simpa [okG] using h

def isDefer : Op → Bool
 | .defer _ => true
 | _ => false

def dstOk (d : Option Nat) (nt : Nat) : Bool :=
 match d with
 | none => true
 | some d => decide (d < nt)

def inOk (g : Option (Nat × Bool)) (og : Oper) (i0 gi : Nat) : Bool :=
 match g with
 | none => true
 | some _ => decide (i0 ≤ gi) && decide (og.guard = g)

def compS (P : Program) (ops : Array Oper) (nt : Nat) : Nat → Option (Nat × Bool) → Nat → Nat → Nat → Option Sts
 | 0, _, _, _, _ => none
 | fuel + 1, g, i0, i, j =>
  if i = j then some .nil else
  (ops[i]?).bind fun o =>
  if o.guard = g then
   (if (okG g i && dstOk o.dst nt && !isDefer o.op) = true then (comp P o).bind fun r => (compS P ops nt fuel g i0 (i + 1) j).bind fun rest => some (.op o.dst r rest) else none)
  else match o.guard with
   | none => none
   | some (gi, want) => (ops[gi]?).bind fun og => og.dst.bind fun s => (findPick ops s g i (j - i)).bind fun m => (ops[m]?).bind fun p => p.dst.bind fun d =>
     (pickOf want s p.op).bind fun x => (cA x).bind fun last =>
     if (decide (gi < i) && inOk g og i0 gi && okG g i && decide (p.guard = g) && decide (d < nt)) = true then
      (compS P ops nt fuel (some (gi, want)) i i m).bind fun body => (compS P ops nt fuel g i0 (m + 1) j).bind fun rest => some (.cnd s want body d last rest)
     else none

theorem compS_ok {ops : Array Oper} {nt : Nat} : ∀ {fuel : Nat} {g : Option (Nat × Bool)} {i0 i j : Nat} {sts : Sts}, compS P ops nt fuel g i0 i j = some sts → CmpS P ops nt g i0 i j sts
 | 0, g, i0, i, j, sts, h => by simp [compS] at h
 | fuel + 1, g, i0, i, j, sts, h => by
  unfold compS at h
  split at h
  ·rename_i e; cases h; subst e; exact .nil
  ·simp only [Option.bind_eq_some_iff] at h
   obtain ⟨o, ho, h⟩ := h
   split at h
   ·rename_i hg
    split at h
    ·rename_i hc
     simp only [Bool.and_eq_true] at hc
     obtain ⟨⟨h1, h2⟩, h3⟩ := hc
     simp only [Option.bind_eq_some_iff] at h
     obtain ⟨r, hr, rest, hrest, e⟩ := h
     cases e
     refine .op ho hg (okG_ok h1) (comp_ok hr) ?_ ?_ (compS_ok hrest)
     ·intro c e; simp [isDefer, e] at h3
     ·intro d e; simpa [dstOk, e] using h2
    ·cases h
   ·split at h
    ·cases h
    ·rename_i gi want hgd
     simp only [Option.bind_eq_some_iff] at h
     obtain ⟨og, hog, s, hs, m, hm, p, hp, d, hd, x, hx, last, hl, h⟩ := h
     split at h
     ·rename_i hc
      simp only [Bool.and_eq_true, decide_eq_true_eq] at hc
      obtain ⟨⟨⟨⟨h1, h2⟩, h3⟩, h4⟩, h5⟩ := hc
      simp only [Option.bind_eq_some_iff] at h
      obtain ⟨body, hb, rest, hr, e⟩ := h
      cases e
      refine .cnd hog hs h1 ?_ (okG_ok h3) (compS_ok hb) hp h4 (pickOf_ok hx) hl hd h5 (compS_ok hr)
      intro hsome
      cases g with
      | none => simp at hsome
      | some q => simpa [inOk] using h2
     ·cases h

def oneDstB (ops : Array Oper) : Bool :=
 (List.range ops.size).all fun t => (List.range ops.size).all fun t' =>
  t == t' || (match (ops[t]?).bind (·.dst), (ops[t']?).bind (·.dst) with | some d, some d' => !(d == d') | _, _ => true)

theorem oneDst_ok {ops : Array Oper} (h : oneDstB ops = true) : OneDst ops := by
 intro t t' o o' d ho ho' hd hd'
 have h1 : t < ops.size := (Array.getElem?_eq_some_iff.1 ho).1
 have h2 : t' < ops.size := (Array.getElem?_eq_some_iff.1 ho').1
 have h3 := List.all_eq_true.1 (List.all_eq_true.1 h t (List.mem_range.2 h1)) t' (List.mem_range.2 h2)
 simpa [ho, ho', hd, hd'] using h3

def guardV (ops : Array Oper) (V : List Nat) : Bool :=
 ops.toList.all fun o => match o.guard, o.dst with | some _, some d => !V.contains d | _, _ => true

theorem guardV_ok {ops : Array Oper} {V : List Nat} (h : guardV ops V = true) : ∀ (t : Nat) (o : Oper) (d : Nat), ops[t]? = some o → o.dst = some d → o.guard ≠ none → d ∉ V := by
 intro t o d ho hd hg hm
 have := List.all_eq_true.1 h o (by simpa using Array.mem_of_getElem? ho)
 cases hgg : o.guard with
 | none => exact hg hgg
 | some g => simp [hgg, hd, hm] at this


def depsIn (o : Oper) (D : Nat) : Bool := o.after.toList.all fun e => !Region.binds .any e || bit D e.on

theorem depsIn_ok {ops : Array Oper} {i D : Nat} {o : Oper} (ho : ops[i]? = some o) (h : depsIn o D = true) : ∀ p, dep ops p i → bit D p = true := by
 rintro p ⟨o', ho', e, he, hb, rfl⟩
 rw [ho] at ho'; cases ho'
 have := List.all_eq_true.1 h e he
 simpa [hb] using this

theorem depsIn_no {ops : Array Oper} {i D : Nat} {o : Oper} (ho : ops[i]? = some o) (h : depsIn o D = false) : ∃ p, dep ops p i ∧ bit D p = false := by
 simp only [depsIn, List.all_eq_false] at h
 obtain ⟨e, he, h⟩ := h
 simp at h
 exact ⟨e.on, ⟨o, ho, e, he, h.1, rfl⟩, h.2⟩

def upMask (l : List Nat) (o : Oper) : Nat := o.after.toList.foldl (fun m e => if Region.binds .any e then m ||| (1 <<< e.on) ||| l.getD e.on 0 else m) 0

def ups (ops : Array Oper) : Nat → List Nat
 | 0 => []
 | n + 1 => let l := ups ops n; l ++ [match ops[n]? with | some o => upMask l o | none => 0]

theorem ups_length (ops : Array Oper) : ∀ n, (ups ops n).length = n
 | 0 => rfl
 | n + 1 => by simp [ups, ups_length ops n]

theorem upMask_ok {ops : Array Oper} {n : Nat} {o : Oper} (ho : ops[n]? = some o) {l : List Nat} (hl : ∀ i j, bit (l.getD j 0) i = true → Bef ops i j) {i : Nat} (h : bit (upMask l o) i = true) : Bef ops i n := by
 have key : ∀ (es : List Edge) (m : Nat), (∀ e ∈ es, e ∈ o.after.toList) → (bit m i = true → Bef ops i n) → bit (es.foldl (fun m e => if Region.binds .any e then m ||| (1 <<< e.on) ||| l.getD e.on 0 else m) m) i = true → Bef ops i n := by
  intro es
  induction es with
  | nil => intro m _ hm h; exact hm h
  | cons e es ih =>
   intro m hes hm h
   refine ih _ (fun e' he' => hes e' (by simp [he'])) ?_ h
   intro hb
   dsimp only at hb
   split at hb
   ·rename_i hbd
    simp only [bit, Nat.testBit_or, Nat.one_shiftLeft, Nat.testBit_two_pow, Bool.or_eq_true, decide_eq_true_eq] at hb
    have hd : dep ops e.on n := ⟨o, ho, e, hes e (by simp), hbd, rfl⟩
    rcases hb with (hb | hb) | hb
    ·exact hm hb
    ·subst hb; exact .one hd
    ·exact .step (hl _ _ hb) hd
   ·exact hm hb
 exact key o.after.toList 0 (fun e he => he) (fun h => by simp [bit] at h) h

theorem ups_ok {ops : Array Oper} : ∀ n i j, bit ((ups ops n).getD j 0) i = true → Bef ops i j := by
 intro n
 induction n with
 | zero => intro i j h; simp [ups, bit] at h
 | succ n ih =>
  intro i j h
  have hlen := ups_length ops n
  simp only [ups, List.getD_eq_getElem?_getD] at h
  by_cases hj : j < n
  ·rw [List.getElem?_append_left (by omega)] at h
   exact ih i j (by rw [List.getD_eq_getElem?_getD]; exact h)
  ·by_cases e : j = n
   ·subst e
    rw [List.getElem?_append_right (by omega), hlen, Nat.sub_self] at h
    simp only [List.getElem?_cons_zero, Option.getD_some] at h
    split at h
    ·rename_i o ho; exact upMask_ok ho ih h
    ·simp [bit] at h
   ·rw [List.getElem?_eq_none (by simp [hlen]; omega)] at h
    simp [bit] at h

/-- An order in which all can be listed. -/
def liveB (md : Region.Mode) (ops : Array Oper) : List Nat → Nat → Bool
 | [], D => (List.range ops.size).all fun i => bit D i
 | i :: l, D => match ops[i]? with
  | some o => (o.after.toList.all fun e => !Region.binds md e || bit D e.on) && liveB md ops l (bset D i)
  | none => false

theorem liveB_ok {md : Region.Mode} {ops : Array Oper} {listed : Array Bool} (hsz : listed.size = ops.size) (hr : Region.ready md ops listed = []) : ∀ {l : List Nat} {D : Nat}, liveB md ops l D = true → (∀ i, bit D i = true → listed.getD i false = true) →
  ∀ i, i < ops.size → listed.getD i false = true
 | [], D, h, hD, i, hi => hD i (List.all_eq_true.1 h i (List.mem_range.2 hi))
 | x :: l, D, h, hD, i, hi => by
  simp only [liveB] at h
  split at h
  ·rename_i o ho
   simp only [Bool.and_eq_true] at h
   refine liveB_ok hsz hr h.2 ?_ i hi
   intro j hj
   rw [bit_bset] at hj
   rcases setL_or hj with rfl | hj
   ·cases hl : listed.getD j false with
    | true => rfl
    | false =>
     exfalso
     have hlt : j < listed.size := by have := (Array.getElem?_eq_some_iff.1 ho).1; omega
     have := ready_of (md := md) (listed := listed) ho (by simpa [Array.getD_eq_getD_getElem?, hlt] using hl) (fun e he hb => hD _ (by
      have := List.all_eq_true.1 h.1 e he
      simpa [hb] using this))
     rw [hr] at this; cases this
   ·exact hD j hj
  ·cases h

def ordL (md : Region.Mode) (ops : Array Oper) : Nat → Nat → List Nat
 | 0, _ => []
 | fuel + 1, D => match (List.range ops.size).find? fun i => !bit D i && (match ops[i]? with | some o => o.after.toList.all fun e => !Region.binds md e || bit D e.on | none => false) with
  | some i => i :: ordL md ops fuel (bset D i)
  | none => []

def liveAll (ops : Array Oper) : Bool :=
 liveB .any ops (ordL .any ops ops.size 0) 0 && liveB .text ops (ordL .text ops ops.size 0) 0 && liveB .gc ops (ordL .gc ops ops.size 0) 0

theorem liveAll_ok {ops : Array Oper} (h : liveAll ops = true) (md : Region.Mode) (listed : Array Bool) (hsz : listed.size = ops.size) (hr : Region.ready md ops listed = []) : ∀ i, i < ops.size → listed.getD i false = true := by
 simp only [liveAll, Bool.and_eq_true] at h
 obtain ⟨⟨h1, h2⟩, h3⟩ := h
 cases md
 ·exact liveB_ok hsz hr h2 (by simp [bit])
 ·exact liveB_ok hsz hr h3 (by simp [bit])
 ·exact liveB_ok hsz hr h1 (by simp [bit])

def planB (ops : Array Oper) (nt : Nat) (us : List Nat) : Bool :=
 oneDstB ops && liveAll ops && (ops.toList.all fun o => dstOk o.dst nt && (match o.op with | .select _ _ => false | .defer _ => false | _ => true)) &&
 (List.range ops.size).all fun i => match ops[i]? with
  | none => true
  | some o => (o.after.toList.all fun e => !Region.binds .any e || decide (e.on < i)) &&
   (o.looksAt ops).all fun t => (List.range ops.size).all fun j => match (ops[j]?).bind (·.dst) with
    | some d => !(d == t) || bit (us.getD i 0) j || bit (us.getD j 0) i
    | none => true

theorem planB_ok {ops : Array Oper} {nt n : Nat} (h : planB ops nt (ups ops n) = true) : Plan ops nt := by
 simp only [planB, Bool.and_eq_true] at h
 obtain ⟨⟨⟨h1, hlive⟩, h2⟩, h3⟩ := h
 have hall : ∀ (i : Nat) (o : Oper), ops[i]? = some o → (∀ d, o.dst = some d → d < nt) ∧ (∀ cs b, o.op ≠ .select cs b) ∧ (∀ c, o.op ≠ .defer c) := by
  intro i o ho
  have := List.all_eq_true.1 h2 o (by simpa using Array.mem_of_getElem? ho)
  simp only [Bool.and_eq_true] at this
  refine ⟨fun d hd => by simpa [dstOk, hd] using this.1, fun cs b e => by simp [e] at this, fun c e => by simp [e] at this⟩
 have h3' : ∀ (i : Nat) (o : Oper), ops[i]? = some o → (∀ e ∈ o.after.toList, Region.binds .any e = true → e.on < i) ∧
   ∀ t ∈ o.looksAt ops, ∀ (j : Nat) (oj : Oper), ops[j]? = some oj → oj.dst = some t → Bef ops j i ∨ Bef ops i j := by
  intro i o ho
  have hi : i < ops.size := (Array.getElem?_eq_some_iff.1 ho).1
  have := List.all_eq_true.1 h3 i (List.mem_range.2 hi)
  simp only [ho, Bool.and_eq_true] at this
  refine ⟨fun e he hb => ?_, fun t ht j oj hj hd => ?_⟩
  ·have := List.all_eq_true.1 this.1 e he
   simpa [hb] using this
  ·have hj' : j < ops.size := (Array.getElem?_eq_some_iff.1 hj).1
   have := List.all_eq_true.1 (List.all_eq_true.1 this.2 t ht) j (List.mem_range.2 hj')
   simp only [hj, Option.bind_some, hd, beq_self_eq_true, Bool.not_true, Bool.false_or, Bool.or_eq_true] at this
   exact this.imp (ups_ok n _ _) (ups_ok n _ _)
 have hdown : ∀ i j, dep ops i j → i < j := by
  rintro i j ⟨o, ho, e, he, hb, rfl⟩
  exact (h3' j o ho).1 e he hb
 have hdown' : ∀ i j, Bef ops i j → i < j := by
  intro i j hb
  induction hb with
  | one h => exact hdown _ _ h
  | step _ hd ih => exact Nat.lt_trans ih (hdown _ _ hd)
 refine ⟨?_, fun i hb => by have := hdown' i i hb; omega, oneDst_ok h1, fun i o d ho hd => (hall i o ho).1 d hd, fun i o ho => (hall i o ho).2, liveAll_ok hlive⟩
 intro i j oi oj t hi hj hd ht
 exact (h3' i oi hi).2 t ht j oj hj hd

def inOkB (g : Option (Nat × Bool)) (og : Oper) (D0 gi : Nat) : Bool :=
 match g with
 | none => true
 | some _ => decide (og.guard = g) && !bit D0 gi

/-- The quiet ones that may come now, in the order of the text. -/
def takeQ (P : Program) (ops : Array Oper) (Q : List Nat) : Nat → Option (Nat × Bool) → Bool → Nat → Nat → Nat → Nat → Option (QL × Nat)
 | 0, _, _, _, _, _, _ => none
 | fuel + 1, g, must, D0, i, j, D =>
  if j ≤ i then some (.nil, D) else
  if bit D i = true then takeQ P ops Q fuel g must D0 (i + 1) j D else
  (ops[i]?).bind fun o =>
  if o.guard = g then
   (comp P o).bind fun r =>
   if (depsIn o D && quietR Q r) = true then (takeQ P ops Q fuel g must D0 (i + 1) j (bset D i)).bind fun q => some (.op i o.dst r q.1, q.2)
   else if must = true then none else takeQ P ops Q fuel g must D0 (i + 1) j D
  else match o.guard with
   | none => none
   | some (gi, want) => (ops[gi]?).bind fun og => og.dst.bind fun s => (findPick ops s g i (j - i)).bind fun m => (ops[m]?).bind fun p => p.dst.bind fun d =>
     (pickOf want s p.op).bind fun x => (cA x).bind fun last =>
     match (if bit D gi = true then takeQ P ops Q fuel (some (gi, want)) true D i m D else none) with
     | some q =>
      if (inOkB g og D0 gi && decide (p.guard = g) && !bit q.2 m && depsIn p q.2) = true then
       (takeQ P ops Q fuel g must D0 (m + 1) j (bset q.2 m)).bind fun q' => some (.g s want q.1 m d last q'.1, q'.2)
      else none
     | none => if must = true then none else takeQ P ops Q fuel g must D0 (m + 1) j D

theorem takeQ_ok {ops : Array Oper} {nt : Nat} {Q : List Nat} : ∀ {fuel : Nat} {g : Option (Nat × Bool)} {must : Bool} {D0 i j D : Nat} {q : QL × Nat}, takeQ P ops Q fuel g must D0 i j D = some q → CmpQL P ops nt Q g D0 D q.1 q.2
 | 0, g, must, D0, i, j, D, q, h => by simp [takeQ] at h
 | fuel + 1, g, must, D0, i, j, D, q, h => by
  unfold takeQ at h
  split at h
  ·cases h; exact .nil
  ·split at h
   ·exact takeQ_ok h
   ·rename_i hD
    simp only [Option.bind_eq_some_iff] at h
    obtain ⟨o, ho, h⟩ := h
    split at h
    ·rename_i hg
     simp only [Option.bind_eq_some_iff] at h
     obtain ⟨r, hr, h⟩ := h
     split at h
     ·rename_i hc
      simp only [Bool.and_eq_true] at hc
      simp only [Option.bind_eq_some_iff] at h
      obtain ⟨q', hq', e⟩ := h
      cases e
      exact .op ho hg (by simpa using hD) (depsIn_ok ho hc.1) (comp_ok hr) hc.2 (takeQ_ok hq')
     ·split at h
      ·cases h
      ·exact takeQ_ok h
    ·split at h
     ·cases h
     ·rename_i gi want hgd
      simp only [Option.bind_eq_some_iff] at h
      obtain ⟨og, hog, s, hs, m, hm, p, hp, d, hd, x, hx, last, hl, h⟩ := h
      split at h
      ·rename_i q1 hq1
       split at hq1
       ·rename_i hgi
        split at h
        ·rename_i hc
         simp only [Bool.and_eq_true, decide_eq_true_eq, Bool.not_eq_true'] at hc
         obtain ⟨⟨⟨h1, h2⟩, h3⟩, h4⟩ := hc
         simp only [Option.bind_eq_some_iff] at h
         obtain ⟨q', hq', e⟩ := h
         cases e
         refine .g hog hs hgi ?_ (takeQ_ok hq1) hp h2 h3 (depsIn_ok hp h4) (pickOf_ok hx) hl hd (takeQ_ok hq')
         intro hsome
         cases g with
         | none => simp at hsome
         | some q => simpa [inOkB] using h1
        ·cases h
       ·cases hq1
      ·split at h
       ·cases h
       ·exact takeQ_ok h

def quietO (P : Program) (Q : List Nat) (o : Oper) : Bool := match comp P o with | some r => quietR Q r | none => false

/-- A guarded one that may come now. -/
def nextG (P : Program) (ops : Array Oper) (Q : List Nat) (Γ : Gam) (D : Nat) : Option (Nat × Oper × Nat × Bool) :=
 (List.range ops.size).findSome? fun i => if bit D i = true then none else match ops[i]? with
  | some o => match o.guard with
   | some (gi, want) => if (depsIn o D && bit D gi && (!Γ.contains (gi, some want) || quietO P Q o)) = true then some (i, o, gi, want) else none
   | none => none
  | none => none

theorem nextG_ok {ops : Array Oper} {Q : List Nat} {Γ : Gam} {D : Nat} {i gi : Nat} {o : Oper} {want : Bool} (h : nextG P ops Q Γ D = some (i, o, gi, want)) : ops[i]? = some o ∧ o.guard = some (gi, want) ∧ bit D i = false ∧ depsIn o D = true ∧ bit D gi = true := by
 obtain ⟨j, _, h⟩ := List.exists_of_findSome?_eq_some h
 split at h
 ·cases h
 ·rename_i hD
  split at h
  ·rename_i o' ho
   split at h
   ·rename_i gi' want' hg
    split at h
    ·rename_i hc
     simp only [Bool.and_eq_true] at hc
     cases h
     exact ⟨ho, hg, by simpa using hD, hc.1.1, hc.1.2⟩
    ·cases h
   ·cases h
  ·cases h

def guardIn (Γ : Gam) (g : Option (Nat × Bool)) : Bool :=
 match g with
 | none => true
 | some p => Γ.contains (p.1, some p.2)

theorem guardIn_ok {Γ : Gam} {g : Option (Nat × Bool)} (h : guardIn Γ g = true) : ∀ p, g = some p → (p.1, some p.2) ∈ Γ := by
 intro p e
 subst e
 simpa [guardIn] using h

def mkT (P : Program) (ops : Array Oper) (Q : List Nat) (us : List Nat) : Nat → Gam → Option Nat → Nat → Option AT
 | 0, _, _, _ => none
 | fuel + 1, Γ, none, D => (takeQ P ops Q (ops.size + 1) none false D 0 ops.size D).bind fun q =>
   if ((List.range ops.size).all fun i => bit q.2 i) = true then some (.q q.1 .fin) else
   match nextG P ops Q Γ q.2 with
   | some (i, o, gi, want) => match Γ.find? fun p => p.1 == gi with
    | some (gj, x) => if gj = gi ∧ (gj, x) ∈ Γ then
      (if x = some want then (comp P o).bind fun r => if quietR Q r = true then (mkT P ops Q us fuel Γ none (bset q.2 i)).bind fun t => some (.q q.1 (.q (.op i o.dst r .nil) t))
        else (mkT P ops Q us fuel Γ (some 0) q.2).bind fun t => some (.q q.1 t)
       else (mkT P ops Q us fuel (if o.dst.isSome = true then (i, none) :: Γ else Γ) none (bset q.2 i)).bind fun t => some (.q q.1 (.sk i o.dst t)))
      else none
    | none => (ops[gi]?).bind fun og => og.dst.bind fun s => (mkT P ops Q us fuel ((gi, some true) :: Γ) none q.2).bind fun y => (mkT P ops Q us fuel ((gi, some false) :: Γ) none q.2).bind fun n => some (.q q.1 (.br s y n))
   | none => (mkT P ops Q us fuel Γ (some 0) q.2).bind fun t => some (.q q.1 t)
 | fuel + 1, Γ, some i, D =>
   if ops.size ≤ i then some .no else
   if bit D i = true then mkT P ops Q us fuel Γ (some (i + 1)) D else
   (ops[i]?).bind fun o =>
   if depsIn o D = true then
    if guardIn Γ o.guard = true then (comp P o).bind fun r => (mkT P ops Q us fuel Γ none (bset D i)).bind fun t => (mkT P ops Q us fuel Γ (some (i + 1)) D).bind fun more =>
     some (.s i o.dst r (Nat.land D (us.getD i 0) == D) t more) else none
   else mkT P ops Q us fuel Γ (some (i + 1)) D

theorem mkT_ok {ops : Array Oper} {nt n : Nat} {Q : List Nat} : ∀ {fuel : Nat} {Γ : Gam} {mode : Option Nat} {D : Nat} {t : AT}, mkT P ops Q (ups ops n) fuel Γ mode D = some t → CmpA P ops nt Q Γ mode D t
 | 0, Γ, mode, D, t, h => by simp [mkT] at h
 | fuel + 1, Γ, none, D, t, h => by
  simp only [mkT, Option.bind_eq_some_iff] at h
  obtain ⟨q, hq, h⟩ := h
  have hnone : ∀ p : Nat × Bool, (none : Option (Nat × Bool)) = some p → (p.1, some p.2) ∈ Γ := fun p e => by cases e
  split at h
  ·rename_i hall
   cases h
   exact .q hnone (takeQ_ok hq) (.fin fun i hi => List.all_eq_true.1 hall i (List.mem_range.2 hi))
  ·rename_i hall
   have hne : ∃ i, i < ops.size ∧ bit q.2 i = false := by
    have hall : ((List.range ops.size).all fun i => bit q.2 i) = false := by simpa using hall
    obtain ⟨i, hi, hb⟩ := List.all_eq_false.1 hall
    exact ⟨i, List.mem_range.1 hi, by simpa using hb⟩
   split at h
   ·rename_i i o gi want hn
    obtain ⟨ho, hg, hD, hdep, hgD⟩ := nextG_ok hn
    split at h
    ·rename_i gj x _
     split at h
     ·rename_i hc
      obtain ⟨rfl, hmem⟩ := hc
      split at h
      ·rename_i hx
       subst hx
       simp only [Option.bind_eq_some_iff] at h
       obtain ⟨r, hr, h⟩ := h
       split at h
       ·rename_i hqr
        simp only [Option.bind_eq_some_iff] at h
        obtain ⟨t', ht', e⟩ := h
        cases e
        refine .q hnone (takeQ_ok hq) (.q (g := some (gj, want)) (fun p e => by cases e; exact hmem) (.op ho hg hD (depsIn_ok ho hdep) (comp_ok hr) hqr .nil) (mkT_ok ht'))
       ·simp only [Option.bind_eq_some_iff] at h
        obtain ⟨t', ht', e⟩ := h
        cases e
        exact .q hnone (takeQ_ok hq) (.alts hne (mkT_ok ht'))
      ·rename_i hx
       simp only [Option.bind_eq_some_iff] at h
       obtain ⟨t', ht', e⟩ := h
       cases e
       refine .q hnone (takeQ_ok hq) (.sk ho hg hmem hx hD (depsIn_ok ho hdep) ?_ (mkT_ok ht'))
       intro y hy
       split at hy
       ·rename_i hs
        rcases List.mem_cons.1 hy with e | hy
        ·exact .inr ⟨e, Option.isSome_iff_exists.1 hs⟩
        ·exact .inl hy
       ·exact .inl hy
     ·cases h
    ·simp only [Option.bind_eq_some_iff] at h
     obtain ⟨og, hog, s, hs, y, hy, n', hn', e⟩ := h
     cases e
     exact .q hnone (takeQ_ok hq) (.br hog hs hgD (mkT_ok hy) (mkT_ok hn'))
   ·simp only [Option.bind_eq_some_iff] at h
    obtain ⟨t', ht', e⟩ := h
    cases e
    exact .q hnone (takeQ_ok hq) (.alts hne (mkT_ok ht'))
 | fuel + 1, Γ, some i, D, t, h => by
  simp only [mkT] at h
  split at h
  ·rename_i hi; cases h; exact .no hi
  ·split at h
   ·rename_i hD; exact .pass (.inl hD) (mkT_ok h)
   ·rename_i hD
    simp only [Option.bind_eq_some_iff] at h
    obtain ⟨o, ho, h⟩ := h
    split at h
    ·split at h
     ·rename_i hg
      simp only [Option.bind_eq_some_iff] at h
      obtain ⟨r, hr, t', ht', more, hm, e⟩ := h
      cases e
      refine .s ho (guardIn_ok hg) (by simpa using hD) (comp_ok hr) ?_ (mkT_ok ht') (mkT_ok hm)
      intro hre j hj
      have e : Nat.land D ((ups ops n).getD i 0) = D := by simpa using hre
      refine ups_ok n _ _ ?_
      have : bit (Nat.land D ((ups ops n).getD i 0)) j = true := by rw [e]; exact hj
      have h2 : bit (D &&& ((ups ops n).getD i 0)) j = true := this
      rw [bit, Nat.testBit_and, Bool.and_eq_true] at h2
      exact h2.2
     ·cases h
    ·rename_i hd
     exact .pass (.inr (depsIn_no ho (by simpa using hd))) (mkT_ok h)

def compC (P : Program) (nt : Nat) (V Q : List Nat) : Code → Option RCode
 | .skip => some .skip
 | .region _ ops false => if (oneDstB ops && guardV ops V) = true then (compS P ops nt (ops.size + 1) none 0 0 ops.size).bind fun s => some (.reg s) else none
 | .region _ ops true => if (planB ops nt (ups ops ops.size) && guardV ops V) = true then (mkT P ops Q (ups ops ops.size) ((ops.size + 2) * (ops.size + 2)) [] none 0).bind fun t => some (.any t) else none
 | .seq a b => (compC P nt V Q a).bind fun a' => (compC P nt V Q b).bind fun b' => some (.seq a' b')
 | .cond c a b => (cA c).bind fun c' => (compC P nt V Q a).bind fun a' => (compC P nt V Q b).bind fun b' => some (.cond c' a' b')
 | .block id c => (compC P nt V Q c).bind fun c' => some (.block id c')
 | .loop c => (compC P nt V Q c).bind fun c' => some (.loop c')
 | .exit id => some (.exit id)
 | .ret => some .ret
 | .rangeFunc f ps a b => (cA f).bind fun f' => (compC P nt V Q a).bind fun a' => (compC P nt V Q b).bind fun b' => if (ps.toList.all fun t => decide (t < nt)) = true then some (.rangeF f' ps.toList a' b') else none
 | _ => none

theorem compC_ok {nt : Nat} {V Q : List Nat} : ∀ {c : Code} {r : RCode}, compC P nt V Q c = some r → CmpC P nt V c r := by
 intro c
 induction c with
 | skip => intro r h; cases h; exact .skip
 | region id ops draw =>
  intro r h
  cases draw with
  | true =>
   simp only [compC] at h
   split at h
   ·rename_i hc
    simp only [Bool.and_eq_true] at hc
    simp only [Option.bind_eq_some_iff] at h
    obtain ⟨t, ht, e⟩ := h
    cases e
    exact .any (planB_ok hc.1) (mkT_ok ht) (guardV_ok hc.2)
   ·cases h
  | false =>
   simp only [compC] at h
   split at h
   ·rename_i hc
    simp only [Bool.and_eq_true] at hc
    simp only [Option.bind_eq_some_iff] at h
    obtain ⟨s, hs, e⟩ := h
    cases e
    exact .reg (compS_ok hs) (oneDst_ok hc.1) (guardV_ok hc.2)
   ·cases h
 | seq a b iha ihb =>
  intro r h
  simp only [compC, Option.bind_eq_some_iff] at h
  obtain ⟨a', ha, b', hb, e⟩ := h
  cases e; exact .seq (iha ha) (ihb hb)
 | cond c a b iha ihb =>
  intro r h
  simp only [compC, Option.bind_eq_some_iff] at h
  obtain ⟨c', hc, a', ha, b', hb, e⟩ := h
  cases e; exact .cond hc (iha ha) (ihb hb)
 | block id c ih =>
  intro r h
  simp only [compC, Option.bind_eq_some_iff] at h
  obtain ⟨c', hc, e⟩ := h
  cases e; exact .block (ih hc)
 | loop c ih =>
  intro r h
  simp only [compC, Option.bind_eq_some_iff] at h
  obtain ⟨c', hc, e⟩ := h
  cases e; exact .loop (ih hc)
 | exit id => intro r h; cases h; exact .exit
 | ret => intro r h; cases h; exact .ret
 | rangeFunc f ps a b iha ihb =>
  intro r h
  simp only [compC, Option.bind_eq_some_iff] at h
  obtain ⟨f', hf, a', ha, b', hb, e⟩ := h
  split at e
  ·rename_i hps
   cases e; exact .rangeF hf (fun t ht => by simpa using List.all_eq_true.1 hps t ht) (iha ha) (ihb hb)
  ·cases e
 | _ => intro r h; cases h

def compR (P : Program) : ResultVar → Option RRes
 | .tmp t => some (.tmp t)
 | .cell t T => match aggT P T with
  | some true => (szP P T).bind fun sz => some (.cellA t sz)
  | some false => some (.cell1 t)
  | none => none

theorem compR_ok {x : ResultVar} {y : RRes} (h : compR P x = some y) : CmpR P x y := by
 cases x with
 | tmp t => cases h; exact .tmp
 | cell t T =>
  simp only [compR] at h
  split at h
  ·rename_i ha
   simp only [Option.bind_eq_some_iff] at h
   obtain ⟨sz, hs, e⟩ := h
   cases e; exact .cellA ha hs
  ·rename_i ha; cases h; exact .cell1 ha
  ·cases h

def compRs (P : Program) : List ResultVar → Option (List RRes)
 | [] => some []
 | x :: l => (compR P x).bind fun y => (compRs P l).bind fun m => some (y :: m)

theorem compRs_ok : ∀ {l : List ResultVar} {m : List RRes}, compRs P l = some m → CmpRs P l m
 | [], m, h => by cases h; exact .nil
 | x :: l, m, h => by
  simp only [compRs, Option.bind_eq_some_iff] at h
  obtain ⟨y, hy, m', hm, e⟩ := h
  cases e; exact .cons (compR_ok hy) (compRs_ok hm)

/-- A function, resolved: its temporaries, its variables, its body, its results. -/
structure RFun where
 nt : Nat
 V : List Nat
 body : RCode
 res : List RRes

def compF (P : Program) (V Q : List Nat) (f : FuncId) : Option RFun :=
 if isGo P f = true then
  (P.funcs[f]?).bind fun fn => fn.body.bind fun c => (compC P fn.ntmps V Q c).bind fun r => (compRs P fn.results.toList).bind fun res => some ⟨fn.ntmps, V, r, res⟩
 else none

/-- The activation of a function: where it is to come is a return of which Φ holds. -/
def Cx.fn (P : Program) (f : FuncId) (nt : Nat) (w0 : World) (F : List Nat) (M0 : PHeap) (Φ : Value → PHeap → Own → Prop) : Cx P where
 b := { (default : Frame) with fn := f, kind := .normal, roundOf := none }
 T := fun cs m => ∃ e w' fr, (∃ v, e = Ending.returned v ∧ ∃ M' G', EV.St w0 F M0 M' G' w' ∧ Φ v M' G') ∧ Comes P m (lone fr cs w') e ∧ fr.fn = f ∧ fr.leaving P w' e
 back := by
  rintro cs m m' hs ⟨e, w', fr, h1, h2, h3, h4⟩
  exact ⟨e, w', fr, h1, Comes.of_steps (.one hs) h2, h3, h4⟩
 nt := nt
 ds := []
 w0 := w0
 F := F
 M0 := M0

def argE : Nat → List Value → Env
 | _, [] => []
 | i, v :: l => (i, v) :: argE (i + 1) l

theorem get_argE {l : List Value} : ∀ {i t : Nat} {v : Value}, get (argE i l) t = some v → i ≤ t ∧ l[t - i]? = some v := by
 induction l with
 | nil => intro i t v h; simp [argE, get] at h
 | cons u l ih =>
  intro i t v h
  simp only [argE, get] at h
  split at h
  ·rename_i e; subst e; cases h; simp
  ·rename_i e
   obtain ⟨h1, h2⟩ := ih h
   refine ⟨by omega, ?_⟩
   have : t - i = (t - (i + 1)) + 1 := by omega
   rw [this]; simpa using h2

/-- A contract out of the walk of the body. -/
theorem Con.enter {f : FuncId} {V Q : List Nat} {R : RFun} (hR : compF P V Q f = some R) {args : List Value} (hlen : args.length ≤ R.nt) {M : PHeap} {G : Own} {Φ : Value → PHeap → Own → Prop}
  (h : ∀ w0, EV (Cx.fn P f R.nt w0 (G.map (·.1)) M Φ) R.V [.code R.body] (argE 0 args) M G) : Con P f args.toArray M G Φ := by
 unfold compF at hR
 split at hR
 ·rename_i hgo
  simp only [Option.bind_eq_some_iff] at hR
  obtain ⟨fn, hfn, c, hc, r, hr, res, hres, e⟩ := hR
  cases e
  refine ⟨hgo, ?_⟩
  intro w hs cs
  have hE := h w [.code c] (.cons (.code (compC_ok hr)) .nil) { tmps := args.toArray ++ Array.replicate (fn.ntmps - args.toArray.size) undef, defers := [] } w
  have hfit : Fits fn.ntmps (argE 0 args) { tmps := args.toArray ++ Array.replicate (fn.ntmps - args.toArray.size) undef, defers := [] } := by
   refine ⟨?_, ?_⟩
   ·simp only [Array.size_append, Array.size_replicate, List.size_toArray]
    dsimp only at hlen
    omega
   ·intro t v ht
    obtain ⟨_, h2⟩ := get_argE ht
    simp only [Nat.sub_zero] at h2
    obtain ⟨hlt, _⟩ := List.getElem?_eq_some_iff.1 h2
    rw [Array.getElem?_append_left (by simpa using hlt)]
    simpa using h2
  have := hE hfit rfl hs cs
  have hframe : Frame.enter P f args.toArray .normal = (Cx.fn P f fn.ntmps w (G.map (·.1)) M Φ).b.atR { tmps := args.toArray ++ Array.replicate (fn.ntmps - args.toArray.size) undef, defers := [] } [.code c] := by
   simp only [Frame.enter, Frame.atR, Cx.fn, hfn, Option.map_some, Option.getD_some, Option.bind_some, hc]
  rw [hframe]
  exact this
 ·cases hR

section
variable {f : FuncId} {w0 : World} {F : List Nat} {M0 M : PHeap} {G : Own} {Φ : Value → PHeap → Own → Prop} {V Q : List Nat} {k : List RItem} {ρ : Env}

/-- What a return asks. -/
def retW (R : RFun) (ρ : Env) (M : PHeap) (G : Own) (Φ : Value → PHeap → Own → Prop) : Prop := resW ρ (M.add G) R.res fun vs => Φ (retV vs) M G

theorem EV.ret {R : RFun} (hR : compF P V Q f = some R) (h : retW R ρ M G Φ) : EV (Cx.fn P f R.nt w0 F M0 Φ) R.V (.code .ret :: k) ρ M G := by
 unfold compF at hR
 split at hR
 ·rename_i hgo
  simp only [Option.bind_eq_some_iff] at hR
  obtain ⟨fn, hfn, c, hc, r, hr, res, hres, e⟩ := hR
  cases e
  intro k' hk a w hf hd hs cs
  cases hk with
  | cons hx hk => cases hx with
   | code hc => cases hc with
    | ret =>
     obtain ⟨v, hv, hΦ⟩ := run_results (P := P) (fn := fn) (Q := fun v => Φ v M G) hf (fun b o hb => hs.agreeAdd hb) (compRs_ok hres) h
     refine ⟨.returned v, w, { (Cx.fn P f fn.ntmps w0 F M0 Φ).b.atR a (.code .ret :: _) with mode := .returning }, ⟨v, rfl, M, G, hs, hΦ⟩, .one (stepR_ret rfl), rfl, ?_⟩
     exact ⟨rfl, hd, rfl, fn, hfn, hv⟩
 ·cases hR

theorem EV.done {R : RFun} (hR : compF P V Q f = some R) (h : retW R ρ M G Φ) : EV (Cx.fn P f R.nt w0 F M0 Φ) R.V [] ρ M G := by
 unfold compF at hR
 split at hR
 ·rename_i hgo
  simp only [Option.bind_eq_some_iff] at hR
  obtain ⟨fn, hfn, c, hc, r, hr, res, hres, e⟩ := hR
  cases e
  intro k' hk a w hf hd hs cs
  cases hk with
  | nil =>
   obtain ⟨v, hv, hΦ⟩ := run_results (P := P) (fn := fn) (Q := fun v => Φ v M G) hf (fun b o hb => hs.agreeAdd hb) (compRs_ok hres) h
   refine ⟨.returned v, w, { (Cx.fn P f fn.ntmps w0 F M0 Φ).b.atR a [] with mode := .returning }, ⟨v, rfl, M, G, hs, hΦ⟩, .one (stepR_end rfl), rfl, ?_⟩
   exact ⟨rfl, hd, rfl, fn, hfn, hv⟩
 ·cases hR

end
end Go.EV

namespace Go.EV

theorem get_nil (i : Nat) : get [] i = none := rfl
theorem get_cons (j : Nat) (v : Value) (ρ : Env) (i : Nat) : get ((j, v) :: ρ) i = if i = j then some v else get ρ i := rfl
theorem norm_nil (ρ : Env) : norm [] ρ = [] := rfl
theorem norm_cons (i : Nat) (V : List Nat) (ρ : Env) : norm (i :: V) ρ = match get ρ i with | some v => (i, v) :: norm V ρ | none => norm V ρ := rfl

attribute [push_cast] yield? qW opW onv_some onv_none ev evs evp evo get_nil get_cons norm_nil norm_cons putE argE binV intV shV strV ptr? adr? sl? int? bool? agg? tup? fn? fillL splice eqL eqLeaf Value.cells oad_none oad_some ocap_none ocap_some resW retV retW
 List.length_cons List.length_nil List.getElem?_cons_zero List.getElem?_cons_succ List.take_succ_cons List.take_zero List.drop_succ_cons List.drop_zero List.nil_append List.cons_append List.take_nil List.drop_nil List.replicate_succ List.replicate_zero List.flatten_cons List.flatten_nil

attribute [push_cast] List.set_cons_zero List.set_cons_succ or_self or_false false_or and_self true_and and_true Nat.zero_add Nat.mul_one Nat.add_zero Bool.false_xor Bool.true_xor if_true if_false Int.toNat_natCast Int.cast_ofNat_Int Int.toNat_zero ne_eq not_true_eq_false not_false_eq_true Value.oneCell' List.size_toArray List.append_assoc List.append_nil Array.append_empty Array.empty_append Nat.le_refl exists_eq_left exists_and_left Nat.zero_le Nat.sub_zero

end Go.EV

namespace Go.EV
variable {P : Program}

theorem w64 {x : Int} (h1 : -9223372036854775808 ≤ x) (h2 : x < 9223372036854775808) : IntKind.i64.wrap x = x := by
 have e : (2 : Int) ^ IntKind.i64.bits = 18446744073709551616 := rfl
 have e2 : (2 : Int) ^ (IntKind.i64.bits - 1) = 9223372036854775808 := rfl
 have e3 : IntKind.i64.signed = true := rfl
 simp only [IntKind.wrap, e, e2, e3, Bool.true_and, decide_eq_true_eq]
 split <;> omega

theorem ok1_nil : ok1 [] ↔ True := by simp [ok1]
theorem ok1_cons (v : Value) (l : List Value) : ok1 (v :: l) ↔ v.oneCell' = true ∧ ok1 l := by simp [ok1]

theorem mem_of_get {ρ : Env} {t : Nat} {v : Value} (h : get ρ t = some v) : (t, v) ∈ ρ := by
 induction ρ with
 | nil => simp [get] at h
 | cons p ρ ih =>
  obtain ⟨j, u⟩ := p
  simp only [get] at h
  split at h
  ·rename_i e; subst e; cases h; simp
  ·exact List.mem_cons_of_mem _ (ih h)

section
variable {C : Cx P} {V : List Nat} {k : List RItem} {ρ ρ' : Env} {M : PHeap} {G G' : Own}

/-- To a smaller state. -/
theorem EV.to (h : EV C V k ρ' M G') (hρ : ∀ p ∈ ρ', get ρ p.1 = some p.2) (hG : G'.Sublist G) : EV C V k ρ M G :=
 h.weaken (fun t v ht => hρ (t, v) (mem_of_get ht)) hG

theorem rd_own {b off n : Nat} {T : TypeId} {cs : List Value} (i : Nat) (h : G[i]? = some (b, Cl T cs)) (hl : off + n ≤ cs.length) : rd (M.add G) b off n ((cs.drop off).take n) :=
 ⟨cs.toArray, T, (0, 0), .inr (List.mem_of_getElem? h), by simpa using hl, by simp⟩

theorem rd_own' {b off n : Nat} {T : TypeId} {cs out : List Value} (i : Nat) (h : G[i]? = some (b, Cl T cs)) (e : (cs.drop off).take n = out) (hl : off + n ≤ cs.length) : rd (M.add G) b off n out :=
 e ▸ rd_own i h hl

theorem rd_M {b off n : Nat} {cs : List Value} (h : rd M b off n cs) : rd (M.add G) b off n cs := h.mono (PHeap.le_add _ _)
theorem rdS_M {sz n : Nat} {a : Option Addr} {cs : List Value} (h : rdS M sz a n cs) : rdS (M.add G) sz a n cs :=
 h.imp id fun ⟨b, off, e, h⟩ => ⟨b, off, e, rd_M h⟩

theorem rdS.mono {H H' : PHeap} (h : H.le H') {sz n : Nat} {a : Option Addr} {cs : List Value} (k : rdS H sz a n cs) : rdS H' sz a n cs :=
 k.imp id fun ⟨b, off, e, k⟩ => ⟨b, off, e, k.mono h⟩

theorem rd.part {H : PHeap} {b off n i m : Nat} {cs : List Value} (h : rd H b off n cs) (hm : i + m ≤ n) : rd H b (off + i) m ((cs.drop i).take m) := by
 obtain ⟨c, T, fz, h1, h2, h3⟩ := h
 refine ⟨c, T, fz, h1, by omega, ?_⟩
 rw [h3, List.drop_take, List.drop_drop, List.take_take, Nat.min_eq_left (by omega)]

end

/-! ### Rows of things -/

/-- A slice of flat things: each takes sz cells. -/
def Sl {α : Type} (H : PHeap) (sz : Nat) (enc : α → List Value) (v : Value) (xs : List α) : Prop :=
 ∃ a c, v = .slice a xs.length c ∧ rdS H sz a xs.length (xs.flatMap enc)

theorem flatMap_part {α : Type} {sz : Nat} {enc : α → List Value} (henc : ∀ x, (enc x).length = sz) : ∀ {xs : List α} {i : Nat} (h : i < xs.length), ((xs.flatMap enc).drop (i * sz)).take sz = enc xs[i]
 | x :: xs, 0, _ => by simp [List.flatMap_cons, ← henc x]
 | x :: xs, i + 1, h => by
  have h' : i < xs.length := by simpa using h
  have := flatMap_part henc h'
  simp only [List.flatMap_cons, List.getElem_cons_succ]
  rw [← this, List.drop_append, List.drop_eq_nil_of_le (by rw [henc, Nat.succ_mul]; omega), List.nil_append, henc, Nat.succ_mul, Nat.add_sub_cancel]

theorem flatMap_length {α : Type} {sz : Nat} {enc : α → List Value} (henc : ∀ x, (enc x).length = sz) : ∀ (xs : List α), (xs.flatMap enc).length = xs.length * sz
 | [] => by simp
 | x :: xs => by simp [List.flatMap_cons, flatMap_length henc xs, henc, Nat.succ_mul, Nat.add_comm]

theorem Sl.at {α : Type} {H : PHeap} {sz : Nat} {enc : α → List Value} (henc : ∀ x, (enc x).length = sz) (hpos : 0 < sz) {a : Option Addr} {xs : List α} (h : rdS H sz a xs.length (xs.flatMap enc)) (hn : 0 < xs.length) :
  ∃ b off, a = some ⟨b, off, none⟩ ∧ ∀ i (hi : i < xs.length), rd H b (off + i * sz) sz (enc xs[i]) := by
 rcases h with ⟨h0, _⟩ | ⟨b, off, e, h⟩
 ·exfalso
  rcases Nat.mul_eq_zero.1 h0 with h0 | h0
  ·rw [h0] at hn; exact absurd hn (by simp)
  ·omega
 ·refine ⟨b, off, e, fun i hi => ?_⟩
  have := h.part (i := i * sz) (m := sz) (by
   have : (i + 1) * sz ≤ xs.length * sz := Nat.mul_le_mul_right _ hi
   rw [Nat.succ_mul] at this; exact this)
  rwa [flatMap_part henc hi] at this

theorem Sl.mono {α : Type} {H H' : PHeap} (hh : H.le H') {sz : Nat} {enc : α → List Value} {v : Value} {xs : List α} (h : Sl H sz enc v xs) : Sl H' sz enc v xs :=
 let ⟨a, c, e, h⟩ := h; ⟨a, c, e, h.mono hh⟩

/-- A slice of slices. -/
def SlSl {α : Type} (H : PHeap) (sz : Nat) (enc : α → List Value) (v : Value) (xss : List (List α)) : Prop :=
 ∃ a c vs, v = .slice a xss.length c ∧ vs.length = xss.length ∧ rdS H 1 a xss.length vs ∧ ∀ i (h : i < vs.length) (h' : i < xss.length), Sl H sz enc vs[i] xss[i]

theorem SlSl.mono {α : Type} {H H' : PHeap} (hh : H.le H') {sz : Nat} {enc : α → List Value} {v : Value} {xss : List (List α)} (h : SlSl H sz enc v xss) : SlSl H' sz enc v xss :=
 let ⟨a, c, vs, e, hl, h, k⟩ := h; ⟨a, c, vs, e, hl, h.mono hh, fun i h h' => (k i h h').mono hh⟩

theorem flatMap_single (vs : List Value) : vs.flatMap (fun v => [v]) = vs := by simp [List.flatMap_singleton']

theorem SlSl.at {α : Type} {H : PHeap} {sz : Nat} {enc : α → List Value} {a : Option Addr} {vs : List Value} {xss : List (List α)} (h : rdS H 1 a xss.length vs) (hl : vs.length = xss.length) (hk : ∀ i (h : i < vs.length) (h' : i < xss.length), Sl H sz enc vs[i] xss[i]) (hn : 0 < xss.length) :
  ∃ b off, a = some ⟨b, off, none⟩ ∧ ∀ i (hi : i < xss.length), ∃ a' c', rd H b (off + i * 1) 1 [.slice a' xss[i].length c'] ∧ rdS H sz a' xss[i].length (xss[i].flatMap enc) := by
 have h1 : rdS H 1 a vs.length (vs.flatMap fun v => [v]) := by rw [flatMap_single, hl]; exact h
 obtain ⟨b, off, e, hr⟩ := Sl.at (sz := 1) (enc := fun v => [v]) (fun _ => rfl) (by omega) h1 (by omega)
 refine ⟨b, off, e, fun i hi => ?_⟩
 have hr' := hr i (by omega)
 obtain ⟨a', c', e', h'⟩ := hk i (by omega) hi
 rw [e'] at hr'
 exact ⟨a', c', hr', h'⟩

attribute [push_cast] ok1_nil ok1_cons

theorem rd_mem {M : PHeap} {G : Own} {b off n : Nat} {T : TypeId} {cs : List Value} (h : (b, Cl T cs) ∈ G) (hl : off + n ≤ cs.length) : rd (M.add G) b off n ((cs.drop off).take n) := by
 obtain ⟨i, hi⟩ := List.mem_iff_getElem?.1 h
 exact rd_own i hi hl


theorem rd_at {M : PHeap} {G : Own} {b off n : Nat} {T : TypeId} {cs out : List Value} (h : (b, Cl T cs) ∈ G) (e : (cs.drop off).take n = out) (hl : off + n ≤ cs.length) : rd (M.add G) b off n out := e ▸ rd_mem h hl

theorem rd_osg {M : PHeap} {G : Own} {sz n : Nat} {T : TypeId} {ov : Vec} {xs : List Value} (hok : osok sz ov n xs) (hM : ∀ p ∈ osg T ov xs, p ∈ G) : rdS (M.add G) sz (oad ov) n xs := by
 cases ov with
 | none =>
  obtain ⟨rfl, rfl⟩ := hok
  exact .inl ⟨by simp, rfl⟩
 | some p =>
  obtain ⟨b, cap, sp⟩ := p
  obtain ⟨h1, h2, h3, h4⟩ := hok
  refine .inr ⟨b, 0, rfl, (xs ++ sp).toArray, T, (0, 0), .inr (hM _ (by simp [osg])), ?_, ?_⟩
  ·simp at h2 ⊢; omega
  ·simp [← h1]

/-- Pieces of a list, one behind the other. -/
def cat {α : Type} : List (List α) → List α
 | [] => []
 | [x] => x
 | x :: y :: l => x ++ cat (y :: l)

theorem cat_cons {α : Type} (x : List α) : ∀ l : List (List α), cat (x :: l) = x ++ cat l
 | [] => by simp [cat]
 | _ :: _ => rfl

theorem cat_pull {α : Type} : ∀ (l : List (List α)) (i : Nat) (h : i < l.length), (cat l).Perm (l[i] ++ cat (l.eraseIdx i))
 | x :: l, 0, _ => by simp [cat_cons]
 | x :: l, i + 1, h => by
  have := cat_pull l i (by simpa using h)
  simp only [cat_cons, List.getElem_cons_succ, List.eraseIdx_cons_succ]
  refine (List.Perm.append_left x this).trans ?_
  rw [← List.append_assoc, ← List.append_assoc]
  exact List.Perm.append_right _ List.perm_append_comm

theorem cat_nil {α : Type} : cat ([] : List (List α)) = [] := rfl
theorem cat_one {α : Type} (x : List α) : cat [x] = x := rfl
theorem cat_two {α : Type} (x y : List α) (l : List (List α)) : cat (x :: y :: l) = x ++ cat (y :: l) := rfl

theorem condQ.mk {c want : Bool} {A : (Bool → Prop) → Prop} {K : Bool → Prop} (e : Bool) (h : c = want → A fun u => u = e) (hk : K (if want then c && e else c || e)) : condQ c want A K := ⟨e, h, hk⟩

theorem condW.intro {c want : Bool} {M : PHeap} {G : Own} {A : (Bool → PHeap → Own → Prop) → Prop} {K : Bool → PHeap → Own → Prop} (h : c = want → A K) (h2 : c ≠ want → K c M G) : condW c want M G A K := ⟨h, h2⟩

theorem mem_of_sub {G G' : Own} (h : G.Sublist G') : ∀ p, p ∈ G → p ∈ G' := fun _ hp => h.subset hp

theorem env_w64 {ρ : Env} {t : Nat} {x y : Int} (h : get ρ t = some (.int .i64 (IntKind.i64.wrap x))) (e : x = y) (h1 : -9223372036854775808 ≤ y) (h2 : y < 9223372036854775808) : get ρ t = some (.int .i64 y) := by
 subst e; rw [h, w64 h1 h2]


/-- A block among those that are owned. -/
class At (G : Own) (b : Nat) (T : outParam TypeId) (cs : outParam (List Value)) : Prop where
 mem : (b, Cl T cs) ∈ G
instance At.here {G : Own} {b : Nat} {T : TypeId} {cs : List Value} : At ((b, Cl T cs) :: G) b T cs := ⟨List.mem_cons_self ..⟩
instance (priority := low) At.there {G : Own} {p : Nat × Obj} {b : Nat} {T : TypeId} {cs : List Value} [h : At G b T cs] : At (p :: G) b T cs := ⟨List.mem_cons_of_mem _ h.mem⟩
/-- The owned blocks, parted at one. -/
class Split (G : Own) (b : Nat) (T : outParam TypeId) (cs : outParam (List Value)) (Ga Gb : outParam Own) : Prop where
 eq : G = Ga ++ (b, Cl T cs) :: Gb
instance Split.here {G : Own} {b : Nat} {T : TypeId} {cs : List Value} : Split ((b, Cl T cs) :: G) b T cs [] G := ⟨rfl⟩
instance (priority := low) Split.there {G : Own} {p : Nat × Obj} {b : Nat} {T : TypeId} {cs : List Value} {Ga Gb : Own} [h : Split G b T cs Ga Gb] : Split (p :: G) b T cs (p :: Ga) Gb := ⟨by rw [h.eq]; rfl⟩

theorem xr {M : PHeap} {G : Own} {b off n : Nat} {T : TypeId} {cs out : List Value} {K : List Value → Prop} [h : At G b T cs] (e : (cs.drop off).take n = out) (hl : off + n ≤ cs.length) (k : K out) : ∃ cs, rd (M.add G) b off n cs ∧ K cs := ⟨out, rd_at h.mem e hl, k⟩
theorem xi {M : PHeap} {G : Own} {b off : Nat} {T : TypeId} {cs : List Value} {α : Type} {f : α → Value} {x : α} {K : α → Prop} [h : At G b T cs] (e : (cs.drop off).take 1 = [f x]) (hl : off + 1 ≤ cs.length) (k : K x) : ∃ n, rd (M.add G) b off 1 [f n] ∧ K n := ⟨x, rd_at h.mem e hl, k⟩
theorem xs {M : PHeap} {G : Own} {b off : Nat} {T : TypeId} {cs : List Value} {a : Option Addr} {n c : Nat} {K : Option Addr → Nat → Nat → Prop} [h : At G b T cs] (e : (cs.drop off).take 1 = [.slice a n c]) (hl : off + 1 ≤ cs.length) (k : K a n c) : ∃ a n c, rd (M.add G) b off 1 [.slice a n c] ∧ K a n c := ⟨a, n, c, rd_at h.mem e hl, k⟩
theorem xw {G Ga Gb : Own} {b : Nat} {T : TypeId} {cs : List Value} {K : TypeId → List Value → Own → Own → Prop} [h : Split G b T cs Ga Gb] (k : K T cs Ga Gb) : ∃ T cs Ga Gb, G = Ga ++ (b, Cl T cs) :: Gb ∧ K T cs Ga Gb := ⟨T, cs, Ga, Gb, h.eq, k⟩

/-! ### Steps of walks, written short -/
/-- The goal, reckoned. -/
theorem nx {A B : Prop} (h : B) (e : A = B := by simp only [wpS, wpA, wpQL, push_cast, Int.cast_ofNat_Int, reduceIte, Nat.reduceEqDiff, reduceCtorEq, Nat.reduceAdd, Nat.reduceSub, Nat.reduceMul, Int.reduceToNat, Nat.reduceLeDiff]; exact rfl) : A := Eq.mpr e h
theorem nz {A B : Prop} (h : B) (e : A = B := by simp only [push_cast, Int.cast_ofNat_Int, reduceIte, Nat.reduceEqDiff, reduceCtorEq, Nat.reduceAdd, Nat.reduceSub, Nat.reduceMul, Int.reduceToNat, Nat.reduceLeDiff]; exact rfl) : A := Eq.mpr e h
/-- What cannot be. -/
theorem dead {A B : Prop} (h : A) (e : A → False := by intro h; first | exact h | exact h True.intro | omega | (simp only [not_true_eq_false, false_or, or_false] at h; omega)) : B := (e h).elim
/-- Both branches, what holds in each of them reckoned. -/
theorem EV.condX {C : Cx P} {V : List Nat} {k : List RItem} {ρ : Env} {M : PHeap} {G : Own} {c : A} {b : Bool} {x y : RCode} {p q : Prop} (hc : ev ρ c = some (.bool b)) (h1 : p → EV C V (.code x :: k) ρ M G) (h2 : q → EV C V (.code y :: k) ρ M G)
  (e1 : (b = true) = p := by first | (simp only [reduceCtorEq, reduceIte, if_true, if_false, Bool.not_eq_true', Bool.not_eq_false', decide_eq_true_eq, decide_eq_false_iff_not, Bool.and_eq_true, Bool.or_eq_true, Bool.and_eq_false_iff, Bool.or_eq_false_iff, false_and, and_false, true_and, and_true, false_or, or_false, true_or, or_true]; exact rfl) | exact rfl)
  (e2 : (b = false) = q := by first | (simp only [reduceCtorEq, reduceIte, if_true, if_false, Bool.not_eq_true', Bool.not_eq_false', decide_eq_true_eq, decide_eq_false_iff_not, Bool.and_eq_true, Bool.or_eq_true, Bool.and_eq_false_iff, Bool.or_eq_false_iff, false_and, and_false, true_and, and_true, false_or, or_false, true_or, or_true]; exact rfl) | exact rfl) : EV C V (.code (.cond c x y) :: k) ρ M G :=
 EV.cond hc (fun h => h1 (e1 ▸ h)) (fun h => h2 (e2 ▸ h))
theorem xrA {M : PHeap} {G : Own} {b off n : Nat} {T : TypeId} {cs out : List Value} {K : List Value → Prop} [h : At G b T cs] (e : (cs.drop off).take n = out) (k : K out) (hl : off + n ≤ cs.length := by simp only [List.length_cons, List.length_nil]; omega) : ∃ cs, rd (M.add G) b off n cs ∧ K cs := xr e hl k
theorem xiA {M : PHeap} {G : Own} {b off : Nat} {T : TypeId} {cs : List Value} {α : Type} {f : α → Value} {x : α} {K : α → Prop} [h : At G b T cs] (e : (cs.drop off).take 1 = [f x]) (k : K x) (hl : off + 1 ≤ cs.length := by simp only [List.length_cons, List.length_nil]; omega) : ∃ n, rd (M.add G) b off 1 [f n] ∧ K n := xi e hl k
theorem xsA {M : PHeap} {G : Own} {b off : Nat} {T : TypeId} {cs : List Value} {a : Option Addr} {n c : Nat} {K : Option Addr → Nat → Nat → Prop} [h : At G b T cs] (e : (cs.drop off).take 1 = [.slice a n c]) (k : K a n c) (hl : off + 1 ≤ cs.length := by simp only [List.length_cons, List.length_nil]; omega) : ∃ a n c, rd (M.add G) b off 1 [.slice a n c] ∧ K a n c := xs e hl k

end Go.EV
