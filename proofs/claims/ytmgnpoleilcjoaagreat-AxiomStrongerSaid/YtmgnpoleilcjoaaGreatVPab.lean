/- The calculus EV, part 14: resolving by reckoning; the check of a whole function. The calculus EV, part 15: regions and functions, resolved by reckoning. The calculus EV, part 16: what simp reckons. The calculus EV, part 17: helpers of proofs. The program's functions, resolved. -/
import Derived.Test.YtmgnpoleilcjoaaGreatVPaa
import Derived.Test.YtmgnpoleilcjoaaGreatProg
set_option maxRecDepth 8000
set_option linter.unusedSimpArgs false
set_option linter.unusedVariables false
set_option linter.unusedSectionVars false
namespace Go.EV
variable {P : Program}

def szP (P : Program) (t : TypeId) : Option Nat := (P.info? t).map (·.size)
def zeroP (P : Program) (t : TypeId) : Option Value := (P.info? t).bind (·.zero)

def cBin (P : Program) (o : Oper) (op : BinOp) (t : TypeId) (x y : Operand) : Option ROp :=
 match P.underlying t with
 | some (.int _) => (cA x).bind fun x' => (cA y).bind fun y' => some (.bin op x' y')
 | some .string => (cA x).bind fun x' => (cA y).bind fun y' => some (.bin op x' y')
 | some .bool => (cA x).bind fun x' => (cA y).bind fun y' => match op with | .eql => some (.eqb false x' y') | .neq => some (.eqb true x' y') | _ => none
 | some (.pointer _) => match y with
  | .const (.pointer none) => (cA x).bind fun x' => match op with | .eql => some (.eqp false x') | .neq => some (.eqp true x') | _ => none
  | _ => some .bad
 | some (.slice _) => match y with
  | .const (.slice none 0 0) => (cA x).bind fun x' => match op with | .eql => some (.eqS false x') | .neq => some (.eqS true x') | _ => none
  | _ => some .bad
 | _ => match eqTy P t with
  | some ks => (cA x).bind fun x' => (cA y).bind fun y' => match op with | .eql => some (.eqA false ks x' y') | .neq => some (.eqA true ks x' y') | _ => none
  | none => some .bad

theorem cBin_ok {o : Oper} {op : BinOp} {t u : TypeId} {x y : Operand} {r : ROp} (h : o.op = .binOp op t x y u) (hr : cBin P o op t x y = some r) : Cmp P o r := by
 unfold cBin at hr
 split at hr
 ·simp only [Option.bind_eq_some_iff] at hr
  obtain ⟨x', hx, y', hy, e⟩ := hr
  cases e
  exact .bin h hx hy
 ·simp only [Option.bind_eq_some_iff] at hr
  obtain ⟨x', hx, y', hy, e⟩ := hr
  cases e
  exact .bin h hx hy
 ·rename_i hu
  simp only [Option.bind_eq_some_iff] at hr
  obtain ⟨x', hx, y', hy, e⟩ := hr
  split at e <;> cases e
  ·exact .eqb (neg := false) h hu hx hy
  ·exact .eqb (neg := true) h hu hx hy
 ·rename_i hu
  split at hr
  ·simp only [Option.bind_eq_some_iff] at hr
   obtain ⟨x', hx, e⟩ := hr
   split at e <;> cases e
   ·exact .eqp (neg := false) h hu hx
   ·exact .eqp (neg := true) h hu hx
  ·cases hr; exact .bad
 ·rename_i hu
  split at hr
  ·simp only [Option.bind_eq_some_iff] at hr
   obtain ⟨x', hx, e⟩ := hr
   split at e <;> cases e
   ·exact .eqS (neg := false) h hu hx
   ·exact .eqS (neg := true) h hu hx
  ·cases hr; exact .bad
 ·split at hr
  ·rename_i ks he
   simp only [Option.bind_eq_some_iff] at hr
   obtain ⟨x', hx, y', hy, e⟩ := hr
   split at e <;> cases e
   ·exact .eqA (neg := false) h he hx hy
   ·exact .eqA (neg := true) h he hx hy
  ·cases hr; exact .bad

def cFaddr (P : Program) (s : TypeId) (x : Operand) (f : Nat) : Option ROp :=
 match P.underlying s with
 | some (.struct fs) => fs[f]?.bind fun fl => match szP P fl.type with
  | some (_ + 1) => (cA x).bind fun x' => some (.faddr fl.offset x')
  | _ => none
 | _ => none

theorem cFaddr_ok {o : Oper} {s : TypeId} {x : Operand} {f : Nat} {r : ROp} (h : o.op = .fieldAddr s x f) (hr : cFaddr P s x f = some r) : Cmp P o r := by
 unfold cFaddr at hr
 split at hr
 ·rename_i fs hu
  simp only [Option.bind_eq_some_iff] at hr
  obtain ⟨fl, hf, hr⟩ := hr
  split at hr
  ·rename_i n hs
   simp only [Option.bind_eq_some_iff] at hr
   obtain ⟨x', hx, e⟩ := hr
   cases e
   exact .faddr h hx hu hf hs
  ·cases hr
 ·cases hr

def cField (P : Program) (s : TypeId) (x : Operand) (f : Nat) : Option ROp :=
 match P.underlying s with
 | some (.struct fs) => fs[f]?.bind fun fl => (cA x).bind fun x' => match aggT P fl.type with
  | some true => (szP P fl.type).bind fun sz => some (.fieldA fl.offset sz x')
  | some false => some (.field1 fl.offset x')
  | none => none
 | _ => none

theorem cField_ok {o : Oper} {s : TypeId} {x : Operand} {f : Nat} {r : ROp} (h : o.op = .field s x f) (hr : cField P s x f = some r) : Cmp P o r := by
 unfold cField at hr
 split at hr
 ·rename_i fs hu
  simp only [Option.bind_eq_some_iff] at hr
  obtain ⟨fl, hf, x', hx, hr⟩ := hr
  split at hr
  ·rename_i ha
   simp only [Option.bind_eq_some_iff] at hr
   obtain ⟨sz, hs, e⟩ := hr
   cases e
   exact .fieldA h hx hu hf ha hs
  ·rename_i ha
   cases hr
   exact .field1 h hx hu hf ha
  ·cases hr
 ·cases hr

def cIaddr (P : Program) (t : TypeId) (x i : Operand) : Option ROp :=
 match P.underlying t with
 | some (.array n e) => (szP P e).bind fun sz => (cA x).bind fun x' => (cA i).bind fun i' => some (.iaddrA n sz x' i')
 | some (.slice e) => (szP P e).bind fun sz => (cA x).bind fun x' => (cA i).bind fun i' => some (.iaddrS sz x' i')
 | _ => none

theorem cIaddr_ok {o : Oper} {t : TypeId} {x i : Operand} {r : ROp} (h : o.op = .indexAddr t x i) (hr : cIaddr P t x i = some r) : Cmp P o r := by
 unfold cIaddr at hr
 split at hr
 ·rename_i hu
  simp only [Option.bind_eq_some_iff] at hr
  obtain ⟨sz, hs, x', hx, i', hi, e⟩ := hr
  cases e
  exact .iaddrA h hx hi hu hs
 ·rename_i hu
  simp only [Option.bind_eq_some_iff] at hr
  obtain ⟨sz, hs, x', hx, i', hi, e⟩ := hr
  cases e
  exact .iaddrS h hx hi hu hs
 ·cases hr

def cLoad (P : Program) (t : TypeId) (x : Operand) : Option ROp :=
 (cA x).bind fun x' => match aggT P t with
  | some true => (szP P t).bind fun sz => some (.loadA sz x')
  | some false => match P.underlying t with
   | some (.int k) => some (.loadI k x')
   | some .bool => some (.loadB x')
   | some (.slice _) => some (.loadS x')
   | _ => some (.loadX x')
  | none => none

theorem cLoad_ok {o : Oper} {t : TypeId} {x : Operand} {r : ROp} (h : o.op = .load t x) (hr : cLoad P t x = some r) : Cmp P o r := by
 unfold cLoad at hr
 simp only [Option.bind_eq_some_iff] at hr
 obtain ⟨x', hx, hr⟩ := hr
 split at hr
 ·rename_i ha
  simp only [Option.bind_eq_some_iff] at hr
  obtain ⟨sz, hs, e⟩ := hr
  cases e
  exact .loadA h hx ha hs
 ·rename_i ha
  split at hr <;> cases hr
  ·exact .loadI h hx ha
  ·exact .loadB h hx ha
  ·exact .loadS h hx ha
  ·exact .loadX h hx ha
 ·cases hr

def cBuild (P : Program) (t : TypeId) (parts : Array (Nat × Operand)) : Option ROp :=
 (zeroP P t).bind fun z => match P.underlying t with
  | some (.struct fs) => if (fs.all fun f => (P.info? f.type).isSome) = true then (resPs P fs parts.toList).bind fun ps => some (.build z.cells.toList ps) else none
  | some (.array _ e) => (szP P e).bind fun sz => (resPa sz parts.toList).bind fun ps => some (.build z.cells.toList ps)
  | _ => none

theorem cBuild_ok {o : Oper} {t : TypeId} {parts : Array (Nat × Operand)} {r : ROp} (h : o.op = .build t parts) (hr : cBuild P t parts = some r) : Cmp P o r := by
 unfold cBuild at hr
 simp only [Option.bind_eq_some_iff] at hr
 obtain ⟨z, hz, hr⟩ := hr
 split at hr
 ·rename_i fs hu
  split at hr
  ·rename_i hall
   simp only [Option.bind_eq_some_iff] at hr
   obtain ⟨ps, hp, e⟩ := hr
   cases e
   exact .buildS h hu hz hp hall
  ·cases hr
 ·rename_i hu
  simp only [Option.bind_eq_some_iff] at hr
  obtain ⟨sz, hs, ps, hp, e⟩ := hr
  cases e
  exact .buildA h hu hz hs hp
 ·cases hr

def cBuildSl (P : Program) (t : TypeId) (n : Nat) (parts : Array (Nat × Operand)) : Option ROp :=
 match P.underlying t with
 | some (.slice e) => (zeroP P e).bind fun z => (szP P e).bind fun sz => (resPa sz parts.toList).bind fun ps =>
   if z.cells.size = sz ∧ n * sz ≤ 2 ^ 24 then some (.buildSl e n (List.replicate n z.cells.toList).flatten ps) else none
 | _ => none

theorem cBuildSl_ok {o : Oper} {t : TypeId} {n : Nat} {parts : Array (Nat × Operand)} {r : ROp} (h : o.op = .buildSlice t n parts) (hr : cBuildSl P t n parts = some r) : Cmp P o r := by
 unfold cBuildSl at hr
 split at hr
 ·rename_i hu
  simp only [Option.bind_eq_some_iff] at hr
  obtain ⟨z, hz, sz, hs, ps, hp, hr⟩ := hr
  split at hr
  ·rename_i hc
   cases hr
   exact .buildSl h hu hz hs hc.1 hc.2 hp
  ·cases hr
 ·cases hr

def cMakeSl (P : Program) (t : TypeId) (x y : Operand) : Option ROp :=
 match P.underlying t with
 | some (.slice e) => (P.info? e).bind fun i => i.zero.bind fun z => (cA x).bind fun x' => (cA y).bind fun y' =>
   if z.cells.size = i.size ∧ 0 < i.size then some (.makeSl e i.size i.bytes z.cells.toList x' y') else none
 | _ => none

theorem cMakeSl_ok {o : Oper} {t : TypeId} {x y : Operand} {r : ROp} (h : o.op = .makeSlice t x y) (hr : cMakeSl P t x y = some r) : Cmp P o r := by
 unfold cMakeSl at hr
 split at hr
 ·rename_i hu
  simp only [Option.bind_eq_some_iff] at hr
  obtain ⟨i, hi, z, hz, x', hx, y', hy, hr⟩ := hr
  split at hr
  ·rename_i hc
   cases hr
   exact .makeSl h hx hy hu hi hz hc.1 hc.2
  ·cases hr
 ·cases hr

def cSlice (P : Program) (t : TypeId) (x : Operand) (lo hi mx : Option Operand) : Option ROp :=
 match P.underlying t with
 | some (.slice e) => (szP P e).bind fun sz => (cA x).bind fun x' => (cAo lo).bind fun lo' => (cAo hi).bind fun hi' => (cAo mx).bind fun mx' => some (.slS sz x' lo' hi' mx')
 | some (.array n e) => match mx with
  | none => (szP P e).bind fun sz => (cA x).bind fun x' => (cAo lo).bind fun lo' => (cAo hi).bind fun hi' => some (.slA n sz x' lo' hi')
  | some _ => none
 | _ => none

theorem cSlice_ok {o : Oper} {t : TypeId} {x : Operand} {lo hi mx : Option Operand} {r : ROp} (h : o.op = .slice t x lo hi mx) (hr : cSlice P t x lo hi mx = some r) : Cmp P o r := by
 unfold cSlice at hr
 split at hr
 ·rename_i hu
  simp only [Option.bind_eq_some_iff] at hr
  obtain ⟨sz, hs, x', hx, lo', hlo, hi', hhi, mx', hmx, e⟩ := hr
  cases e
  exact .slS h hx hlo hhi hmx hu hs
 ·rename_i hu
  split at hr
  ·simp only [Option.bind_eq_some_iff] at hr
   obtain ⟨sz, hs, x', hx, lo', hlo, hi', hhi, e⟩ := hr
   cases e
   exact .slA h hx hlo hhi hu hs
  ·cases hr
 ·cases hr

def cIdx (P : Program) (t : TypeId) (x i : Operand) : Option ROp :=
 match P.underlying t with
 | some (.array n e) => (cA x).bind fun x' => (cA i).bind fun i' => match aggT P e with
  | some true => (szP P e).bind fun sz => some (.idxA n sz x' i')
  | some false => if szP P e = some 1 then some (.idx1 n x' i') else none
  | none => none
 | _ => some .bad

theorem cIdx_ok {o : Oper} {t : TypeId} {x i : Operand} {r : ROp} (h : o.op = .index t x i) (hr : cIdx P t x i = some r) : Cmp P o r := by
 unfold cIdx at hr
 split at hr
 ·rename_i hu
  simp only [Option.bind_eq_some_iff] at hr
  obtain ⟨x', hx, i', hi, hr⟩ := hr
  split at hr
  ·rename_i ha
   simp only [Option.bind_eq_some_iff] at hr
   obtain ⟨sz, hs, e⟩ := hr
   cases e
   exact .idxA h hx hi hu ha hs
  ·rename_i ha
   split at hr
   ·rename_i hs
    cases hr
    exact .idx1 h hx hi hu ha hs
   ·cases hr
  ·cases hr
 ·cases hr; exact .bad

def cCall (P : Program) (o : Oper) (c : Call) : Option ROp :=
 match c with
 | { callee := .value (.func f), args, .. } => (cAs args.toList).bind fun a => some (if isGo P f = true then .call f a else .ext f a)
 | { callee := .value x, args, .. } => (cA x).bind fun x' => (cAs args.toList).bind fun a => some (.callv x' a)
 | { callee := .builtin .len, args, argTypes } => match args.toList, argTypes.toList with
  | [x], [t] => (cA x).bind fun x' => match P.underlying t with
   | some (.slice _) => some (.len x')
   | some .string => some (.lenT x')
   | _ => some .bad
  | _, _ => none
 | { callee := .builtin .max, args, .. } => match args.toList with
  | [x, y] => (cA x).bind fun x' => (cA y).bind fun y' => some (.maxi x' y')
  | _ => some .bad
 | { callee := .builtin .min, args, .. } => match args.toList with
  | [x, y] => (cA x).bind fun x' => (cA y).bind fun y' => some (.mini x' y')
  | _ => some .bad
 | { callee := .builtin .cap, args, argTypes } => match args.toList, argTypes.toList with
  | [x], [t] => (cA x).bind fun x' => match P.underlying t with
   | some (.slice _) => some (.cap x')
   | _ => some .bad
  | _, _ => none
 | { callee := .builtin .copy, args, argTypes } => match args.toList, argTypes.toList with
  | [x, y], [t, _] => match P.underlying t with
   | some (.slice e) => (szP P e).bind fun sz => (cA x).bind fun x' => (cA y).bind fun y' => some (.copyO sz x' y')
   | _ => some .bad
  | _, _ => none
 | { callee := .builtin .clear, args, argTypes } => match args.toList, argTypes.toList with
  | [x], [t] => match P.underlying t with
   | some (.slice e) => ((P.info? e).bind (·.zero)).bind fun z => (cA x).bind fun x' => match z.cells.toList with
    | [z'] => if z'.oneCell' = true then some (.clearS z' x') else some .bad
    | _ => some .bad
   | _ => some .bad
  | _, _ => none
 | { callee := .builtin .append, args, argTypes } => match args.toList, argTypes.toList with
  | [x, y], [t, t'] => if t' = t then
    match P.underlying t with
    | some (.slice e) => (P.info? e).bind fun i => i.zero.bind fun z => (cA x).bind fun x' => (cA y).bind fun y' =>
      if z.cells.size = i.size ∧ 0 < i.size then some (.append e i.size i.bytes z.cells.toList x' y') else none
    | _ => none
   else match P.underlying t' with
    | some (.int _) => match P.underlying t with
     | some (.slice e) => (P.info? e).bind fun i => i.zero.bind fun z => (cA x).bind fun x' => (cA y).bind fun y' =>
      if z.cells.size = i.size ∧ 0 < i.size then some (.appendZ e i.size i.bytes z.cells.toList x' y') else none
     | _ => none
    | _ => some .bad
  | _, _ => none
 | _ => some .bad

theorem arr1 {α : Type} {a : Array α} {x : α} (h : a.toList = [x]) : a = #[x] := by apply Array.ext'; simpa using h
theorem arr2 {α : Type} {a : Array α} {x y : α} (h : a.toList = [x, y]) : a = #[x, y] := by apply Array.ext'; simpa using h

theorem cCall_ok {o : Oper} {c : Call} {r : ROp} (h : o.op = .call c) (hr : cCall P o c = some r) : Cmp P o r := by
 unfold cCall at hr
 split at hr
 ·simp only [Option.bind_eq_some_iff] at hr
  obtain ⟨a, ha, e⟩ := hr
  cases e
  split
  ·exact .call h ha
  ·exact .ext h ha
 ·simp only [Option.bind_eq_some_iff] at hr
  obtain ⟨x', hx, a, ha, e⟩ := hr
  cases e
  exact .callv h hx ha
 ·split at hr
  ·rename_i h1 h2
   have e1 := arr1 h1
   have e2 := arr1 h2
   subst e1 e2
   simp only [Option.bind_eq_some_iff] at hr
   obtain ⟨x', hx, hr⟩ := hr
   split at hr <;> cases hr
   ·rename_i hu; exact .len h hx hu
   ·rename_i hu; exact .lenT h hx hu
   ·exact .bad
  ·cases hr
 ·split at hr
  ·rename_i h1
   have e1 := arr2 h1
   subst e1
   simp only [Option.bind_eq_some_iff] at hr
   obtain ⟨x', hx, y', hy, e⟩ := hr
   cases e
   exact .maxi h hx hy
  ·cases hr; exact .bad
 ·split at hr
  ·rename_i h1
   have e1 := arr2 h1
   subst e1
   simp only [Option.bind_eq_some_iff] at hr
   obtain ⟨x', hx, y', hy, e⟩ := hr
   cases e
   exact .mini h hx hy
  ·cases hr; exact .bad
 ·split at hr
  ·rename_i h1 h2
   have e1 := arr1 h1
   have e2 := arr1 h2
   subst e1 e2
   simp only [Option.bind_eq_some_iff] at hr
   obtain ⟨x', hx, hr⟩ := hr
   split at hr <;> cases hr
   ·rename_i hu; exact .cap h hx hu
   ·exact .bad
  ·cases hr
 ·split at hr
  ·rename_i h1 h2
   have e1 := arr2 h1
   have e2 := arr2 h2
   subst e1 e2
   split at hr
   ·rename_i hu
    simp only [Option.bind_eq_some_iff] at hr
    obtain ⟨sz, hs, x', hx, y', hy, e⟩ := hr
    cases e
    exact .copyO h hx hy hu hs
   ·cases hr; exact .bad
  ·cases hr
 ·split at hr
  ·rename_i h1 h2
   have e1 := arr1 h1
   have e2 := arr1 h2
   subst e1 e2
   split at hr
   ·rename_i hu
    simp only [Option.bind_eq_some_iff] at hr
    obtain ⟨z, hz, x', hx, e⟩ := hr
    split at e
    ·rename_i hzc
     split at e
     ·rename_i h1'
      cases e
      exact .clearS h hx hu (Option.bind_eq_some_iff.2 hz) hzc h1'
     ·cases e; exact .bad
    ·cases e; exact .bad
   ·cases hr; exact .bad
  ·cases hr
 ·split at hr
  ·rename_i h1 h2
   have e1 := arr2 h1
   have e2 := arr2 h2
   subst e1 e2
   split at hr
   ·rename_i et
    subst et
    split at hr
    ·rename_i hu
     simp only [Option.bind_eq_some_iff] at hr
     obtain ⟨i, hi, z, hz, x', hx, y', hy, hr⟩ := hr
     split at hr
     ·rename_i hc
      cases hr
      exact .append h hx hy hu hi hz hc.1 hc.2
     ·cases hr
    ·cases hr
   ·split at hr
    ·rename_i hu'
     split at hr
     ·rename_i hu
      simp only [Option.bind_eq_some_iff] at hr
      obtain ⟨i, hi, z, hz, x', hx, y', hy, hr⟩ := hr
      split at hr
      ·rename_i hc
       cases hr
       exact .appendZ h hx hy hu hu' hi hz hc.1 hc.2
      ·cases hr
     ·cases hr
    ·cases hr; exact .bad
  ·cases hr
 ·cases hr; exact .bad

def comp (P : Program) (o : Oper) : Option ROp :=
 match o.op with
 | .move x => (cA x).bind fun x' => some (.mv x')
 | .assign x => (cA x).bind fun x' => some (.mv x')
 | .pick c a b => (cA c).bind fun c' => (cA a).bind fun a' => (cA b).bind fun b' => some (.pick c' a' b')
 | .binOp op t x y _ => cBin P o op t x y
 | .unOp .not _ x => (cA x).bind fun x' => some (.notb x')
 | .convert src dst x => (cA x).bind fun x' => match P.underlying src, P.underlying dst with
  | some _, some (.int k) => some (.conv k x')
  | _, _ => some .bad
 | .fieldAddr s x f => cFaddr P s x f
 | .indexAddr t x i => cIaddr P t x i
 | .nilCheck x => (cA x).bind fun x' => some (.nilck x')
 | .extract x k => (cA x).bind fun x' => some (.extract k x')
 | .field s x f => cField P s x f
 | .load t x => cLoad P t x
 | .store t x v => (cA x).bind fun x' => (cA v).bind fun v' => (szP P t).bind fun sz => some (.store sz x' v')
 | .box T x => (cA x).bind fun x' => some (.box T x')
 | .alloc T => (zeroP P T).bind fun z => some (.alloc T z.cells.toList)
 | .build t parts => cBuild P t parts
 | .buildSlice t n parts => cBuildSl P t n parts
 | .makeFunc (.func f) first caps => (cAs first.toList).bind fun fs => (cAs caps.toList).bind fun cs => some (.mkfn f fs cs)
 | .makeSlice t x y => cMakeSl P t x y
 | .slice t x lo hi mx => cSlice P t x lo hi mx
 | .call c => cCall P o c
 | .index t x i => cIdx P t x i
 | _ => some .bad

theorem comp_ok {o : Oper} {r : ROp} (h : comp P o = some r) : Cmp P o r := by
 unfold comp at h
 split at h
 ·rename_i x hop; simp only [Option.bind_eq_some_iff] at h; obtain ⟨x', hx, e⟩ := h; cases e; exact .mv (.inl hop) hx
 ·rename_i x hop; simp only [Option.bind_eq_some_iff] at h; obtain ⟨x', hx, e⟩ := h; cases e; exact .mv (.inr hop) hx
 ·rename_i hop; simp only [Option.bind_eq_some_iff] at h; obtain ⟨c', hc, a', ha, b', hb, e⟩ := h; cases e; exact .pick hop hc ha hb
 ·rename_i hop; exact cBin_ok hop h
 ·rename_i hop; simp only [Option.bind_eq_some_iff] at h; obtain ⟨x', hx, e⟩ := h; cases e; exact .notb hop hx
 ·rename_i hop
  simp only [Option.bind_eq_some_iff] at h
  obtain ⟨x', hx, h⟩ := h
  split at h
  ·rename_i h1 h2; cases h; exact .conv hop hx h1 h2
  ·cases h; exact .bad
 ·rename_i hop; exact cFaddr_ok hop h
 ·rename_i hop; exact cIaddr_ok hop h
 ·rename_i hop; simp only [Option.bind_eq_some_iff] at h; obtain ⟨x', hx, e⟩ := h; cases e; exact .nilck hop hx
 ·rename_i hop; simp only [Option.bind_eq_some_iff] at h; obtain ⟨x', hx, e⟩ := h; cases e; exact .extract hop hx
 ·rename_i hop; exact cField_ok hop h
 ·rename_i hop; exact cLoad_ok hop h
 ·rename_i hop; simp only [Option.bind_eq_some_iff] at h; obtain ⟨x', hx, v', hv, sz, hs, e⟩ := h; cases e; exact .store hop hx hv hs
 ·rename_i hop; simp only [Option.bind_eq_some_iff] at h; obtain ⟨x', hx, e⟩ := h; cases e; exact .box hop hx
 ·rename_i hop; simp only [Option.bind_eq_some_iff] at h; obtain ⟨z, hz, e⟩ := h; cases e; exact .alloc hop hz
 ·rename_i hop; exact cBuild_ok hop h
 ·rename_i hop; exact cBuildSl_ok hop h
 ·rename_i hop; simp only [Option.bind_eq_some_iff] at h; obtain ⟨fs, hf, cs, hc, e⟩ := h; cases e; exact .mkfn hop hf hc
 ·rename_i hop; exact cMakeSl_ok hop h
 ·rename_i hop; exact cSlice_ok hop h
 ·rename_i hop; exact cCall_ok hop h
 ·rename_i hop; exact cIdx_ok hop h
 ·cases h; exact .bad

end Go.EV

namespace Go.EV
variable {P : Program}

def findPick (ops : Array Oper) (s : Nat) (g : Option (Nat × Bool)) : Nat → Nat → Option Nat
 | _, 0 => none
 | i, n + 1 => match ops[i]? with
  | some o => if o.guard = g then (match o.op with
    | .pick (.tmp s') _ _ => if s' = s then some i else findPick ops s g (i + 1) n
    | _ => findPick ops s g (i + 1) n) else findPick ops s g (i + 1) n
  | none => none

def pickOf (want : Bool) (s : Nat) : Op → Option Operand
 | .pick (.tmp s') x y => if s' = s then (if want then (match y with | .const (.bool false) => some x | _ => none) else (match x with | .const (.bool true) => some y | _ => none)) else none
 | _ => none

theorem pickOf_ok {want : Bool} {s : Nat} {op : Op} {x : Operand} (h : pickOf want s op = some x) : op = if want then .pick (.tmp s) x (.const (.bool false)) else .pick (.tmp s) (.const (.bool true)) x := by
 unfold pickOf at h
 split at h
 ·split at h
  ·rename_i e
   subst e
   split at h
   ·rename_i hw
    split at h
    ·cases h; simp [hw]
    ·cases h
   ·rename_i hw
    split at h
    ·cases h; simp [hw]
    ·cases h
  ·cases h
 ·cases h

def okG (g : Option (Nat × Bool)) (i : Nat) : Bool :=
 match g with
 | none => true
 | some p => decide (p.1 < i)

theorem okG_ok {g : Option (Nat × Bool)} {i : Nat} (h : okG g i = true) : ∀ p, g = some p → p.1 < i := by
 intro p e; subst e; simpa [okG] using h

def isDefer : Op → Bool
 | .defer _ => true
 | _ => false

def dstOk (d : Option Nat) (nt : Nat) : Bool :=
 match d with
 | none => true
 | some d => decide (d < nt)

def inOk (g : Option (Nat × Bool)) (og : Oper) (i0 gi : Nat) : Bool :=
 match g with
 | none => true
 | some _ => decide (i0 ≤ gi) && decide (og.guard = g)

def compS (P : Program) (ops : Array Oper) (nt : Nat) : Nat → Option (Nat × Bool) → Nat → Nat → Nat → Option Sts
 | 0, _, _, _, _ => none
 | fuel + 1, g, i0, i, j =>
  if i = j then some .nil else
  (ops[i]?).bind fun o =>
  if o.guard = g then
   (if (okG g i && dstOk o.dst nt && !isDefer o.op) = true then (comp P o).bind fun r => (compS P ops nt fuel g i0 (i + 1) j).bind fun rest => some (.op o.dst r rest) else none)
  else match o.guard with
   | none => none
   | some (gi, want) => (ops[gi]?).bind fun og => og.dst.bind fun s => (findPick ops s g i (j - i)).bind fun m => (ops[m]?).bind fun p => p.dst.bind fun d =>
     (pickOf want s p.op).bind fun x => (cA x).bind fun last =>
     if (decide (gi < i) && inOk g og i0 gi && okG g i && decide (p.guard = g) && decide (d < nt)) = true then
      (compS P ops nt fuel (some (gi, want)) i i m).bind fun body => (compS P ops nt fuel g i0 (m + 1) j).bind fun rest => some (.cnd s want body d last rest)
     else none

theorem compS_ok {ops : Array Oper} {nt : Nat} : ∀ {fuel : Nat} {g : Option (Nat × Bool)} {i0 i j : Nat} {sts : Sts}, compS P ops nt fuel g i0 i j = some sts → CmpS P ops nt g i0 i j sts
 | 0, g, i0, i, j, sts, h => by simp [compS] at h
 | fuel + 1, g, i0, i, j, sts, h => by
  unfold compS at h
  split at h
  ·rename_i e; cases h; subst e; exact .nil
  ·simp only [Option.bind_eq_some_iff] at h
   obtain ⟨o, ho, h⟩ := h
   split at h
   ·rename_i hg
    split at h
    ·rename_i hc
     simp only [Bool.and_eq_true] at hc
     obtain ⟨⟨h1, h2⟩, h3⟩ := hc
     simp only [Option.bind_eq_some_iff] at h
     obtain ⟨r, hr, rest, hrest, e⟩ := h
     cases e
     refine .op ho hg (okG_ok h1) (comp_ok hr) ?_ ?_ (compS_ok hrest)
     ·intro c e; simp [isDefer, e] at h3
     ·intro d e; simpa [dstOk, e] using h2
    ·cases h
   ·split at h
    ·cases h
    ·rename_i gi want hgd
     simp only [Option.bind_eq_some_iff] at h
     obtain ⟨og, hog, s, hs, m, hm, p, hp, d, hd, x, hx, last, hl, h⟩ := h
     split at h
     ·rename_i hc
      simp only [Bool.and_eq_true, decide_eq_true_eq] at hc
      obtain ⟨⟨⟨⟨h1, h2⟩, h3⟩, h4⟩, h5⟩ := hc
      simp only [Option.bind_eq_some_iff] at h
      obtain ⟨body, hb, rest, hr, e⟩ := h
      cases e
      refine .cnd hog hs h1 ?_ (okG_ok h3) (compS_ok hb) hp h4 (pickOf_ok hx) hl hd h5 (compS_ok hr)
      intro hsome
      cases g with
      | none => simp at hsome
      | some q => simpa [inOk] using h2
     ·cases h

def oneDstB (ops : Array Oper) : Bool :=
 (List.range ops.size).all fun t => (List.range ops.size).all fun t' =>
  t == t' || (match (ops[t]?).bind (·.dst), (ops[t']?).bind (·.dst) with | some d, some d' => !(d == d') | _, _ => true)

theorem oneDst_ok {ops : Array Oper} (h : oneDstB ops = true) : OneDst ops := by
 intro t t' o o' d ho ho' hd hd'
 have h1 : t < ops.size := (Array.getElem?_eq_some_iff.1 ho).1
 have h2 : t' < ops.size := (Array.getElem?_eq_some_iff.1 ho').1
 have h3 := List.all_eq_true.1 (List.all_eq_true.1 h t (List.mem_range.2 h1)) t' (List.mem_range.2 h2)
 simpa [ho, ho', hd, hd'] using h3

def guardV (ops : Array Oper) (V : List Nat) : Bool :=
 ops.toList.all fun o => match o.guard, o.dst with | some _, some d => !V.contains d | _, _ => true

theorem guardV_ok {ops : Array Oper} {V : List Nat} (h : guardV ops V = true) : ∀ (t : Nat) (o : Oper) (d : Nat), ops[t]? = some o → o.dst = some d → o.guard ≠ none → d ∉ V := by
 intro t o d ho hd hg hm
 have := List.all_eq_true.1 h o (by simpa using Array.mem_of_getElem? ho)
 cases hgg : o.guard with
 | none => exact hg hgg
 | some g => simp [hgg, hd, hm] at this


def depsIn (o : Oper) (D : Nat) : Bool := o.after.toList.all fun e => !Region.binds .any e || bit D e.on

theorem depsIn_ok {ops : Array Oper} {i D : Nat} {o : Oper} (ho : ops[i]? = some o) (h : depsIn o D = true) : ∀ p, dep ops p i → bit D p = true := by
 rintro p ⟨o', ho', e, he, hb, rfl⟩
 rw [ho] at ho'; cases ho'
 have := List.all_eq_true.1 h e he
 simpa [hb] using this

theorem depsIn_no {ops : Array Oper} {i D : Nat} {o : Oper} (ho : ops[i]? = some o) (h : depsIn o D = false) : ∃ p, dep ops p i ∧ bit D p = false := by
 simp only [depsIn, List.all_eq_false] at h
 obtain ⟨e, he, h⟩ := h
 simp at h
 exact ⟨e.on, ⟨o, ho, e, he, h.1, rfl⟩, h.2⟩

def upMask (l : List Nat) (o : Oper) : Nat := o.after.toList.foldl (fun m e => if Region.binds .any e then m ||| (1 <<< e.on) ||| l.getD e.on 0 else m) 0

def ups (ops : Array Oper) : Nat → List Nat
 | 0 => []
 | n + 1 => let l := ups ops n; l ++ [match ops[n]? with | some o => upMask l o | none => 0]

theorem ups_length (ops : Array Oper) : ∀ n, (ups ops n).length = n
 | 0 => rfl
 | n + 1 => by simp [ups, ups_length ops n]

theorem upMask_ok {ops : Array Oper} {n : Nat} {o : Oper} (ho : ops[n]? = some o) {l : List Nat} (hl : ∀ i j, bit (l.getD j 0) i = true → Bef ops i j) {i : Nat} (h : bit (upMask l o) i = true) : Bef ops i n := by
 have key : ∀ (es : List Edge) (m : Nat), (∀ e ∈ es, e ∈ o.after.toList) → (bit m i = true → Bef ops i n) → bit (es.foldl (fun m e => if Region.binds .any e then m ||| (1 <<< e.on) ||| l.getD e.on 0 else m) m) i = true → Bef ops i n := by
  intro es
  induction es with
  | nil => intro m _ hm h; exact hm h
  | cons e es ih =>
   intro m hes hm h
   refine ih _ (fun e' he' => hes e' (by simp [he'])) ?_ h
   intro hb
   dsimp only at hb
   split at hb
   ·rename_i hbd
    simp only [bit, Nat.testBit_or, Nat.one_shiftLeft, Nat.testBit_two_pow, Bool.or_eq_true, decide_eq_true_eq] at hb
    have hd : dep ops e.on n := ⟨o, ho, e, hes e (by simp), hbd, rfl⟩
    rcases hb with (hb | hb) | hb
    ·exact hm hb
    ·subst hb; exact .one hd
    ·exact .step (hl _ _ hb) hd
   ·exact hm hb
 exact key o.after.toList 0 (fun e he => he) (fun h => by simp [bit] at h) h

theorem ups_ok {ops : Array Oper} : ∀ n i j, bit ((ups ops n).getD j 0) i = true → Bef ops i j := by
 intro n
 induction n with
 | zero => intro i j h; simp [ups, bit] at h
 | succ n ih =>
  intro i j h
  have hlen := ups_length ops n
  simp only [ups, List.getD_eq_getElem?_getD] at h
  by_cases hj : j < n
  ·rw [List.getElem?_append_left (by omega)] at h
   exact ih i j (by rw [List.getD_eq_getElem?_getD]; exact h)
  ·by_cases e : j = n
   ·subst e
    rw [List.getElem?_append_right (by omega), hlen, Nat.sub_self] at h
    simp only [List.getElem?_cons_zero, Option.getD_some] at h
    split at h
    ·rename_i o ho; exact upMask_ok ho ih h
    ·simp [bit] at h
   ·rw [List.getElem?_eq_none (by simp [hlen]; omega)] at h
    simp [bit] at h

/-- An order in which all can be listed. -/
def liveB (md : Region.Mode) (ops : Array Oper) : List Nat → Nat → Bool
 | [], D => (List.range ops.size).all fun i => bit D i
 | i :: l, D => match ops[i]? with
  | some o => (o.after.toList.all fun e => !Region.binds md e || bit D e.on) && liveB md ops l (bset D i)
  | none => false

theorem liveB_ok {md : Region.Mode} {ops : Array Oper} {listed : Array Bool} (hsz : listed.size = ops.size) (hr : Region.ready md ops listed = []) : ∀ {l : List Nat} {D : Nat}, liveB md ops l D = true → (∀ i, bit D i = true → listed.getD i false = true) →
  ∀ i, i < ops.size → listed.getD i false = true
 | [], D, h, hD, i, hi => hD i (List.all_eq_true.1 h i (List.mem_range.2 hi))
 | x :: l, D, h, hD, i, hi => by
  simp only [liveB] at h
  split at h
  ·rename_i o ho
   simp only [Bool.and_eq_true] at h
   refine liveB_ok hsz hr h.2 ?_ i hi
   intro j hj
   rw [bit_bset] at hj
   rcases setL_or hj with rfl | hj
   ·cases hl : listed.getD j false with
    | true => rfl
    | false =>
     exfalso
     have hlt : j < listed.size := by have := (Array.getElem?_eq_some_iff.1 ho).1; omega
     have := ready_of (md := md) (listed := listed) ho (by simpa [Array.getD_eq_getD_getElem?, hlt] using hl) (fun e he hb => hD _ (by
      have := List.all_eq_true.1 h.1 e he
      simpa [hb] using this))
     rw [hr] at this; cases this
   ·exact hD j hj
  ·cases h

def ordL (md : Region.Mode) (ops : Array Oper) : Nat → Nat → List Nat
 | 0, _ => []
 | fuel + 1, D => match (List.range ops.size).find? fun i => !bit D i && (match ops[i]? with | some o => o.after.toList.all fun e => !Region.binds md e || bit D e.on | none => false) with
  | some i => i :: ordL md ops fuel (bset D i)
  | none => []

def liveAll (ops : Array Oper) : Bool :=
 liveB .any ops (ordL .any ops ops.size 0) 0 && liveB .text ops (ordL .text ops ops.size 0) 0 && liveB .gc ops (ordL .gc ops ops.size 0) 0

theorem liveAll_ok {ops : Array Oper} (h : liveAll ops = true) (md : Region.Mode) (listed : Array Bool) (hsz : listed.size = ops.size) (hr : Region.ready md ops listed = []) : ∀ i, i < ops.size → listed.getD i false = true := by
 simp only [liveAll, Bool.and_eq_true] at h
 obtain ⟨⟨h1, h2⟩, h3⟩ := h
 cases md
 ·exact liveB_ok hsz hr h2 (by simp [bit])
 ·exact liveB_ok hsz hr h3 (by simp [bit])
 ·exact liveB_ok hsz hr h1 (by simp [bit])

def planB (ops : Array Oper) (nt : Nat) (us : List Nat) : Bool :=
 oneDstB ops && liveAll ops && (ops.toList.all fun o => dstOk o.dst nt && (match o.op with | .select _ _ => false | .defer _ => false | _ => true)) &&
 (List.range ops.size).all fun i => match ops[i]? with
  | none => true
  | some o => (o.after.toList.all fun e => !Region.binds .any e || decide (e.on < i)) &&
   (o.looksAt ops).all fun t => (List.range ops.size).all fun j => match (ops[j]?).bind (·.dst) with
    | some d => !(d == t) || bit (us.getD i 0) j || bit (us.getD j 0) i
    | none => true

theorem planB_ok {ops : Array Oper} {nt n : Nat} (h : planB ops nt (ups ops n) = true) : Plan ops nt := by
 simp only [planB, Bool.and_eq_true] at h
 obtain ⟨⟨⟨h1, hlive⟩, h2⟩, h3⟩ := h
 have hall : ∀ (i : Nat) (o : Oper), ops[i]? = some o → (∀ d, o.dst = some d → d < nt) ∧ (∀ cs b, o.op ≠ .select cs b) ∧ (∀ c, o.op ≠ .defer c) := by
  intro i o ho
  have := List.all_eq_true.1 h2 o (by simpa using Array.mem_of_getElem? ho)
  simp only [Bool.and_eq_true] at this
  refine ⟨fun d hd => by simpa [dstOk, hd] using this.1, fun cs b e => by simp [e] at this, fun c e => by simp [e] at this⟩
 have h3' : ∀ (i : Nat) (o : Oper), ops[i]? = some o → (∀ e ∈ o.after.toList, Region.binds .any e = true → e.on < i) ∧
   ∀ t ∈ o.looksAt ops, ∀ (j : Nat) (oj : Oper), ops[j]? = some oj → oj.dst = some t → Bef ops j i ∨ Bef ops i j := by
  intro i o ho
  have hi : i < ops.size := (Array.getElem?_eq_some_iff.1 ho).1
  have := List.all_eq_true.1 h3 i (List.mem_range.2 hi)
  simp only [ho, Bool.and_eq_true] at this
  refine ⟨fun e he hb => ?_, fun t ht j oj hj hd => ?_⟩
  ·have := List.all_eq_true.1 this.1 e he
   simpa [hb] using this
  ·have hj' : j < ops.size := (Array.getElem?_eq_some_iff.1 hj).1
   have := List.all_eq_true.1 (List.all_eq_true.1 this.2 t ht) j (List.mem_range.2 hj')
   simp only [hj, Option.bind_some, hd, beq_self_eq_true, Bool.not_true, Bool.false_or, Bool.or_eq_true] at this
   exact this.imp (ups_ok n _ _) (ups_ok n _ _)
 have hdown : ∀ i j, dep ops i j → i < j := by
  rintro i j ⟨o, ho, e, he, hb, rfl⟩
  exact (h3' j o ho).1 e he hb
 have hdown' : ∀ i j, Bef ops i j → i < j := by
  intro i j hb
  induction hb with
  | one h => exact hdown _ _ h
  | step _ hd ih => exact Nat.lt_trans ih (hdown _ _ hd)
 refine ⟨?_, fun i hb => by have := hdown' i i hb; omega, oneDst_ok h1, fun i o d ho hd => (hall i o ho).1 d hd, fun i o ho => (hall i o ho).2, liveAll_ok hlive⟩
 intro i j oi oj t hi hj hd ht
 exact (h3' i oi hi).2 t ht j oj hj hd

def inOkB (g : Option (Nat × Bool)) (og : Oper) (D0 gi : Nat) : Bool :=
 match g with
 | none => true
 | some _ => decide (og.guard = g) && !bit D0 gi

/-- The quiet ones that may come now, in the order of the text. -/
def takeQ (P : Program) (ops : Array Oper) (Q : List Nat) : Nat → Option (Nat × Bool) → Bool → Nat → Nat → Nat → Nat → Option (QL × Nat)
 | 0, _, _, _, _, _, _ => none
 | fuel + 1, g, must, D0, i, j, D =>
  if j ≤ i then some (.nil, D) else
  if bit D i = true then takeQ P ops Q fuel g must D0 (i + 1) j D else
  (ops[i]?).bind fun o =>
  if o.guard = g then
   (comp P o).bind fun r =>
   if (depsIn o D && quietR Q r) = true then (takeQ P ops Q fuel g must D0 (i + 1) j (bset D i)).bind fun q => some (.op i o.dst r q.1, q.2)
   else if must = true then none else takeQ P ops Q fuel g must D0 (i + 1) j D
  else match o.guard with
   | none => none
   | some (gi, want) => (ops[gi]?).bind fun og => og.dst.bind fun s => (findPick ops s g i (j - i)).bind fun m => (ops[m]?).bind fun p => p.dst.bind fun d =>
     (pickOf want s p.op).bind fun x => (cA x).bind fun last =>
     match (if bit D gi = true then takeQ P ops Q fuel (some (gi, want)) true D i m D else none) with
     | some q =>
      if (inOkB g og D0 gi && decide (p.guard = g) && !bit q.2 m && depsIn p q.2) = true then
       (takeQ P ops Q fuel g must D0 (m + 1) j (bset q.2 m)).bind fun q' => some (.g s want q.1 m d last q'.1, q'.2)
      else none
     | none => if must = true then none else takeQ P ops Q fuel g must D0 (m + 1) j D

theorem takeQ_ok {ops : Array Oper} {nt : Nat} {Q : List Nat} : ∀ {fuel : Nat} {g : Option (Nat × Bool)} {must : Bool} {D0 i j D : Nat} {q : QL × Nat}, takeQ P ops Q fuel g must D0 i j D = some q → CmpQL P ops nt Q g D0 D q.1 q.2
 | 0, g, must, D0, i, j, D, q, h => by simp [takeQ] at h
 | fuel + 1, g, must, D0, i, j, D, q, h => by
  unfold takeQ at h
  split at h
  ·cases h; exact .nil
  ·split at h
   ·exact takeQ_ok h
   ·rename_i hD
    simp only [Option.bind_eq_some_iff] at h
    obtain ⟨o, ho, h⟩ := h
    split at h
    ·rename_i hg
     simp only [Option.bind_eq_some_iff] at h
     obtain ⟨r, hr, h⟩ := h
     split at h
     ·rename_i hc
      simp only [Bool.and_eq_true] at hc
      simp only [Option.bind_eq_some_iff] at h
      obtain ⟨q', hq', e⟩ := h
      cases e
      exact .op ho hg (by simpa using hD) (depsIn_ok ho hc.1) (comp_ok hr) hc.2 (takeQ_ok hq')
     ·split at h
      ·cases h
      ·exact takeQ_ok h
    ·split at h
     ·cases h
     ·rename_i gi want hgd
      simp only [Option.bind_eq_some_iff] at h
      obtain ⟨og, hog, s, hs, m, hm, p, hp, d, hd, x, hx, last, hl, h⟩ := h
      split at h
      ·rename_i q1 hq1
       split at hq1
       ·rename_i hgi
        split at h
        ·rename_i hc
         simp only [Bool.and_eq_true, decide_eq_true_eq, Bool.not_eq_true'] at hc
         obtain ⟨⟨⟨h1, h2⟩, h3⟩, h4⟩ := hc
         simp only [Option.bind_eq_some_iff] at h
         obtain ⟨q', hq', e⟩ := h
         cases e
         refine .g hog hs hgi ?_ (takeQ_ok hq1) hp h2 h3 (depsIn_ok hp h4) (pickOf_ok hx) hl hd (takeQ_ok hq')
         intro hsome
         cases g with
         | none => simp at hsome
         | some q => simpa [inOkB] using h1
        ·cases h
       ·cases hq1
      ·split at h
       ·cases h
       ·exact takeQ_ok h

def quietO (P : Program) (Q : List Nat) (o : Oper) : Bool := match comp P o with | some r => quietR Q r | none => false

/-- A guarded one that may come now. -/
def nextG (P : Program) (ops : Array Oper) (Q : List Nat) (Γ : Gam) (D : Nat) : Option (Nat × Oper × Nat × Bool) :=
 (List.range ops.size).findSome? fun i => if bit D i = true then none else match ops[i]? with
  | some o => match o.guard with
   | some (gi, want) => if (depsIn o D && bit D gi && (!Γ.contains (gi, some want) || quietO P Q o)) = true then some (i, o, gi, want) else none
   | none => none
  | none => none

theorem nextG_ok {ops : Array Oper} {Q : List Nat} {Γ : Gam} {D : Nat} {i gi : Nat} {o : Oper} {want : Bool} (h : nextG P ops Q Γ D = some (i, o, gi, want)) : ops[i]? = some o ∧ o.guard = some (gi, want) ∧ bit D i = false ∧ depsIn o D = true ∧ bit D gi = true := by
 obtain ⟨j, _, h⟩ := List.exists_of_findSome?_eq_some h
 split at h
 ·cases h
 ·rename_i hD
  split at h
  ·rename_i o' ho
   split at h
   ·rename_i gi' want' hg
    split at h
    ·rename_i hc
     simp only [Bool.and_eq_true] at hc
     cases h
     exact ⟨ho, hg, by simpa using hD, hc.1.1, hc.1.2⟩
    ·cases h
   ·cases h
  ·cases h

def guardIn (Γ : Gam) (g : Option (Nat × Bool)) : Bool :=
 match g with
 | none => true
 | some p => Γ.contains (p.1, some p.2)

theorem guardIn_ok {Γ : Gam} {g : Option (Nat × Bool)} (h : guardIn Γ g = true) : ∀ p, g = some p → (p.1, some p.2) ∈ Γ := by
 intro p e
 subst e
 simpa [guardIn] using h

def mkT (P : Program) (ops : Array Oper) (Q : List Nat) (us : List Nat) : Nat → Gam → Option Nat → Nat → Option AT
 | 0, _, _, _ => none
 | fuel + 1, Γ, none, D => (takeQ P ops Q (ops.size + 1) none false D 0 ops.size D).bind fun q =>
   if ((List.range ops.size).all fun i => bit q.2 i) = true then some (.q q.1 .fin) else
   match nextG P ops Q Γ q.2 with
   | some (i, o, gi, want) => match Γ.find? fun p => p.1 == gi with
    | some (gj, x) => if gj = gi ∧ (gj, x) ∈ Γ then
      (if x = some want then (comp P o).bind fun r => if quietR Q r = true then (mkT P ops Q us fuel Γ none (bset q.2 i)).bind fun t => some (.q q.1 (.q (.op i o.dst r .nil) t))
        else (mkT P ops Q us fuel Γ (some 0) q.2).bind fun t => some (.q q.1 t)
       else (mkT P ops Q us fuel (if o.dst.isSome = true then (i, none) :: Γ else Γ) none (bset q.2 i)).bind fun t => some (.q q.1 (.sk i o.dst t)))
      else none
    | none => (ops[gi]?).bind fun og => og.dst.bind fun s => (mkT P ops Q us fuel ((gi, some true) :: Γ) none q.2).bind fun y => (mkT P ops Q us fuel ((gi, some false) :: Γ) none q.2).bind fun n => some (.q q.1 (.br s y n))
   | none => (mkT P ops Q us fuel Γ (some 0) q.2).bind fun t => some (.q q.1 t)
 | fuel + 1, Γ, some i, D =>
   if ops.size ≤ i then some .no else
   if bit D i = true then mkT P ops Q us fuel Γ (some (i + 1)) D else
   (ops[i]?).bind fun o =>
   if depsIn o D = true then
    if guardIn Γ o.guard = true then (comp P o).bind fun r => (mkT P ops Q us fuel Γ none (bset D i)).bind fun t => (mkT P ops Q us fuel Γ (some (i + 1)) D).bind fun more =>
     some (.s i o.dst r (Nat.land D (us.getD i 0) == D) t more) else none
   else mkT P ops Q us fuel Γ (some (i + 1)) D

theorem mkT_ok {ops : Array Oper} {nt n : Nat} {Q : List Nat} : ∀ {fuel : Nat} {Γ : Gam} {mode : Option Nat} {D : Nat} {t : AT}, mkT P ops Q (ups ops n) fuel Γ mode D = some t → CmpA P ops nt Q Γ mode D t
 | 0, Γ, mode, D, t, h => by simp [mkT] at h
 | fuel + 1, Γ, none, D, t, h => by
  simp only [mkT, Option.bind_eq_some_iff] at h
  obtain ⟨q, hq, h⟩ := h
  have hnone : ∀ p : Nat × Bool, (none : Option (Nat × Bool)) = some p → (p.1, some p.2) ∈ Γ := fun p e => by cases e
  split at h
  ·rename_i hall
   cases h
   exact .q hnone (takeQ_ok hq) (.fin fun i hi => List.all_eq_true.1 hall i (List.mem_range.2 hi))
  ·rename_i hall
   have hne : ∃ i, i < ops.size ∧ bit q.2 i = false := by
    have hall : ((List.range ops.size).all fun i => bit q.2 i) = false := by simpa using hall
    obtain ⟨i, hi, hb⟩ := List.all_eq_false.1 hall
    exact ⟨i, List.mem_range.1 hi, by simpa using hb⟩
   split at h
   ·rename_i i o gi want hn
    obtain ⟨ho, hg, hD, hdep, hgD⟩ := nextG_ok hn
    split at h
    ·rename_i gj x _
     split at h
     ·rename_i hc
      obtain ⟨rfl, hmem⟩ := hc
      split at h
      ·rename_i hx
       subst hx
       simp only [Option.bind_eq_some_iff] at h
       obtain ⟨r, hr, h⟩ := h
       split at h
       ·rename_i hqr
        simp only [Option.bind_eq_some_iff] at h
        obtain ⟨t', ht', e⟩ := h
        cases e
        refine .q hnone (takeQ_ok hq) (.q (g := some (gj, want)) (fun p e => by cases e; exact hmem) (.op ho hg hD (depsIn_ok ho hdep) (comp_ok hr) hqr .nil) (mkT_ok ht'))
       ·simp only [Option.bind_eq_some_iff] at h
        obtain ⟨t', ht', e⟩ := h
        cases e
        exact .q hnone (takeQ_ok hq) (.alts hne (mkT_ok ht'))
      ·rename_i hx
       simp only [Option.bind_eq_some_iff] at h
       obtain ⟨t', ht', e⟩ := h
       cases e
       refine .q hnone (takeQ_ok hq) (.sk ho hg hmem hx hD (depsIn_ok ho hdep) ?_ (mkT_ok ht'))
       intro y hy
       split at hy
       ·rename_i hs
        rcases List.mem_cons.1 hy with e | hy
        ·exact .inr ⟨e, Option.isSome_iff_exists.1 hs⟩
        ·exact .inl hy
       ·exact .inl hy
     ·cases h
    ·simp only [Option.bind_eq_some_iff] at h
     obtain ⟨og, hog, s, hs, y, hy, n', hn', e⟩ := h
     cases e
     exact .q hnone (takeQ_ok hq) (.br hog hs hgD (mkT_ok hy) (mkT_ok hn'))
   ·simp only [Option.bind_eq_some_iff] at h
    obtain ⟨t', ht', e⟩ := h
    cases e
    exact .q hnone (takeQ_ok hq) (.alts hne (mkT_ok ht'))
 | fuel + 1, Γ, some i, D, t, h => by
  simp only [mkT] at h
  split at h
  ·rename_i hi; cases h; exact .no hi
  ·split at h
   ·rename_i hD; exact .pass (.inl hD) (mkT_ok h)
   ·rename_i hD
    simp only [Option.bind_eq_some_iff] at h
    obtain ⟨o, ho, h⟩ := h
    split at h
    ·split at h
     ·rename_i hg
      simp only [Option.bind_eq_some_iff] at h
      obtain ⟨r, hr, t', ht', more, hm, e⟩ := h
      cases e
      refine .s ho (guardIn_ok hg) (by simpa using hD) (comp_ok hr) ?_ (mkT_ok ht') (mkT_ok hm)
      intro hre j hj
      have e : Nat.land D ((ups ops n).getD i 0) = D := by simpa using hre
      refine ups_ok n _ _ ?_
      have : bit (Nat.land D ((ups ops n).getD i 0)) j = true := by rw [e]; exact hj
      have h2 : bit (D &&& ((ups ops n).getD i 0)) j = true := this
      rw [bit, Nat.testBit_and, Bool.and_eq_true] at h2
      exact h2.2
     ·cases h
    ·rename_i hd
     exact .pass (.inr (depsIn_no ho (by simpa using hd))) (mkT_ok h)

def compC (P : Program) (nt : Nat) (V Q : List Nat) : Code → Option RCode
 | .skip => some .skip
 | .region _ ops false => if (oneDstB ops && guardV ops V) = true then (compS P ops nt (ops.size + 1) none 0 0 ops.size).bind fun s => some (.reg s) else none
 | .region _ ops true => if (planB ops nt (ups ops ops.size) && guardV ops V) = true then (mkT P ops Q (ups ops ops.size) ((ops.size + 2) * (ops.size + 2)) [] none 0).bind fun t => some (.any t) else none
 | .seq a b => (compC P nt V Q a).bind fun a' => (compC P nt V Q b).bind fun b' => some (.seq a' b')
 | .cond c a b => (cA c).bind fun c' => (compC P nt V Q a).bind fun a' => (compC P nt V Q b).bind fun b' => some (.cond c' a' b')
 | .block id c => (compC P nt V Q c).bind fun c' => some (.block id c')
 | .loop c => (compC P nt V Q c).bind fun c' => some (.loop c')
 | .exit id => some (.exit id)
 | .ret => some .ret
 | .rangeFunc f ps a b => (cA f).bind fun f' => (compC P nt V Q a).bind fun a' => (compC P nt V Q b).bind fun b' => if (ps.toList.all fun t => decide (t < nt)) = true then some (.rangeF f' ps.toList a' b') else none
 | _ => none

theorem compC_ok {nt : Nat} {V Q : List Nat} : ∀ {c : Code} {r : RCode}, compC P nt V Q c = some r → CmpC P nt V c r := by
 intro c
 induction c with
 | skip => intro r h; cases h; exact .skip
 | region id ops draw =>
  intro r h
  cases draw with
  | true =>
   simp only [compC] at h
   split at h
   ·rename_i hc
    simp only [Bool.and_eq_true] at hc
    simp only [Option.bind_eq_some_iff] at h
    obtain ⟨t, ht, e⟩ := h
    cases e
    exact .any (planB_ok hc.1) (mkT_ok ht) (guardV_ok hc.2)
   ·cases h
  | false =>
   simp only [compC] at h
   split at h
   ·rename_i hc
    simp only [Bool.and_eq_true] at hc
    simp only [Option.bind_eq_some_iff] at h
    obtain ⟨s, hs, e⟩ := h
    cases e
    exact .reg (compS_ok hs) (oneDst_ok hc.1) (guardV_ok hc.2)
   ·cases h
 | seq a b iha ihb =>
  intro r h
  simp only [compC, Option.bind_eq_some_iff] at h
  obtain ⟨a', ha, b', hb, e⟩ := h
  cases e; exact .seq (iha ha) (ihb hb)
 | cond c a b iha ihb =>
  intro r h
  simp only [compC, Option.bind_eq_some_iff] at h
  obtain ⟨c', hc, a', ha, b', hb, e⟩ := h
  cases e; exact .cond hc (iha ha) (ihb hb)
 | block id c ih =>
  intro r h
  simp only [compC, Option.bind_eq_some_iff] at h
  obtain ⟨c', hc, e⟩ := h
  cases e; exact .block (ih hc)
 | loop c ih =>
  intro r h
  simp only [compC, Option.bind_eq_some_iff] at h
  obtain ⟨c', hc, e⟩ := h
  cases e; exact .loop (ih hc)
 | exit id => intro r h; cases h; exact .exit
 | ret => intro r h; cases h; exact .ret
 | rangeFunc f ps a b iha ihb =>
  intro r h
  simp only [compC, Option.bind_eq_some_iff] at h
  obtain ⟨f', hf, a', ha, b', hb, e⟩ := h
  split at e
  ·rename_i hps
   cases e; exact .rangeF hf (fun t ht => by simpa using List.all_eq_true.1 hps t ht) (iha ha) (ihb hb)
  ·cases e
 | _ => intro r h; cases h

def compR (P : Program) : ResultVar → Option RRes
 | .tmp t => some (.tmp t)
 | .cell t T => match aggT P T with
  | some true => (szP P T).bind fun sz => some (.cellA t sz)
  | some false => some (.cell1 t)
  | none => none

theorem compR_ok {x : ResultVar} {y : RRes} (h : compR P x = some y) : CmpR P x y := by
 cases x with
 | tmp t => cases h; exact .tmp
 | cell t T =>
  simp only [compR] at h
  split at h
  ·rename_i ha
   simp only [Option.bind_eq_some_iff] at h
   obtain ⟨sz, hs, e⟩ := h
   cases e; exact .cellA ha hs
  ·rename_i ha; cases h; exact .cell1 ha
  ·cases h

def compRs (P : Program) : List ResultVar → Option (List RRes)
 | [] => some []
 | x :: l => (compR P x).bind fun y => (compRs P l).bind fun m => some (y :: m)

theorem compRs_ok : ∀ {l : List ResultVar} {m : List RRes}, compRs P l = some m → CmpRs P l m
 | [], m, h => by cases h; exact .nil
 | x :: l, m, h => by
  simp only [compRs, Option.bind_eq_some_iff] at h
  obtain ⟨y, hy, m', hm, e⟩ := h
  cases e; exact .cons (compR_ok hy) (compRs_ok hm)

/-- A function, resolved: its temporaries, its variables, its body, its results. -/
structure RFun where
 nt : Nat
 V : List Nat
 body : RCode
 res : List RRes

def compF (P : Program) (V Q : List Nat) (f : FuncId) : Option RFun :=
 if isGo P f = true then
  (P.funcs[f]?).bind fun fn => fn.body.bind fun c => (compC P fn.ntmps V Q c).bind fun r => (compRs P fn.results.toList).bind fun res => some ⟨fn.ntmps, V, r, res⟩
 else none

/-- The activation of a function: where it is to come is a return of which Φ holds. -/
def Cx.fn (P : Program) (f : FuncId) (nt : Nat) (w0 : World) (F : List Nat) (M0 : PHeap) (Φ : Value → PHeap → Own → Prop) : Cx P where
 b := { (default : Frame) with fn := f, kind := .normal, roundOf := none }
 T := fun cs m => ∃ e w' fr, (∃ v, e = Ending.returned v ∧ ∃ M' G', EV.St w0 F M0 M' G' w' ∧ Φ v M' G') ∧ Comes P m (lone fr cs w') e ∧ fr.fn = f ∧ fr.leaving P w' e
 back := by
  rintro cs m m' hs ⟨e, w', fr, h1, h2, h3, h4⟩
  exact ⟨e, w', fr, h1, Comes.of_steps (.one hs) h2, h3, h4⟩
 nt := nt
 ds := []
 w0 := w0
 F := F
 M0 := M0

def argE : Nat → List Value → Env
 | _, [] => []
 | i, v :: l => (i, v) :: argE (i + 1) l

theorem get_argE {l : List Value} : ∀ {i t : Nat} {v : Value}, get (argE i l) t = some v → i ≤ t ∧ l[t - i]? = some v := by
 induction l with
 | nil => intro i t v h; simp [argE, get] at h
 | cons u l ih =>
  intro i t v h
  simp only [argE, get] at h
  split at h
  ·rename_i e; subst e; cases h; simp
  ·rename_i e
   obtain ⟨h1, h2⟩ := ih h
   refine ⟨by omega, ?_⟩
   have : t - i = (t - (i + 1)) + 1 := by omega
   rw [this]; simpa using h2

/-- A contract out of the walk of the body. -/
theorem Con.enter {f : FuncId} {V Q : List Nat} {R : RFun} (hR : compF P V Q f = some R) {args : List Value} (hlen : args.length ≤ R.nt) {M : PHeap} {G : Own} {Φ : Value → PHeap → Own → Prop}
  (h : ∀ w0, EV (Cx.fn P f R.nt w0 (G.map (·.1)) M Φ) R.V [.code R.body] (argE 0 args) M G) : Con P f args.toArray M G Φ := by
 unfold compF at hR
 split at hR
 ·rename_i hgo
  simp only [Option.bind_eq_some_iff] at hR
  obtain ⟨fn, hfn, c, hc, r, hr, res, hres, e⟩ := hR
  cases e
  refine ⟨hgo, ?_⟩
  intro w hs cs
  have hE := h w [.code c] (.cons (.code (compC_ok hr)) .nil) { tmps := args.toArray ++ Array.replicate (fn.ntmps - args.toArray.size) undef, defers := [] } w
  have hfit : Fits fn.ntmps (argE 0 args) { tmps := args.toArray ++ Array.replicate (fn.ntmps - args.toArray.size) undef, defers := [] } := by
   refine ⟨?_, ?_⟩
   ·simp only [Array.size_append, Array.size_replicate, List.size_toArray]
    dsimp only at hlen
    omega
   ·intro t v ht
    obtain ⟨_, h2⟩ := get_argE ht
    simp only [Nat.sub_zero] at h2
    obtain ⟨hlt, _⟩ := List.getElem?_eq_some_iff.1 h2
    rw [Array.getElem?_append_left (by simpa using hlt)]
    simpa using h2
  have := hE hfit rfl hs cs
  have hframe : Frame.enter P f args.toArray .normal = (Cx.fn P f fn.ntmps w (G.map (·.1)) M Φ).b.atR { tmps := args.toArray ++ Array.replicate (fn.ntmps - args.toArray.size) undef, defers := [] } [.code c] := by
   simp only [Frame.enter, Frame.atR, Cx.fn, hfn, Option.map_some, Option.getD_some, Option.bind_some, hc]
  rw [hframe]
  exact this
 ·cases hR

section
variable {f : FuncId} {w0 : World} {F : List Nat} {M0 M : PHeap} {G : Own} {Φ : Value → PHeap → Own → Prop} {V Q : List Nat} {k : List RItem} {ρ : Env}

/-- What a return asks. -/
def retW (R : RFun) (ρ : Env) (M : PHeap) (G : Own) (Φ : Value → PHeap → Own → Prop) : Prop := resW ρ (M.add G) R.res fun vs => Φ (retV vs) M G

theorem EV.ret {R : RFun} (hR : compF P V Q f = some R) (h : retW R ρ M G Φ) : EV (Cx.fn P f R.nt w0 F M0 Φ) R.V (.code .ret :: k) ρ M G := by
 unfold compF at hR
 split at hR
 ·rename_i hgo
  simp only [Option.bind_eq_some_iff] at hR
  obtain ⟨fn, hfn, c, hc, r, hr, res, hres, e⟩ := hR
  cases e
  intro k' hk a w hf hd hs cs
  cases hk with
  | cons hx hk => cases hx with
   | code hc => cases hc with
    | ret =>
     obtain ⟨v, hv, hΦ⟩ := run_results (P := P) (fn := fn) (Q := fun v => Φ v M G) hf (fun b o hb => hs.agreeAdd hb) (compRs_ok hres) h
     refine ⟨.returned v, w, { (Cx.fn P f fn.ntmps w0 F M0 Φ).b.atR a (.code .ret :: _) with mode := .returning }, ⟨v, rfl, M, G, hs, hΦ⟩, .one (stepR_ret rfl), rfl, ?_⟩
     exact ⟨rfl, hd, rfl, fn, hfn, hv⟩
 ·cases hR

theorem EV.done {R : RFun} (hR : compF P V Q f = some R) (h : retW R ρ M G Φ) : EV (Cx.fn P f R.nt w0 F M0 Φ) R.V [] ρ M G := by
 unfold compF at hR
 split at hR
 ·rename_i hgo
  simp only [Option.bind_eq_some_iff] at hR
  obtain ⟨fn, hfn, c, hc, r, hr, res, hres, e⟩ := hR
  cases e
  intro k' hk a w hf hd hs cs
  cases hk with
  | nil =>
   obtain ⟨v, hv, hΦ⟩ := run_results (P := P) (fn := fn) (Q := fun v => Φ v M G) hf (fun b o hb => hs.agreeAdd hb) (compRs_ok hres) h
   refine ⟨.returned v, w, { (Cx.fn P f fn.ntmps w0 F M0 Φ).b.atR a [] with mode := .returning }, ⟨v, rfl, M, G, hs, hΦ⟩, .one (stepR_end rfl), rfl, ?_⟩
   exact ⟨rfl, hd, rfl, fn, hfn, hv⟩
 ·cases hR

end
end Go.EV

namespace Go.EV

theorem get_nil (i : Nat) : get [] i = none := rfl
theorem get_cons (j : Nat) (v : Value) (ρ : Env) (i : Nat) : get ((j, v) :: ρ) i = if i = j then some v else get ρ i := rfl
theorem norm_nil (ρ : Env) : norm [] ρ = [] := rfl
theorem norm_cons (i : Nat) (V : List Nat) (ρ : Env) : norm (i :: V) ρ = match get ρ i with | some v => (i, v) :: norm V ρ | none => norm V ρ := rfl

attribute [push_cast] yield? qW opW onv_some onv_none ev evs evp evo get_nil get_cons norm_nil norm_cons putE argE binV intV shV strV ptr? adr? sl? int? bool? agg? tup? fn? fillL splice eqL eqLeaf Value.cells oad_none oad_some ocap_none ocap_some resW retV retW
 List.length_cons List.length_nil List.getElem?_cons_zero List.getElem?_cons_succ List.take_succ_cons List.take_zero List.drop_succ_cons List.drop_zero List.nil_append List.cons_append List.take_nil List.drop_nil List.replicate_succ List.replicate_zero List.flatten_cons List.flatten_nil

attribute [push_cast] List.set_cons_zero List.set_cons_succ or_self or_false false_or and_self true_and and_true Nat.zero_add Nat.mul_one Nat.add_zero Bool.false_xor Bool.true_xor if_true if_false Int.toNat_natCast Int.cast_ofNat_Int Int.toNat_zero ne_eq not_true_eq_false not_false_eq_true Value.oneCell' List.size_toArray List.append_assoc List.append_nil Array.append_empty Array.empty_append Nat.le_refl exists_eq_left exists_and_left Nat.zero_le Nat.sub_zero

end Go.EV

namespace Go.EV
variable {P : Program}

theorem w64 {x : Int} (h1 : -9223372036854775808 ≤ x) (h2 : x < 9223372036854775808) : IntKind.i64.wrap x = x := by
 have e : (2 : Int) ^ IntKind.i64.bits = 18446744073709551616 := rfl
 have e2 : (2 : Int) ^ (IntKind.i64.bits - 1) = 9223372036854775808 := rfl
 have e3 : IntKind.i64.signed = true := rfl
 simp only [IntKind.wrap, e, e2, e3, Bool.true_and, decide_eq_true_eq]
 split <;> omega

theorem ok1_nil : ok1 [] ↔ True := by simp [ok1]
theorem ok1_cons (v : Value) (l : List Value) : ok1 (v :: l) ↔ v.oneCell' = true ∧ ok1 l := by simp [ok1]

theorem mem_of_get {ρ : Env} {t : Nat} {v : Value} (h : get ρ t = some v) : (t, v) ∈ ρ := by
 induction ρ with
 | nil => simp [get] at h
 | cons p ρ ih =>
  obtain ⟨j, u⟩ := p
  simp only [get] at h
  split at h
  ·rename_i e; subst e; cases h; simp
  ·exact List.mem_cons_of_mem _ (ih h)

section
variable {C : Cx P} {V : List Nat} {k : List RItem} {ρ ρ' : Env} {M : PHeap} {G G' : Own}

/-- To a smaller state. -/
theorem EV.to (h : EV C V k ρ' M G') (hρ : ∀ p ∈ ρ', get ρ p.1 = some p.2) (hG : G'.Sublist G) : EV C V k ρ M G :=
 h.weaken (fun t v ht => hρ (t, v) (mem_of_get ht)) hG

theorem rd_own {b off n : Nat} {T : TypeId} {cs : List Value} (i : Nat) (h : G[i]? = some (b, Cl T cs)) (hl : off + n ≤ cs.length) : rd (M.add G) b off n ((cs.drop off).take n) :=
 ⟨cs.toArray, T, (0, 0), .inr (List.mem_of_getElem? h), by simpa using hl, by simp⟩

theorem rd_own' {b off n : Nat} {T : TypeId} {cs out : List Value} (i : Nat) (h : G[i]? = some (b, Cl T cs)) (e : (cs.drop off).take n = out) (hl : off + n ≤ cs.length) : rd (M.add G) b off n out :=
 e ▸ rd_own i h hl

theorem rd_M {b off n : Nat} {cs : List Value} (h : rd M b off n cs) : rd (M.add G) b off n cs := h.mono (PHeap.le_add _ _)
theorem rdS_M {sz n : Nat} {a : Option Addr} {cs : List Value} (h : rdS M sz a n cs) : rdS (M.add G) sz a n cs :=
 h.imp id fun ⟨b, off, e, h⟩ => ⟨b, off, e, rd_M h⟩

theorem rdS.mono {H H' : PHeap} (h : H.le H') {sz n : Nat} {a : Option Addr} {cs : List Value} (k : rdS H sz a n cs) : rdS H' sz a n cs :=
 k.imp id fun ⟨b, off, e, k⟩ => ⟨b, off, e, k.mono h⟩

theorem rd.part {H : PHeap} {b off n i m : Nat} {cs : List Value} (h : rd H b off n cs) (hm : i + m ≤ n) : rd H b (off + i) m ((cs.drop i).take m) := by
 obtain ⟨c, T, fz, h1, h2, h3⟩ := h
 refine ⟨c, T, fz, h1, by omega, ?_⟩
 rw [h3, List.drop_take, List.drop_drop, List.take_take, Nat.min_eq_left (by omega)]

end

/-! ### Rows of things -/

/-- A slice of flat things: each takes sz cells. -/
def Sl {α : Type} (H : PHeap) (sz : Nat) (enc : α → List Value) (v : Value) (xs : List α) : Prop :=
 ∃ a c, v = .slice a xs.length c ∧ rdS H sz a xs.length (xs.flatMap enc)

theorem flatMap_part {α : Type} {sz : Nat} {enc : α → List Value} (henc : ∀ x, (enc x).length = sz) : ∀ {xs : List α} {i : Nat} (h : i < xs.length), ((xs.flatMap enc).drop (i * sz)).take sz = enc xs[i]
 | x :: xs, 0, _ => by simp [List.flatMap_cons, ← henc x]
 | x :: xs, i + 1, h => by
  have h' : i < xs.length := by simpa using h
  have := flatMap_part henc h'
  simp only [List.flatMap_cons, List.getElem_cons_succ]
  rw [← this, List.drop_append, List.drop_eq_nil_of_le (by rw [henc, Nat.succ_mul]; omega), List.nil_append, henc, Nat.succ_mul, Nat.add_sub_cancel]

theorem flatMap_length {α : Type} {sz : Nat} {enc : α → List Value} (henc : ∀ x, (enc x).length = sz) : ∀ (xs : List α), (xs.flatMap enc).length = xs.length * sz
 | [] => by simp
 | x :: xs => by simp [List.flatMap_cons, flatMap_length henc xs, henc, Nat.succ_mul, Nat.add_comm]

theorem Sl.at {α : Type} {H : PHeap} {sz : Nat} {enc : α → List Value} (henc : ∀ x, (enc x).length = sz) (hpos : 0 < sz) {a : Option Addr} {xs : List α} (h : rdS H sz a xs.length (xs.flatMap enc)) (hn : 0 < xs.length) :
  ∃ b off, a = some ⟨b, off, none⟩ ∧ ∀ i (hi : i < xs.length), rd H b (off + i * sz) sz (enc xs[i]) := by
 rcases h with ⟨h0, _⟩ | ⟨b, off, e, h⟩
 ·exfalso
  rcases Nat.mul_eq_zero.1 h0 with h0 | h0
  ·rw [h0] at hn; exact absurd hn (by simp)
  ·omega
 ·refine ⟨b, off, e, fun i hi => ?_⟩
  have := h.part (i := i * sz) (m := sz) (by
   have : (i + 1) * sz ≤ xs.length * sz := Nat.mul_le_mul_right _ hi
   rw [Nat.succ_mul] at this; exact this)
  rwa [flatMap_part henc hi] at this

theorem Sl.mono {α : Type} {H H' : PHeap} (hh : H.le H') {sz : Nat} {enc : α → List Value} {v : Value} {xs : List α} (h : Sl H sz enc v xs) : Sl H' sz enc v xs :=
 let ⟨a, c, e, h⟩ := h; ⟨a, c, e, h.mono hh⟩

/-- A slice of slices. -/
def SlSl {α : Type} (H : PHeap) (sz : Nat) (enc : α → List Value) (v : Value) (xss : List (List α)) : Prop :=
 ∃ a c vs, v = .slice a xss.length c ∧ vs.length = xss.length ∧ rdS H 1 a xss.length vs ∧ ∀ i (h : i < vs.length) (h' : i < xss.length), Sl H sz enc vs[i] xss[i]

theorem SlSl.mono {α : Type} {H H' : PHeap} (hh : H.le H') {sz : Nat} {enc : α → List Value} {v : Value} {xss : List (List α)} (h : SlSl H sz enc v xss) : SlSl H' sz enc v xss :=
 let ⟨a, c, vs, e, hl, h, k⟩ := h; ⟨a, c, vs, e, hl, h.mono hh, fun i h h' => (k i h h').mono hh⟩

theorem flatMap_single (vs : List Value) : vs.flatMap (fun v => [v]) = vs := by simp [List.flatMap_singleton']

theorem SlSl.at {α : Type} {H : PHeap} {sz : Nat} {enc : α → List Value} {a : Option Addr} {vs : List Value} {xss : List (List α)} (h : rdS H 1 a xss.length vs) (hl : vs.length = xss.length) (hk : ∀ i (h : i < vs.length) (h' : i < xss.length), Sl H sz enc vs[i] xss[i]) (hn : 0 < xss.length) :
  ∃ b off, a = some ⟨b, off, none⟩ ∧ ∀ i (hi : i < xss.length), ∃ a' c', rd H b (off + i * 1) 1 [.slice a' xss[i].length c'] ∧ rdS H sz a' xss[i].length (xss[i].flatMap enc) := by
 have h1 : rdS H 1 a vs.length (vs.flatMap fun v => [v]) := by rw [flatMap_single, hl]; exact h
 obtain ⟨b, off, e, hr⟩ := Sl.at (sz := 1) (enc := fun v => [v]) (fun _ => rfl) (by omega) h1 (by omega)
 refine ⟨b, off, e, fun i hi => ?_⟩
 have hr' := hr i (by omega)
 obtain ⟨a', c', e', h'⟩ := hk i (by omega) hi
 rw [e'] at hr'
 exact ⟨a', c', hr', h'⟩

attribute [push_cast] ok1_nil ok1_cons

theorem rd_mem {M : PHeap} {G : Own} {b off n : Nat} {T : TypeId} {cs : List Value} (h : (b, Cl T cs) ∈ G) (hl : off + n ≤ cs.length) : rd (M.add G) b off n ((cs.drop off).take n) := by
 obtain ⟨i, hi⟩ := List.mem_iff_getElem?.1 h
 exact rd_own i hi hl


theorem rd_at {M : PHeap} {G : Own} {b off n : Nat} {T : TypeId} {cs out : List Value} (h : (b, Cl T cs) ∈ G) (e : (cs.drop off).take n = out) (hl : off + n ≤ cs.length) : rd (M.add G) b off n out := e ▸ rd_mem h hl

theorem rd_osg {M : PHeap} {G : Own} {sz n : Nat} {T : TypeId} {ov : Vec} {xs : List Value} (hok : osok sz ov n xs) (hM : ∀ p ∈ osg T ov xs, p ∈ G) : rdS (M.add G) sz (oad ov) n xs := by
 cases ov with
 | none =>
  obtain ⟨rfl, rfl⟩ := hok
  exact .inl ⟨by simp, rfl⟩
 | some p =>
  obtain ⟨b, cap, sp⟩ := p
  obtain ⟨h1, h2, h3, h4⟩ := hok
  refine .inr ⟨b, 0, rfl, (xs ++ sp).toArray, T, (0, 0), .inr (hM _ (by simp [osg])), ?_, ?_⟩
  ·simp at h2 ⊢; omega
  ·simp [← h1]

/-- Pieces of a list, one behind the other. -/
def cat {α : Type} : List (List α) → List α
 | [] => []
 | [x] => x
 | x :: y :: l => x ++ cat (y :: l)

theorem cat_cons {α : Type} (x : List α) : ∀ l : List (List α), cat (x :: l) = x ++ cat l
 | [] => by simp [cat]
 | _ :: _ => rfl

theorem cat_pull {α : Type} : ∀ (l : List (List α)) (i : Nat) (h : i < l.length), (cat l).Perm (l[i] ++ cat (l.eraseIdx i))
 | x :: l, 0, _ => by simp [cat_cons]
 | x :: l, i + 1, h => by
  have := cat_pull l i (by simpa using h)
  simp only [cat_cons, List.getElem_cons_succ, List.eraseIdx_cons_succ]
  refine (List.Perm.append_left x this).trans ?_
  rw [← List.append_assoc, ← List.append_assoc]
  exact List.Perm.append_right _ List.perm_append_comm

theorem cat_nil {α : Type} : cat ([] : List (List α)) = [] := rfl
theorem cat_one {α : Type} (x : List α) : cat [x] = x := rfl
theorem cat_two {α : Type} (x y : List α) (l : List (List α)) : cat (x :: y :: l) = x ++ cat (y :: l) := rfl

theorem condQ.mk {c want : Bool} {A : (Bool → Prop) → Prop} {K : Bool → Prop} (e : Bool) (h : c = want → A fun u => u = e) (hk : K (if want then c && e else c || e)) : condQ c want A K := ⟨e, h, hk⟩

theorem condW.intro {c want : Bool} {M : PHeap} {G : Own} {A : (Bool → PHeap → Own → Prop) → Prop} {K : Bool → PHeap → Own → Prop} (h : c = want → A K) (h2 : c ≠ want → K c M G) : condW c want M G A K := ⟨h, h2⟩

theorem mem_of_sub {G G' : Own} (h : G.Sublist G') : ∀ p, p ∈ G → p ∈ G' := fun _ hp => h.subset hp

theorem env_w64 {ρ : Env} {t : Nat} {x y : Int} (h : get ρ t = some (.int .i64 (IntKind.i64.wrap x))) (e : x = y) (h1 : -9223372036854775808 ≤ y) (h2 : y < 9223372036854775808) : get ρ t = some (.int .i64 y) := by
 subst e; rw [h, w64 h1 h2]


/-- A block among those that are owned. -/
class At (G : Own) (b : Nat) (T : outParam TypeId) (cs : outParam (List Value)) : Prop where
 mem : (b, Cl T cs) ∈ G
instance At.here {G : Own} {b : Nat} {T : TypeId} {cs : List Value} : At ((b, Cl T cs) :: G) b T cs := ⟨List.mem_cons_self ..⟩
instance (priority := low) At.there {G : Own} {p : Nat × Obj} {b : Nat} {T : TypeId} {cs : List Value} [h : At G b T cs] : At (p :: G) b T cs := ⟨List.mem_cons_of_mem _ h.mem⟩
/-- The owned blocks, parted at one. -/
class Split (G : Own) (b : Nat) (T : outParam TypeId) (cs : outParam (List Value)) (Ga Gb : outParam Own) : Prop where
 eq : G = Ga ++ (b, Cl T cs) :: Gb
instance Split.here {G : Own} {b : Nat} {T : TypeId} {cs : List Value} : Split ((b, Cl T cs) :: G) b T cs [] G := ⟨rfl⟩
instance (priority := low) Split.there {G : Own} {p : Nat × Obj} {b : Nat} {T : TypeId} {cs : List Value} {Ga Gb : Own} [h : Split G b T cs Ga Gb] : Split (p :: G) b T cs (p :: Ga) Gb := ⟨by rw [h.eq]; rfl⟩

theorem xr {M : PHeap} {G : Own} {b off n : Nat} {T : TypeId} {cs out : List Value} {K : List Value → Prop} [h : At G b T cs] (e : (cs.drop off).take n = out) (hl : off + n ≤ cs.length) (k : K out) : ∃ cs, rd (M.add G) b off n cs ∧ K cs := ⟨out, rd_at h.mem e hl, k⟩
theorem xi {M : PHeap} {G : Own} {b off : Nat} {T : TypeId} {cs : List Value} {α : Type} {f : α → Value} {x : α} {K : α → Prop} [h : At G b T cs] (e : (cs.drop off).take 1 = [f x]) (hl : off + 1 ≤ cs.length) (k : K x) : ∃ n, rd (M.add G) b off 1 [f n] ∧ K n := ⟨x, rd_at h.mem e hl, k⟩
theorem xs {M : PHeap} {G : Own} {b off : Nat} {T : TypeId} {cs : List Value} {a : Option Addr} {n c : Nat} {K : Option Addr → Nat → Nat → Prop} [h : At G b T cs] (e : (cs.drop off).take 1 = [.slice a n c]) (hl : off + 1 ≤ cs.length) (k : K a n c) : ∃ a n c, rd (M.add G) b off 1 [.slice a n c] ∧ K a n c := ⟨a, n, c, rd_at h.mem e hl, k⟩
theorem xw {G Ga Gb : Own} {b : Nat} {T : TypeId} {cs : List Value} {K : TypeId → List Value → Own → Own → Prop} [h : Split G b T cs Ga Gb] (k : K T cs Ga Gb) : ∃ T cs Ga Gb, G = Ga ++ (b, Cl T cs) :: Gb ∧ K T cs Ga Gb := ⟨T, cs, Ga, Gb, h.eq, k⟩

/-! ### Steps of walks, written short -/
/-- The goal, reckoned. -/
theorem nx {A B : Prop} (h : B) (e : A = B := by simp only [wpS, wpA, wpQL, push_cast, Int.cast_ofNat_Int, reduceIte, Nat.reduceEqDiff, reduceCtorEq, Nat.reduceAdd, Nat.reduceSub, Nat.reduceMul, Int.reduceToNat, Nat.reduceLeDiff]; exact rfl) : A := Eq.mpr e h
theorem nz {A B : Prop} (h : B) (e : A = B := by simp only [push_cast, Int.cast_ofNat_Int, reduceIte, Nat.reduceEqDiff, reduceCtorEq, Nat.reduceAdd, Nat.reduceSub, Nat.reduceMul, Int.reduceToNat, Nat.reduceLeDiff]; exact rfl) : A := Eq.mpr e h
/-- What cannot be. -/
theorem dead {A B : Prop} (h : A) (e : A → False := by intro h; first | exact h | exact h True.intro | omega | (simp only [not_true_eq_false, false_or, or_false] at h; omega)) : B := (e h).elim
/-- Both branches, what holds in each of them reckoned. -/
theorem EV.condX {C : Cx P} {V : List Nat} {k : List RItem} {ρ : Env} {M : PHeap} {G : Own} {c : A} {b : Bool} {x y : RCode} {p q : Prop} (hc : ev ρ c = some (.bool b)) (h1 : p → EV C V (.code x :: k) ρ M G) (h2 : q → EV C V (.code y :: k) ρ M G)
  (e1 : (b = true) = p := by first | (simp only [reduceCtorEq, reduceIte, if_true, if_false, Bool.not_eq_true', Bool.not_eq_false', decide_eq_true_eq, decide_eq_false_iff_not, Bool.and_eq_true, Bool.or_eq_true, Bool.and_eq_false_iff, Bool.or_eq_false_iff, false_and, and_false, true_and, and_true, false_or, or_false, true_or, or_true]; exact rfl) | exact rfl)
  (e2 : (b = false) = q := by first | (simp only [reduceCtorEq, reduceIte, if_true, if_false, Bool.not_eq_true', Bool.not_eq_false', decide_eq_true_eq, decide_eq_false_iff_not, Bool.and_eq_true, Bool.or_eq_true, Bool.and_eq_false_iff, Bool.or_eq_false_iff, false_and, and_false, true_and, and_true, false_or, or_false, true_or, or_true]; exact rfl) | exact rfl) : EV C V (.code (.cond c x y) :: k) ρ M G :=
 EV.cond hc (fun h => h1 (e1 ▸ h)) (fun h => h2 (e2 ▸ h))
theorem xrA {M : PHeap} {G : Own} {b off n : Nat} {T : TypeId} {cs out : List Value} {K : List Value → Prop} [h : At G b T cs] (e : (cs.drop off).take n = out) (k : K out) (hl : off + n ≤ cs.length := by simp only [List.length_cons, List.length_nil]; omega) : ∃ cs, rd (M.add G) b off n cs ∧ K cs := xr e hl k
theorem xiA {M : PHeap} {G : Own} {b off : Nat} {T : TypeId} {cs : List Value} {α : Type} {f : α → Value} {x : α} {K : α → Prop} [h : At G b T cs] (e : (cs.drop off).take 1 = [f x]) (k : K x) (hl : off + 1 ≤ cs.length := by simp only [List.length_cons, List.length_nil]; omega) : ∃ n, rd (M.add G) b off 1 [f n] ∧ K n := xi e hl k
theorem xsA {M : PHeap} {G : Own} {b off : Nat} {T : TypeId} {cs : List Value} {a : Option Addr} {n c : Nat} {K : Option Addr → Nat → Nat → Prop} [h : At G b T cs] (e : (cs.drop off).take 1 = [.slice a n c]) (k : K a n c) (hl : off + 1 ≤ cs.length := by simp only [List.length_cons, List.length_nil]; omega) : ∃ a n c, rd (M.add G) b off 1 [.slice a n c] ∧ K a n c := xs e hl k

end Go.EV

namespace Go.EV
open Go.Proofs

/- lockless/locklesslaw04.AxiomStronger -/
def Q55_0 : Sts := .op (some 2) (.box 24 (.t 0)) <|
 .op (some 4) (.mv (.c (.bool false))) <|
 .nil
def Q55_1 : Sts := .op (some 13) (.call 10 []) <|
 .op (some 14) (.notb (.t 13)) <|
 .nil
def Q55_2 : Sts := .op (some 4) (.mv (.c (.bool false))) <|
 .nil
def Q55_3 : Sts := .op (some 16) (.loadA 1 (.t 2)) <|
 .op (some 17) (.call 11 [(.t 16)]) <|
 .op (some 15) (.mv (.t 17)) <|
 .op (some 18) (.extract 0 (.t 15)) <|
 .op (some 19) (.extract 1 (.t 15)) <|
 .op (some 5) (.mv (.t 18)) <|
 .op (some 6) (.mv (.t 19)) <|
 .nil
def Q55_4 : Sts := .op (some 20) (.mv (.t 6)) <|
 .op (some 21) (.bin .neq (.t 20) (.c (.int .i64 0))) <|
 .nil
def Q55_5 : Sts := .op (some 22) (.mv (.t 5)) <|
 .op (some 23) (.len (.t 22)) <|
 .op (some 24) (.bin .eql (.t 23) (.c (.int .i64 0))) <|
 .op (some 4) (.mv (.t 24)) <|
 .nil
def Q55_6 : Sts := .op (some 25) (.loadA 1 (.t 2)) <|
 .op (some 26) (.mv (.t 1)) <|
 .op (some 27) (.call 22 [(.t 25), (.t 26)]) <|
 .op (some 7) (.alloc 24 [(.slice none 0 0)]) <|
 .op none (.store 1 (.t 7) (.t 27)) <|
 .nil
def Q55_7 : Sts := .op (some 29) (.loadA 1 (.t 7)) <|
 .op (some 30) (.loadA 1 (.t 2)) <|
 .op (some 31) (.call 23 [(.t 29), (.t 30)]) <|
 .op (some 28) (.mv (.t 31)) <|
 .op (some 32) (.extract 0 (.t 28)) <|
 .op (some 33) (.extract 1 (.t 28)) <|
 .op (some 8) (.mv (.t 32)) <|
 .op (some 9) (.mv (.t 33)) <|
 .nil
def Q55_8 : Sts := .op (some 35) (.loadA 1 (.t 7)) <|
 .op (some 36) (.call 11 [(.t 35)]) <|
 .op (some 34) (.mv (.t 36)) <|
 .op (some 37) (.extract 0 (.t 34)) <|
 .op (some 38) (.extract 1 (.t 34)) <|
 .op (some 10) (.mv (.t 37)) <|
 .op (some 11) (.mv (.t 38)) <|
 .nil
def Q55_9 : Sts := .op (some 39) (.mv (.t 11)) <|
 .op (some 40) (.bin .neq (.t 39) (.c (.int .i64 0))) <|
 .nil
def Q55_10 : Sts := .op (some 41) (.mv (.t 11)) <|
 .op (some 42) (.loadA 1 (.t 7)) <|
 .op (some 43) (.call 24 [(.t 42)]) <|
 .op (some 44) (.bin .eql (.t 41) (.t 43)) <|
 .op (some 45) (.mv (.t 44)) <|
 .cnd 45 true (
 .op (some 46) (.mv (.t 10)) <|
 .op (some 47) (.len (.t 46)) <|
 .op (some 48) (.bin .eql (.t 47) (.c (.int .i64 0))) <|
 .nil) 49 (.t 48) <|
 .op (some 4) (.mv (.t 49)) <|
 .nil
def Q55_11 : Sts := .op (some 50) (.mv (.t 8)) <|
 .op (some 51) (.notb (.t 50)) <|
 .op (some 52) (.mv (.t 51)) <|
 .cnd 52 false (
 .op (some 53) (.mv (.t 9)) <|
 .op (some 54) (.bin .neq (.t 53) (.c (.int .i64 0))) <|
 .nil) 55 (.t 54) <|
 .op (some 56) (.mv (.t 55)) <|
 .cnd 56 false (
 .op (some 57) (.mv (.t 10)) <|
 .op (some 58) (.len (.t 57)) <|
 .op (some 59) (.bin .eql (.t 58) (.c (.int .i64 0))) <|
 .nil) 60 (.t 59) <|
 .nil
def Q55_12 : Sts := .op (some 4) (.mv (.c (.bool false))) <|
 .nil
def Q55_13 : Sts := .op (some 12) (.mv (.c (.int .i64 0))) <|
 .nil
def Q55_14 : Sts := .op (some 61) (.mv (.t 12)) <|
 .op (some 62) (.mv (.t 10)) <|
 .op (some 63) (.len (.t 62)) <|
 .op (some 64) (.bin .lss (.t 61) (.t 63)) <|
 .nil
def Q55_15 : Sts := .op (some 67) (.mv (.t 5)) <|
 .op (some 68) (.mv (.t 10)) <|
 .op (some 69) (.mv (.t 12)) <|
 .op (some 70) (.iaddrS 1 (.t 68) (.t 69)) <|
 .op (some 71) (.loadS (.t 70)) <|
 .op (some 72) (.call 18 [(.t 67), (.t 71)]) <|
 .op (some 73) (.notb (.t 72)) <|
 .nil
def Q55_16 : Sts := .op (some 4) (.mv (.c (.bool false))) <|
 .nil
def Q55_17 : Sts := .op (some 65) (.mv (.t 12)) <|
 .op (some 66) (.bin .add (.t 65) (.c (.int .i64 1))) <|
 .op (some 12) (.mv (.t 66)) <|
 .nil
def Q55_L18 : RCode := (.seq (.seq (.reg Q55_14) (.cond (.t 64) .skip (.exit 0))) (.seq (.block 1 (.seq (.reg Q55_15) (.cond (.t 73) (.seq (.reg Q55_16) .ret) .skip))) (.reg Q55_17)))
def Q55_18 : Sts := .op (some 4) (.mv (.c (.bool true))) <|
 .nil
def Q55 : RFun := ⟨74, [0, 1, 2, 4, 5, 6, 7, 8, 9, 10, 11, 12], (.seq (.reg Q55_0) (.seq (.seq (.reg Q55_1) (.cond (.t 14) (.seq (.reg Q55_2) .ret) .skip)) (.seq (.reg Q55_3) (.seq (.seq (.reg Q55_4) (.cond (.t 21) (.seq (.reg Q55_5) .ret) .skip)) (.seq (.reg Q55_6) (.seq (.reg Q55_7) (.seq (.reg Q55_8) (.seq (.seq (.reg Q55_9) (.cond (.t 40) (.seq (.reg Q55_10) .ret) .skip)) (.seq (.seq (.reg Q55_11) (.cond (.t 60) (.seq (.reg Q55_12) .ret) .skip)) (.seq (.seq (.reg Q55_13) (.block 0 (.loop Q55_L18))) (.seq (.reg Q55_18) .ret))))))))))), [.tmp 4]⟩
theorem Q55_ok : compF Tryz.prog [0, 1, 2, 4, 5, 6, 7, 8, 9, 10, 11, 12] [15, 20, 31, 71, 88, 41, 76, 86, 65, 83, 81, 114, 117, 119, 122, 68, 100, 103, 104, 105, 137, 138, 64, 72, 96, 99, 158, 159, 132, 56, 93, 94, 130, 131, 155, 62, 23, 170] 5 = some Q55 := by kernel_rfl

/- lockless/locklesslaw04.awake -/
def Q56_0 : Sts := .op (some 0) (.mv (.c (.bool false))) <|
 .nil
def Q56_1 : Sts := .op (some 4) (.call 32 []) <|
 .op (some 5) (.call 11 [(.t 4)]) <|
 .op (some 3) (.mv (.t 5)) <|
 .op (some 6) (.extract 0 (.t 3)) <|
 .op (some 7) (.extract 1 (.t 3)) <|
 .op (some 1) (.mv (.t 6)) <|
 .op (some 2) (.mv (.t 7)) <|
 .nil
def Q56_2 : Sts := .op (some 8) (.mv (.t 1)) <|
 .op (some 9) (.len (.t 8)) <|
 .op (some 10) (.bin .eql (.t 9) (.c (.int .i64 4))) <|
 .op (some 11) (.mv (.t 10)) <|
 .cnd 11 true (
 .op (some 12) (.mv (.t 1)) <|
 .op (some 13) (.iaddrS 1 (.t 12) (.c (.int .i64 0))) <|
 .op (some 14) (.loadS (.t 13)) <|
 .op (some 15) (.buildSl 3 5 [(.int .i64 0), (.int .i64 0), (.int .i64 0), (.int .i64 0), (.int .i64 0)] [(0, 1, (.c (.int .i64 0))), (1, 1, (.c (.int .i64 0))), (2, 1, (.c (.int .i64 1))), (3, 1, (.c (.int .i64 1))), (4, 1, (.c (.int .i64 0)))]) <|
 .op (some 16) (.call 20 [(.t 14), (.t 15)]) <|
 .nil) 17 (.t 16) <|
 .op (some 18) (.mv (.t 17)) <|
 .cnd 18 true (
 .op (some 19) (.mv (.t 2)) <|
 .op (some 20) (.bin .eql (.t 19) (.c (.int .i64 0))) <|
 .nil) 21 (.t 20) <|
 .op (some 0) (.mv (.t 21)) <|
 .nil
def Q56 : RFun := ⟨22, [0, 1, 2], (.seq (.reg Q56_0) (.seq (.reg Q56_1) (.seq (.reg Q56_2) .ret))), [.tmp 0]⟩
theorem Q56_ok : compF Tryz.prog [0, 1, 2] [15, 20, 31, 71, 88, 41, 76, 86, 65, 83, 81, 114, 117, 119, 122, 68, 100, 103, 104, 105, 137, 138, 64, 72, 96, 99, 158, 159, 132, 56, 93, 94, 130, 131, 155, 62, 23, 170] 10 = some Q56 := by kernel_rfl

/- lockless/axiom.Outcomes -/
def Q1_0 : Sts := .op (some 1) (.box 24 (.t 0)) <|
 .op (some 2) (.mv (.c (.slice none 0 0))) <|
 .op (some 3) (.mv (.c (.int .i64 0))) <|
 .nil
def Q1_1 : Sts := .op (some 9) (.loadA 1 (.t 1)) <|
 .op (some 10) (.call 33 [(.t 9)]) <|
 .op (some 8) (.mv (.t 10)) <|
 .op (some 11) (.extract 0 (.t 8)) <|
 .op (some 12) (.extract 1 (.t 8)) <|
 .op (some 4) (.alloc 74 [(.slice none 0 0)]) <|
 .op none (.store 1 (.t 4) (.t 11)) <|
 .op (some 5) (.mv (.t 12)) <|
 .nil
def Q1_2 : Sts := .op (some 13) (.mv (.t 5)) <|
 .op (some 14) (.bin .neq (.t 13) (.c (.int .i64 0))) <|
 .nil
def Q1_3 : Sts := .op (some 15) (.mv (.t 5)) <|
 .op (some 2) (.mv (.c (.slice none 0 0))) <|
 .op (some 3) (.mv (.t 15)) <|
 .nil
def Q1_4 : Sts := .op (some 6) (.alloc 26 [(.slice none 0 0)]) <|
 .nil
def Q1_5 : Sts := .op (some 16) (.loadS (.t 4)) <|
 .op (some 17) (.call 34 [(.t 16)]) <|
 .nil
def Q1_6 : Sts := .op (some 7) (.alloc 45 [(.slice none 0 0), (.slice none 0 0), (.slice none 0 0), (.slice none 0 0)]) <|
 .op none (.store 4 (.t 7) (.t 18)) <|
 .nil
def Q1_7 : AT := .q (.op 0 (some 19) (.loadS (.t 6)) <|
 .op 1 (some 20) (.loadS (.t 4)) <|
 .op 2 (some 21) (.loadA 4 (.t 7)) <|
 .nil) <|
 .s 3 (some 22) (.call 35 [(.t 20), (.t 21)]) false (
 .q (.nil) <|
 .s 4 (some 23) (.buildSl 34 1 [(.slice none 0 0)] [(0, 1, (.t 22))]) false (
 .q (.nil) <|
 .s 5 (some 24) (.append 34 1 24 [(.slice none 0 0)] (.t 19) (.t 23)) true (
 .q (.nil) <|
 .s 6 none (.store 1 (.t 6) (.t 24)) true (
 .q (.nil) <|
 .fin) <|
 .no) <|
 .no) <|
 .no) <|
 .no
def Q1_8 : Sts := .op (some 25) (.loadS (.t 6)) <|
 .op (some 26) (.len (.t 25)) <|
 .op (some 27) (.bin .gtr (.t 26) (.c (.int .i64 4096))) <|
 .nil
def Q1_9 : Sts := .op (some 28) (.loadS (.t 6)) <|
 .op (some 29) (.call 36 [(.t 28)]) <|
 .op none (.store 1 (.t 6) (.t 29)) <|
 .nil
def R_axiom_Outcomes_A10 : RCode := (.reg Q1_6)
def R_axiom_Outcomes_B10 : RCode := (.block 1 (.seq (.any Q1_7) (.seq (.reg Q1_8) (.cond (.t 27) (.reg Q1_9) .skip))))
def Q1_11 : Sts := .op (some 30) (.loadS (.t 6)) <|
 .op (some 31) (.call 36 [(.t 30)]) <|
 .op (some 2) (.mv (.t 31)) <|
 .op (some 3) (.mv (.c (.int .i64 0))) <|
 .nil
def Q1 : RFun := ⟨32, [0, 1, 2, 3, 4, 5, 6, 7, 17, 18], (.seq (.reg Q1_0) (.seq (.reg Q1_1) (.seq (.seq (.reg Q1_2) (.cond (.t 14) (.seq (.reg Q1_3) .ret) .skip)) (.seq (.reg Q1_4) (.seq (.seq (.reg Q1_5) (.block 0 (.rangeF (.t 17) [18] R_axiom_Outcomes_A10 R_axiom_Outcomes_B10))) (.seq (.reg Q1_11) .ret)))))), [.tmp 2, .tmp 3]⟩
theorem Q1_ok : compF Tryz.prog [0, 1, 2, 3, 4, 5, 6, 7, 17, 18] [15, 20, 31, 71, 88, 41, 76, 86, 65, 83, 81, 114, 117, 119, 122, 68, 100, 103, 104, 105, 137, 138, 64, 72, 96, 99, 158, 159, 132, 56, 93, 94, 130, 131, 155, 62, 23, 170] 11 = some Q1 := by kernel_rfl

/- lockless/locklessref01.Within -/
def Q61_0 : Sts := .op (some 4) (.mv (.c (.bool false))) <|
 .nil
def Q61_1 : Sts := .op (some 5) (.mv (.c (.int .i64 0))) <|
 .nil
def Q61_2 : Sts := .op (some 8) (.mv (.t 0)) <|
 .op (some 9) (.len (.t 8)) <|
 .op (some 6) (.mv (.t 9)) <|
 .nil
def Q61_3 : Sts := .op (some 10) (.mv (.t 5)) <|
 .op (some 11) (.mv (.t 6)) <|
 .op (some 12) (.bin .lss (.t 10) (.t 11)) <|
 .nil
def Q61_4 : Sts := .op (some 13) (.mv (.t 5)) <|
 .op (some 14) (.mv (.t 6)) <|
 .op (some 15) (.bin .add (.t 13) (.t 14)) <|
 .op (some 16) (.bin .quo (.t 15) (.c (.int .i64 2))) <|
 .op (some 7) (.mv (.t 16)) <|
 .nil
def Q61_5 : Sts := .op (some 17) (.mv (.t 0)) <|
 .op (some 18) (.mv (.t 7)) <|
 .op (some 19) (.iaddrS 1 (.t 17) (.t 18)) <|
 .op (some 20) (.loadS (.t 19)) <|
 .op (some 21) (.mv (.t 1)) <|
 .op (some 22) (.call 31 [(.t 20), (.t 21)]) <|
 .nil
def Q61_6 : Sts := .op (some 23) (.mv (.t 7)) <|
 .op (some 24) (.bin .add (.t 23) (.c (.int .i64 1))) <|
 .op (some 5) (.mv (.t 24)) <|
 .nil
def Q61_7 : Sts := .op (some 25) (.mv (.t 7)) <|
 .op (some 6) (.mv (.t 25)) <|
 .nil
def Q61_L8 : RCode := (.seq (.seq (.reg Q61_3) (.cond (.t 12) .skip (.exit 0))) (.block 1 (.seq (.reg Q61_4) (.seq (.reg Q61_5) (.cond (.t 22) (.reg Q61_6) (.reg Q61_7))))))
def Q61_8 : Sts := .op (some 26) (.mv (.t 5)) <|
 .op (some 27) (.mv (.t 0)) <|
 .op (some 28) (.len (.t 27)) <|
 .op (some 29) (.bin .lss (.t 26) (.t 28)) <|
 .op (some 30) (.mv (.t 29)) <|
 .cnd 30 true (
 .op (some 31) (.mv (.t 0)) <|
 .op (some 32) (.mv (.t 5)) <|
 .op (some 33) (.iaddrS 1 (.t 31) (.t 32)) <|
 .op (some 34) (.loadS (.t 33)) <|
 .op (some 35) (.mv (.t 1)) <|
 .op (some 36) (.call 20 [(.t 34), (.t 35)]) <|
 .nil) 37 (.t 36) <|
 .op (some 4) (.mv (.t 37)) <|
 .nil
def Q61 : RFun := ⟨38, [0, 1, 4, 5, 6, 7], (.seq (.reg Q61_0) (.seq (.reg Q61_1) (.seq (.reg Q61_2) (.seq (.block 0 (.loop Q61_L8)) (.seq (.reg Q61_8) .ret))))), [.tmp 4]⟩
theorem Q61_ok : compF Tryz.prog [0, 1, 4, 5, 6, 7] [15, 20, 31, 71, 88, 41, 76, 86, 65, 83, 81, 114, 117, 119, 122, 68, 100, 103, 104, 105, 137, 138, 64, 72, 96, 99, 158, 159, 132, 56, 93, 94, 130, 131, 155, 62, 23, 170] 18 = some Q61 := by kernel_rfl

/- lockless/locklessref01.Ints -/
def Q59_0 : Sts := .op (some 4) (.mv (.c (.bool false))) <|
 .nil
def Q59_1 : Sts := .op (some 6) (.mv (.t 0)) <|
 .op (some 7) (.len (.t 6)) <|
 .op (some 8) (.mv (.t 1)) <|
 .op (some 9) (.len (.t 8)) <|
 .op (some 10) (.bin .neq (.t 7) (.t 9)) <|
 .nil
def Q59_2 : Sts := .op (some 4) (.mv (.c (.bool false))) <|
 .nil
def Q59_3 : Sts := .op (some 5) (.mv (.c (.int .i64 0))) <|
 .nil
def Q59_4 : Sts := .op (some 11) (.mv (.t 5)) <|
 .op (some 12) (.mv (.t 0)) <|
 .op (some 13) (.len (.t 12)) <|
 .op (some 14) (.bin .lss (.t 11) (.t 13)) <|
 .nil
def Q59_5 : AT := .q (.op 0 (some 17) (.mv (.t 0)) <|
 .op 1 (some 18) (.mv (.t 5)) <|
 .op 2 (some 19) (.iaddrS 1 (.t 17) (.t 18)) <|
 .op 3 (some 20) (.loadI .i64 (.t 19)) <|
 .op 4 (some 21) (.mv (.t 1)) <|
 .op 5 (some 22) (.mv (.t 5)) <|
 .op 6 (some 23) (.iaddrS 1 (.t 21) (.t 22)) <|
 .op 7 (some 24) (.loadI .i64 (.t 23)) <|
 .op 8 (some 25) (.bin .neq (.t 20) (.t 24)) <|
 .nil) <|
 .fin
def Q59_6 : Sts := .op (some 4) (.mv (.c (.bool false))) <|
 .nil
def Q59_7 : Sts := .op (some 15) (.mv (.t 5)) <|
 .op (some 16) (.bin .add (.t 15) (.c (.int .i64 1))) <|
 .op (some 5) (.mv (.t 16)) <|
 .nil
def Q59_L8 : RCode := (.seq (.seq (.reg Q59_4) (.cond (.t 14) .skip (.exit 0))) (.seq (.block 1 (.seq (.any Q59_5) (.cond (.t 25) (.seq (.reg Q59_6) .ret) .skip))) (.reg Q59_7)))
def Q59_8 : Sts := .op (some 4) (.mv (.c (.bool true))) <|
 .nil
def Q59 : RFun := ⟨26, [0, 1, 4, 5], (.seq (.reg Q59_0) (.seq (.seq (.reg Q59_1) (.cond (.t 10) (.seq (.reg Q59_2) .ret) .skip)) (.seq (.seq (.reg Q59_3) (.block 0 (.loop Q59_L8))) (.seq (.reg Q59_8) .ret)))), [.tmp 4]⟩
theorem Q59_ok : compF Tryz.prog [0, 1, 4, 5] [15, 20, 31, 71, 88, 41, 76, 86, 65, 83, 81, 114, 117, 119, 122, 68, 100, 103, 104, 105, 137, 138, 64, 72, 96, 99, 158, 159, 132, 56, 93, 94, 130, 131, 155, 62, 23, 170] 20 = some Q59 := by kernel_rfl

/- lockless/locklesslaw04.raised -/
def Q58_0 : Sts := .op (some 2) (.box 24 (.t 0)) <|
 .op (some 4) (.alloc 24 [(.slice none 0 0)]) <|
 .nil
def Q58_1 : Sts := .op (some 14) (.loadA 1 (.t 2)) <|
 .op (some 15) (.call 57 [(.t 14)]) <|
 .op (some 5) (.alloc 24 [(.slice none 0 0)]) <|
 .op none (.store 1 (.t 5) (.t 15)) <|
 .nil
def Q58_2 : Sts := .op (some 6) (.mv (.c (.int .i64 0))) <|
 .nil
def Q58_3 : Sts := .op (some 7) (.mv (.c (.int .i64 0))) <|
 .nil
def Q58_4 : Sts := .op (some 16) (.mv (.t 7)) <|
 .op (some 17) (.faddr 0 (.t 5)) <|
 .op (some 18) (.loadS (.t 17)) <|
 .op (some 19) (.len (.t 18)) <|
 .op (some 20) (.bin .lss (.t 16) (.t 19)) <|
 .nil
def Q58_5 : Sts := .op (some 8) (.mv (.c (.int .i64 0))) <|
 .nil
def Q58_6 : Sts := .op (some 23) (.mv (.t 8)) <|
 .op (some 24) (.faddr 0 (.t 5)) <|
 .op (some 25) (.loadS (.t 24)) <|
 .op (some 26) (.mv (.t 7)) <|
 .op (some 27) (.iaddrS 1 (.t 25) (.t 26)) <|
 .op (some 28) (.loadS (.t 27)) <|
 .op (some 29) (.len (.t 28)) <|
 .op (some 30) (.bin .lss (.t 23) (.t 29)) <|
 .nil
def Q58_7 : Sts := .op (some 33) (.mv (.t 6)) <|
 .op (some 34) (.mv (.t 1)) <|
 .op (some 35) (.len (.t 34)) <|
 .op (some 36) (.bin .lss (.t 33) (.t 35)) <|
 .nil
def Q58_8 : Sts := .op (some 37) (.faddr 0 (.t 5)) <|
 .op (some 38) (.loadS (.t 37)) <|
 .op (some 39) (.mv (.t 7)) <|
 .op (some 40) (.iaddrS 1 (.t 38) (.t 39)) <|
 .op (some 41) (.loadS (.t 40)) <|
 .op (some 42) (.mv (.t 8)) <|
 .op (some 43) (.iaddrS 5 (.t 41) (.t 42)) <|
 .op (some 44) (.loadA 5 (.t 43)) <|
 .op (some 9) (.alloc 83 [(.int .i64 0), (.int .i64 0), (.int .i64 0), (.int .i64 0), (.int .i64 0)]) <|
 .op none (.store 5 (.t 9) (.t 44)) <|
 .nil
def Q58_9 : Sts := .op (some 45) (.mv (.t 1)) <|
 .op (some 46) (.mv (.t 6)) <|
 .op (some 47) (.iaddrS 1 (.t 45) (.t 46)) <|
 .op (some 48) (.loadI .i64 (.t 47)) <|
 .op (some 49) (.conv .u64 (.t 48)) <|
 .op (some 50) (.bin .rem (.t 49) (.c (.int .u64 5))) <|
 .op (some 51) (.conv .i64 (.t 50)) <|
 .op (some 52) (.faddr 4 (.t 9)) <|
 .op none (.store 1 (.t 52) (.t 51)) <|
 .nil
def Q58_10 : Sts := .op (some 53) (.loadA 5 (.t 9)) <|
 .op (some 54) (.buildSl 83 1 [(.int .i64 0), (.int .i64 0), (.int .i64 0), (.int .i64 0), (.int .i64 0)] [(0, 5, (.t 53))]) <|
 .op (some 55) (.buildSl 70 1 [(.slice none 0 0)] [(0, 1, (.t 54))]) <|
 .op (some 56) (.build [(.slice none 0 0)] [(0, 1, (.t 55))]) <|
 .op (some 10) (.alloc 24 [(.slice none 0 0)]) <|
 .op none (.store 1 (.t 10) (.t 56)) <|
 .nil
def Q58_11 : Sts := .op (some 57) (.faddr 0 (.t 5)) <|
 .op (some 58) (.loadS (.t 57)) <|
 .op (some 59) (.mv (.t 7)) <|
 .op (some 60) (.iaddrS 1 (.t 58) (.t 59)) <|
 .op (some 61) (.loadS (.t 60)) <|
 .op (some 62) (.mv (.t 8)) <|
 .op (some 63) (.iaddrS 5 (.t 61) (.t 62)) <|
 .op (some 64) (.loadA 5 (.t 63)) <|
 .op (some 65) (.buildSl 83 1 [(.int .i64 0), (.int .i64 0), (.int .i64 0), (.int .i64 0), (.int .i64 0)] [(0, 5, (.t 64))]) <|
 .op (some 66) (.buildSl 70 1 [(.slice none 0 0)] [(0, 1, (.t 65))]) <|
 .op (some 67) (.build [(.slice none 0 0)] [(0, 1, (.t 66))]) <|
 .op (some 11) (.alloc 24 [(.slice none 0 0)]) <|
 .op none (.store 1 (.t 11) (.t 67)) <|
 .nil
def Q58_12 : Sts := .op (some 69) (.loadA 1 (.t 10)) <|
 .op (some 70) (.loadA 1 (.t 11)) <|
 .op (some 71) (.call 23 [(.t 69), (.t 70)]) <|
 .op (some 68) (.mv (.t 71)) <|
 .op (some 72) (.extract 0 (.t 68)) <|
 .op (some 73) (.extract 1 (.t 68)) <|
 .op (some 12) (.mv (.t 72)) <|
 .op (some 13) (.mv (.t 73)) <|
 .nil
def Q58_13 : Sts := .op (some 74) (.mv (.t 12)) <|
 .op (some 75) (.mv (.t 74)) <|
 .cnd 75 true (
 .op (some 76) (.mv (.t 13)) <|
 .op (some 77) (.bin .eql (.t 76) (.c (.int .i64 0))) <|
 .nil) 78 (.t 77) <|
 .nil
def Q58_14 : AT := .q (.op 0 (some 79) (.faddr 0 (.t 5)) <|
 .op 1 (some 80) (.loadS (.t 79)) <|
 .op 2 (some 81) (.mv (.t 7)) <|
 .op 3 (some 82) (.iaddrS 1 (.t 80) (.t 81)) <|
 .op 4 (some 83) (.loadS (.t 82)) <|
 .op 5 (some 84) (.mv (.t 8)) <|
 .op 6 (some 85) (.loadA 5 (.t 9)) <|
 .op 7 (some 86) (.iaddrS 5 (.t 83) (.t 84)) <|
 .nil) <|
 .s 8 none (.store 5 (.t 86) (.t 85)) true (
 .q (.nil) <|
 .fin) <|
 .no
def Q58_15 : Sts := .op (some 87) (.mv (.t 6)) <|
 .op (some 88) (.bin .add (.t 87) (.c (.int .i64 1))) <|
 .op (some 6) (.mv (.t 88)) <|
 .nil
def Q58_16 : Sts := .op (some 31) (.mv (.t 8)) <|
 .op (some 32) (.bin .add (.t 31) (.c (.int .i64 1))) <|
 .op (some 8) (.mv (.t 32)) <|
 .nil
def Q58_L17 : RCode := (.seq (.seq (.reg Q58_6) (.cond (.t 30) .skip (.exit 2))) (.seq (.block 3 (.seq (.seq (.reg Q58_7) (.cond (.t 36) (.seq (.reg Q58_8) (.seq (.reg Q58_9) (.seq (.reg Q58_10) (.seq (.reg Q58_11) (.seq (.reg Q58_12) (.seq (.reg Q58_13) (.cond (.t 78) (.any Q58_14) .skip))))))) .skip)) (.reg Q58_15))) (.reg Q58_16)))
def Q58_17 : Sts := .op (some 21) (.mv (.t 7)) <|
 .op (some 22) (.bin .add (.t 21) (.c (.int .i64 1))) <|
 .op (some 7) (.mv (.t 22)) <|
 .nil
def Q58_L18 : RCode := (.seq (.seq (.reg Q58_4) (.cond (.t 20) .skip (.exit 0))) (.seq (.block 1 (.seq (.reg Q58_5) (.block 2 (.loop Q58_L17)))) (.reg Q58_17)))
def Q58_18 : Sts := .op (some 89) (.loadA 1 (.t 5)) <|
 .op none (.store 1 (.t 4) (.t 89)) <|
 .nil
def Q58 : RFun := ⟨90, [0, 1, 2, 4, 5, 6, 7, 8, 9, 10, 11, 12, 13], (.seq (.reg Q58_0) (.seq (.reg Q58_1) (.seq (.reg Q58_2) (.seq (.seq (.reg Q58_3) (.block 0 (.loop Q58_L18))) (.seq (.reg Q58_18) .ret))))), [.cellA 4 1]⟩
theorem Q58_ok : compF Tryz.prog [0, 1, 2, 4, 5, 6, 7, 8, 9, 10, 11, 12, 13] [15, 20, 31, 71, 88, 41, 76, 86, 65, 83, 81, 114, 117, 119, 122, 68, 100, 103, 104, 105, 137, 138, 64, 72, 96, 99, 158, 159, 132, 56, 93, 94, 130, 131, 155, 62, 23, 170] 22 = some Q58 := by kernel_rfl

/- lockless/litmus.AtLeast -/
def Q43_0 : Sts := .op (some 2) (.box 24 (.t 0)) <|
 .op (some 3) (.box 24 (.t 1)) <|
 .op (some 4) (.mv (.c (.bool false))) <|
 .op (some 5) (.mv (.c (.int .i64 0))) <|
 .nil
def Q43_1 : Sts := .op (some 9) (.loadA 1 (.t 2)) <|
 .op (some 10) (.loadA 1 (.t 3)) <|
 .op (some 11) (.buildSl 24 2 [(.slice none 0 0), (.slice none 0 0)] [(0, 1, (.t 9)), (1, 1, (.t 10))]) <|
 .op (some 12) (.len (.t 11)) <|
 .op (some 13) (.mv (.c (.int .i64 0))) <|
 .nil
def Q43_2 : Sts := .op (some 14) (.bin .lss (.t 13) (.t 12)) <|
 .nil
def Q43_3 : Sts := .op (some 15) (.iaddrS 1 (.t 11) (.t 13)) <|
 .op (some 16) (.loadA 1 (.t 15)) <|
 .op (some 7) (.alloc 24 [(.slice none 0 0)]) <|
 .op none (.store 1 (.t 7) (.t 16)) <|
 .nil
def Q43_4 : Sts := .op (some 17) (.loadA 1 (.t 7)) <|
 .op (some 18) (.call 24 [(.t 17)]) <|
 .op (some 8) (.mv (.t 18)) <|
 .nil
def Q43_5 : Sts := .op (some 19) (.mv (.t 8)) <|
 .op (some 20) (.bin .neq (.t 19) (.c (.int .i64 0))) <|
 .nil
def Q43_6 : Sts := .op (some 21) (.mv (.t 8)) <|
 .op (some 4) (.mv (.c (.bool false))) <|
 .op (some 5) (.mv (.t 21)) <|
 .nil
def Q43_7 : Sts := .op (some 22) (.bin .add (.t 13) (.c (.int .i64 1))) <|
 .op (some 13) (.mv (.t 22)) <|
 .nil
def Q43_L8 : RCode := (.seq (.reg Q43_2) (.seq (.cond (.t 14) .skip (.exit 0)) (.seq (.block 1 (.seq (.reg Q43_3) (.seq (.reg Q43_4) (.seq (.reg Q43_5) (.cond (.t 20) (.seq (.reg Q43_6) .ret) .skip))))) (.reg Q43_7))))
def Q43_8 : Sts := .op (some 23) (.faddr 0 (.t 2)) <|
 .op (some 24) (.loadS (.t 23)) <|
 .op (some 25) (.faddr 0 (.t 3)) <|
 .op (some 26) (.loadS (.t 25)) <|
 .op (some 27) (.call 58 [(.t 24), (.t 26), (.c (.func (.func 59) #[] #[]))]) <|
 .op (some 4) (.mv (.t 27)) <|
 .op (some 5) (.mv (.c (.int .i64 0))) <|
 .nil
def Q43 : RFun := ⟨28, [0, 1, 2, 3, 4, 5, 7, 8, 11, 12, 13], (.seq (.reg Q43_0) (.seq (.seq (.reg Q43_1) (.block 0 (.loop Q43_L8))) (.seq (.reg Q43_8) .ret))), [.tmp 4, .tmp 5]⟩
theorem Q43_ok : compF Tryz.prog [0, 1, 2, 3, 4, 5, 7, 8, 11, 12, 13] [15, 20, 31, 71, 88, 41, 76, 86, 65, 83, 81, 114, 117, 119, 122, 68, 100, 103, 104, 105, 137, 138, 64, 72, 96, 99, 158, 159, 132, 56, 93, 94, 130, 131, 155, 62, 23, 170] 23 = some Q43 := by kernel_rfl

/- lockless/litmus.Check -/
def Q46_0 : Sts := .op (some 1) (.box 24 (.t 0)) <|
 .op (some 2) (.mv (.c (.int .i64 0))) <|
 .nil
def Q46_1 : Sts := .op (some 9) (.loadA 1 (.t 1)) <|
 .op (some 10) (.call 63 [(.t 9)]) <|
 .op (some 11) (.notb (.t 10)) <|
 .nil
def Q46_2 : Sts := .op (some 2) (.mv (.c (.int .i64 2))) <|
 .nil
def Q46_3 : Sts := .op (some 12) (.faddr 0 (.t 1)) <|
 .op (some 13) (.loadS (.t 12)) <|
 .op (some 14) (.len (.t 13)) <|
 .op (some 15) (.bin .eql (.t 14) (.c (.int .i64 0))) <|
 .nil
def Q46_4 : Sts := .op (some 2) (.mv (.c (.int .i64 1))) <|
 .nil
def Q46_5 : Sts := .op (some 16) (.faddr 0 (.t 1)) <|
 .op (some 17) (.loadS (.t 16)) <|
 .op (some 18) (.len (.t 17)) <|
 .op (some 19) (.mv (.c (.int .i64 0))) <|
 .nil
def Q46_6 : Sts := .op (some 20) (.bin .lss (.t 19) (.t 18)) <|
 .nil
def Q46_7 : Sts := .op (some 21) (.iaddrS 1 (.t 17) (.t 19)) <|
 .op (some 22) (.loadS (.t 21)) <|
 .op (some 4) (.mv (.t 22)) <|
 .nil
def Q46_8 : Sts := .op (some 23) (.mv (.t 4)) <|
 .op (some 24) (.len (.t 23)) <|
 .op (some 25) (.mv (.c (.int .i64 0))) <|
 .nil
def Q46_9 : Sts := .op (some 26) (.bin .lss (.t 25) (.t 24)) <|
 .nil
def Q46_10 : Sts := .op (some 27) (.iaddrS 5 (.t 23) (.t 25)) <|
 .op (some 28) (.loadA 5 (.t 27)) <|
 .op (some 6) (.alloc 83 [(.int .i64 0), (.int .i64 0), (.int .i64 0), (.int .i64 0), (.int .i64 0)]) <|
 .op none (.store 5 (.t 6) (.t 28)) <|
 .nil
def Q46_11 : Sts := .op (some 30) (.faddr 0 (.t 6)) <|
 .op (some 31) (.loadI .i64 (.t 30)) <|
 .op (some 32) (.faddr 4 (.t 6)) <|
 .op (some 33) (.loadI .i64 (.t 32)) <|
 .op (some 34) (.call 64 [(.t 31), (.t 33)]) <|
 .op (some 29) (.mv (.t 34)) <|
 .op (some 35) (.extract 0 (.t 29)) <|
 .op (some 36) (.extract 1 (.t 29)) <|
 .op (some 7) (.mv (.t 35)) <|
 .op (some 8) (.mv (.t 36)) <|
 .nil
def Q46_12 : Sts := .op (some 37) (.mv (.t 8)) <|
 .op (some 38) (.bin .neq (.t 37) (.c (.int .i64 0))) <|
 .op (some 39) (.mv (.t 38)) <|
 .cnd 39 false (
 .op (some 40) (.mv (.t 7)) <|
 .op (some 41) (.notb (.t 40)) <|
 .nil) 42 (.t 41) <|
 .op (some 43) (.mv (.t 42)) <|
 .cnd 43 false (
 .op (some 44) (.loadA 5 (.t 6)) <|
 .op (some 45) (.call 65 [(.t 44)]) <|
 .op (some 46) (.notb (.t 45)) <|
 .nil) 47 (.t 46) <|
 .nil
def Q46_13 : Sts := .op (some 2) (.mv (.c (.int .i64 1))) <|
 .nil
def Q46_14 : Sts := .op (some 48) (.bin .add (.t 25) (.c (.int .i64 1))) <|
 .op (some 25) (.mv (.t 48)) <|
 .nil
def Q46_L15 : RCode := (.seq (.reg Q46_9) (.seq (.cond (.t 26) .skip (.exit 2)) (.seq (.block 3 (.seq (.reg Q46_10) (.seq (.reg Q46_11) (.seq (.reg Q46_12) (.cond (.t 47) (.seq (.reg Q46_13) .ret) .skip))))) (.reg Q46_14))))
def Q46_15 : Sts := .op (some 49) (.bin .add (.t 19) (.c (.int .i64 1))) <|
 .op (some 19) (.mv (.t 49)) <|
 .nil
def Q46_L16 : RCode := (.seq (.reg Q46_6) (.seq (.cond (.t 20) .skip (.exit 0)) (.seq (.block 1 (.seq (.reg Q46_7) (.seq (.reg Q46_8) (.block 2 (.loop Q46_L15))))) (.reg Q46_15))))
def Q46_16 : Sts := .op (some 2) (.mv (.c (.int .i64 0))) <|
 .nil
def Q46 : RFun := ⟨50, [0, 1, 2, 4, 6, 7, 8, 17, 18, 19, 23, 24, 25], (.seq (.reg Q46_0) (.seq (.seq (.reg Q46_1) (.cond (.t 11) (.seq (.reg Q46_2) .ret) .skip)) (.seq (.seq (.reg Q46_3) (.cond (.t 15) (.seq (.reg Q46_4) .ret) .skip)) (.seq (.seq (.reg Q46_5) (.block 0 (.loop Q46_L16))) (.seq (.reg Q46_16) .ret))))), [.tmp 2]⟩
theorem Q46_ok : compF Tryz.prog [0, 1, 2, 4, 6, 7, 8, 17, 18, 19, 23, 24, 25] [15, 20, 31, 71, 88, 41, 76, 86, 65, 83, 81, 114, 117, 119, 122, 68, 100, 103, 104, 105, 137, 138, 64, 72, 96, 99, 158, 159, 132, 56, 93, 94, 130, 131, 155, 62, 23, 170] 24 = some Q46 := by kernel_rfl

/- lockless/litmus.Expand -/
def Q47_0 : Sts := .op (some 1) (.box 24 (.t 0)) <|
 .op (some 2) (.alloc 24 [(.slice none 0 0)]) <|
 .op (some 3) (.mv (.c (.int .i64 0))) <|
 .nil
def Q47_1 : Sts := .op (some 5) (.loadA 1 (.t 1)) <|
 .op (some 6) (.call 24 [(.t 5)]) <|
 .op (some 4) (.mv (.t 6)) <|
 .nil
def Q47_2 : Sts := .op (some 7) (.mv (.t 4)) <|
 .op (some 8) (.bin .neq (.t 7) (.c (.int .i64 0))) <|
 .nil
def Q47_3 : Sts := .op (some 9) (.build [(.slice none 0 0)] []) <|
 .op (some 10) (.mv (.t 4)) <|
 .op none (.store 1 (.t 2) (.t 9)) <|
 .op (some 3) (.mv (.t 10)) <|
 .nil
def Q47_4 : Sts := .op (some 11) (.loadA 1 (.t 1)) <|
 .op (some 12) (.call 69 [(.t 11), (.c (.func (.func 70) #[] #[]))]) <|
 .op none (.store 1 (.t 2) (.t 12)) <|
 .op (some 3) (.mv (.c (.int .i64 0))) <|
 .nil
def Q47 : RFun := ⟨13, [0, 1, 2, 3, 4], (.seq (.reg Q47_0) (.seq (.seq (.reg Q47_1) (.seq (.reg Q47_2) (.cond (.t 8) (.seq (.reg Q47_3) .ret) .skip))) (.seq (.reg Q47_4) .ret))), [.cellA 2 1, .tmp 3]⟩
theorem Q47_ok : compF Tryz.prog [0, 1, 2, 3, 4] [15, 20, 31, 71, 88, 41, 76, 86, 65, 83, 81, 114, 117, 119, 122, 68, 100, 103, 104, 105, 137, 138, 64, 72, 96, 99, 158, 159, 132, 56, 93, 94, 130, 131, 155, 62, 23, 170] 30 = some Q47 := by kernel_rfl

/- lockless/locklessref01.Less -/
def Q60_0 : Sts := .op (some 4) (.mv (.c (.bool false))) <|
 .nil
def Q60_1 : Sts := .op (some 5) (.mv (.c (.int .i64 0))) <|
 .nil
def Q60_2 : Sts := .op (some 6) (.mv (.t 5)) <|
 .op (some 7) (.mv (.t 0)) <|
 .op (some 8) (.len (.t 7)) <|
 .op (some 9) (.bin .lss (.t 6) (.t 8)) <|
 .op (some 10) (.mv (.t 9)) <|
 .cnd 10 true (
 .op (some 11) (.mv (.t 5)) <|
 .op (some 12) (.mv (.t 1)) <|
 .op (some 13) (.len (.t 12)) <|
 .op (some 14) (.bin .lss (.t 11) (.t 13)) <|
 .nil) 15 (.t 14) <|
 .nil
def Q60_3 : AT := .q (.op 0 (some 18) (.mv (.t 0)) <|
 .op 1 (some 19) (.mv (.t 5)) <|
 .op 2 (some 20) (.iaddrS 1 (.t 18) (.t 19)) <|
 .op 3 (some 21) (.loadI .i64 (.t 20)) <|
 .op 4 (some 22) (.mv (.t 1)) <|
 .op 5 (some 23) (.mv (.t 5)) <|
 .op 6 (some 24) (.iaddrS 1 (.t 22) (.t 23)) <|
 .op 7 (some 25) (.loadI .i64 (.t 24)) <|
 .op 8 (some 26) (.bin .neq (.t 21) (.t 25)) <|
 .nil) <|
 .fin
def Q60_4 : AT := .q (.op 0 (some 27) (.mv (.t 0)) <|
 .op 1 (some 28) (.mv (.t 5)) <|
 .op 2 (some 29) (.iaddrS 1 (.t 27) (.t 28)) <|
 .op 3 (some 30) (.loadI .i64 (.t 29)) <|
 .op 4 (some 31) (.mv (.t 1)) <|
 .op 5 (some 32) (.mv (.t 5)) <|
 .op 6 (some 33) (.iaddrS 1 (.t 31) (.t 32)) <|
 .op 7 (some 34) (.loadI .i64 (.t 33)) <|
 .op 8 (some 35) (.bin .lss (.t 30) (.t 34)) <|
 .op 9 (some 4) (.mv (.t 35)) <|
 .nil) <|
 .fin
def Q60_5 : Sts := .op (some 16) (.mv (.t 5)) <|
 .op (some 17) (.bin .add (.t 16) (.c (.int .i64 1))) <|
 .op (some 5) (.mv (.t 17)) <|
 .nil
def Q60_L6 : RCode := (.seq (.seq (.reg Q60_2) (.cond (.t 15) .skip (.exit 0))) (.seq (.block 1 (.seq (.any Q60_3) (.cond (.t 26) (.seq (.any Q60_4) .ret) .skip))) (.reg Q60_5)))
def Q60_6 : Sts := .op (some 36) (.mv (.t 0)) <|
 .op (some 37) (.len (.t 36)) <|
 .op (some 38) (.mv (.t 1)) <|
 .op (some 39) (.len (.t 38)) <|
 .op (some 40) (.bin .lss (.t 37) (.t 39)) <|
 .op (some 4) (.mv (.t 40)) <|
 .nil
def Q60 : RFun := ⟨41, [0, 1, 4, 5], (.seq (.reg Q60_0) (.seq (.seq (.reg Q60_1) (.block 0 (.loop Q60_L6))) (.seq (.reg Q60_6) .ret))), [.tmp 4]⟩
theorem Q60_ok : compF Tryz.prog [0, 1, 4, 5] [15, 20, 31, 71, 88, 41, 76, 86, 65, 83, 81, 114, 117, 119, 122, 68, 100, 103, 104, 105, 137, 138, 64, 72, 96, 99, 158, 159, 132, 56, 93, 94, 130, 131, 155, 62, 23, 170] 31 = some Q60 := by kernel_rfl

/- lockless/locklesslaw04.buffers -/
def Q57_0 : Sts := .op (some 0) (.alloc 24 [(.slice none 0 0)]) <|
 .nil
def Q57_1 : Sts := .op (some 1) (.build [(.int .i64 0), (.int .i64 0), (.int .i64 0), (.int .i64 0), (.int .i64 0)] [(0, 1, (.c (.int .i64 1))), (2, 1, (.c (.int .i64 1)))]) <|
 .op (some 2) (.build [(.int .i64 0), (.int .i64 0), (.int .i64 0), (.int .i64 0), (.int .i64 0)] [(1, 1, (.c (.int .i64 1)))]) <|
 .op (some 3) (.buildSl 83 2 [(.int .i64 0), (.int .i64 0), (.int .i64 0), (.int .i64 0), (.int .i64 0), (.int .i64 0), (.int .i64 0), (.int .i64 0), (.int .i64 0), (.int .i64 0)] [(0, 5, (.t 1)), (5, 5, (.t 2))]) <|
 .op (some 4) (.build [(.int .i64 0), (.int .i64 0), (.int .i64 0), (.int .i64 0), (.int .i64 0)] [(0, 1, (.c (.int .i64 1))), (1, 1, (.c (.int .i64 1))), (2, 1, (.c (.int .i64 1)))]) <|
 .op (some 5) (.build [(.int .i64 0), (.int .i64 0), (.int .i64 0), (.int .i64 0), (.int .i64 0)] []) <|
 .op (some 6) (.buildSl 83 2 [(.int .i64 0), (.int .i64 0), (.int .i64 0), (.int .i64 0), (.int .i64 0), (.int .i64 0), (.int .i64 0), (.int .i64 0), (.int .i64 0), (.int .i64 0)] [(0, 5, (.t 4)), (5, 5, (.t 5))]) <|
 .op (some 7) (.buildSl 70 2 [(.slice none 0 0), (.slice none 0 0)] [(0, 1, (.t 3)), (1, 1, (.t 6))]) <|
 .op (some 8) (.build [(.slice none 0 0)] [(0, 1, (.t 7))]) <|
 .op none (.store 1 (.t 0) (.t 8)) <|
 .nil
def Q57 : RFun := ⟨9, [0], (.seq (.reg Q57_0) (.seq (.reg Q57_1) .ret)), [.cellA 0 1]⟩
theorem Q57_ok : compF Tryz.prog [0] [15, 20, 31, 71, 88, 41, 76, 86, 65, 83, 81, 114, 117, 119, 122, 68, 100, 103, 104, 105, 137, 138, 64, 72, 96, 99, 158, 159, 132, 56, 93, 94, 130, 131, 155, 62, 23, 170] 32 = some Q57 := by kernel_rfl

/- lockless/axiom.of -/
def Q7_0 : Sts := .op (some 1) (.box 24 (.t 0)) <|
 .op (some 2) (.mv (.c (.slice none 0 0))) <|
 .op (some 3) (.mv (.c (.int .i64 0))) <|
 .nil
def Q7_1 : Sts := .op (some 12) (.loadA 1 (.t 1)) <|
 .op (some 13) (.call 30 [(.t 12)]) <|
 .op (some 11) (.mv (.t 13)) <|
 .op (some 14) (.extract 0 (.t 11)) <|
 .op (some 15) (.extract 1 (.t 11)) <|
 .op (some 4) (.alloc 24 [(.slice none 0 0)]) <|
 .op none (.store 1 (.t 4) (.t 14)) <|
 .op (some 5) (.mv (.t 15)) <|
 .nil
def Q7_2 : Sts := .op (some 16) (.mv (.t 5)) <|
 .op (some 17) (.bin .neq (.t 16) (.c (.int .i64 0))) <|
 .nil
def Q7_3 : Sts := .op (some 18) (.mv (.t 5)) <|
 .op (some 2) (.mv (.c (.slice none 0 0))) <|
 .op (some 3) (.mv (.t 18)) <|
 .nil
def Q7_4 : Sts := .op (some 6) (.mv (.c (.slice none 0 0))) <|
 .nil
def Q7_5 : Sts := .op (some 19) (.faddr 0 (.t 4)) <|
 .op (some 20) (.loadS (.t 19)) <|
 .op (some 21) (.len (.t 20)) <|
 .op (some 22) (.mv (.c (.int .i64 0))) <|
 .nil
def Q7_6 : Sts := .op (some 23) (.bin .lss (.t 22) (.t 21)) <|
 .nil
def Q7_7 : Sts := .op (some 24) (.mv (.t 22)) <|
 .op (some 25) (.iaddrS 1 (.t 20) (.t 22)) <|
 .op (some 26) (.loadS (.t 25)) <|
 .op (some 7) (.mv (.t 24)) <|
 .op (some 8) (.mv (.t 26)) <|
 .nil
def Q7_8 : Sts := .op (some 27) (.mv (.t 8)) <|
 .op (some 28) (.len (.t 27)) <|
 .op (some 29) (.mv (.c (.int .i64 0))) <|
 .nil
def Q7_9 : Sts := .op (some 30) (.bin .lss (.t 29) (.t 28)) <|
 .nil
def Q7_10 : Sts := .op (some 31) (.iaddrS 5 (.t 27) (.t 29)) <|
 .op (some 32) (.loadA 5 (.t 31)) <|
 .op (some 10) (.alloc 83 [(.int .i64 0), (.int .i64 0), (.int .i64 0), (.int .i64 0), (.int .i64 0)]) <|
 .op none (.store 5 (.t 10) (.t 32)) <|
 .nil
def Q7_11 : Sts := .op (some 33) (.mv (.t 6)) <|
 .op (some 34) (.loadA 5 (.t 10)) <|
 .op (some 35) (.mv (.t 7)) <|
 .op (some 36) (.build [(.int .i64 0), (.int .i64 0), (.int .i64 0), (.int .i64 0), (.int .i64 0), (.int .i64 0)] [(0, 5, (.t 34)), (5, 1, (.t 35))]) <|
 .op (some 37) (.buildSl 121 1 [(.int .i64 0), (.int .i64 0), (.int .i64 0), (.int .i64 0), (.int .i64 0), (.int .i64 0)] [(0, 6, (.t 36))]) <|
 .op (some 38) (.append 121 6 48 [(.int .i64 0), (.int .i64 0), (.int .i64 0), (.int .i64 0), (.int .i64 0), (.int .i64 0)] (.t 33) (.t 37)) <|
 .op (some 6) (.mv (.t 38)) <|
 .nil
def Q7_12 : Sts := .op (some 39) (.bin .add (.t 29) (.c (.int .i64 1))) <|
 .op (some 29) (.mv (.t 39)) <|
 .nil
def Q7_L13 : RCode := (.seq (.reg Q7_9) (.seq (.cond (.t 30) .skip (.exit 2)) (.seq (.block 3 (.seq (.reg Q7_10) (.reg Q7_11))) (.reg Q7_12))))
def Q7_13 : Sts := .op (some 40) (.bin .add (.t 22) (.c (.int .i64 1))) <|
 .op (some 22) (.mv (.t 40)) <|
 .nil
def Q7_L14 : RCode := (.seq (.reg Q7_6) (.seq (.cond (.t 23) .skip (.exit 0)) (.seq (.block 1 (.seq (.reg Q7_7) (.seq (.reg Q7_8) (.block 2 (.loop Q7_L13))))) (.reg Q7_13))))
def Q7_14 : Sts := .op (some 41) (.mv (.t 6)) <|
 .op (some 2) (.mv (.t 41)) <|
 .op (some 3) (.mv (.c (.int .i64 0))) <|
 .nil
def Q7 : RFun := ⟨42, [0, 1, 2, 3, 4, 5, 6, 7, 8, 10, 20, 21, 22, 27, 28, 29], (.seq (.reg Q7_0) (.seq (.reg Q7_1) (.seq (.seq (.reg Q7_2) (.cond (.t 17) (.seq (.reg Q7_3) .ret) .skip)) (.seq (.reg Q7_4) (.seq (.seq (.reg Q7_5) (.block 0 (.loop Q7_L14))) (.seq (.reg Q7_14) .ret)))))), [.tmp 2, .tmp 3]⟩
theorem Q7_ok : compF Tryz.prog [0, 1, 2, 3, 4, 5, 6, 7, 8, 10, 20, 21, 22, 27, 28, 29] [15, 20, 31, 71, 88, 41, 76, 86, 65, 83, 81, 114, 117, 119, 122, 68, 100, 103, 104, 105, 137, 138, 64, 72, 96, 99, 158, 159, 132, 56, 93, 94, 130, 131, 155, 62, 23, 170] 33 = some Q7 := by kernel_rfl

/- (lockless/axiom.program).executions -/
def Q16_0 : Sts := .op (some 1) (.box 74 (.t 0)) <|
 .op (some 2) (.mv (.c .nilFunc)) <|
 .nil
def Q16_1 : Sts := .op (some 4) (.loadS (.t 1)) <|
 .op (some 5) (.mkfn 75 [] [(.t 1)]) <|
 .op (some 6) (.call 74 [(.t 4), (.t 5)]) <|
 .op (some 3) (.alloc 34 [(.slice none 0 0)]) <|
 .op none (.store 1 (.t 3) (.t 6)) <|
 .nil
def Q16_2 : Sts := .op (some 7) (.mkfn 77 [] [(.t 1), (.t 3)]) <|
 .op (some 2) (.mv (.t 7)) <|
 .nil
def Q16 : RFun := ⟨8, [0, 1, 2, 3], (.seq (.reg Q16_0) (.seq (.reg Q16_1) (.seq (.reg Q16_2) .ret))), [.tmp 2]⟩
theorem Q16_ok : compF Tryz.prog [0, 1, 2, 3] [15, 20, 31, 71, 88, 41, 76, 86, 65, 83, 81, 114, 117, 119, 122, 68, 100, 103, 104, 105, 137, 138, 64, 72, 96, 99, 158, 159, 132, 56, 93, 94, 130, 131, 155, 62, 23, 170] 34 = some Q16 := by kernel_rfl

/- (lockless/axiom.program).outcome -/
def Q28_0 : Sts := .op (some 3) (.box 45 (.t 1)) <|
 .op (some 4) (.mv (.c (.slice none 0 0))) <|
 .nil
def Q28_1 : Sts := .op (some 15) (.mv (.t 0)) <|
 .op (some 16) (.loadA 4 (.t 3)) <|
 .op (some 17) (.call 85 [(.t 15), (.t 16)]) <|
 .op (some 14) (.mv (.t 17)) <|
 .op (some 18) (.extract 0 (.t 14)) <|
 .op (some 19) (.extract 1 (.t 14)) <|
 .op (some 20) (.extract 2 (.t 14)) <|
 .op (some 5) (.mv (.t 18)) <|
 .op (some 6) (.mv (.t 19)) <|
 .op (some 7) (.mv (.t 20)) <|
 .nil
def Q28_2 : Sts := .op (some 8) (.mv (.c (.slice none 0 0))) <|
 .nil
def Q28_3 : Sts := .op (some 21) (.mv (.t 0)) <|
 .op (some 22) (.len (.t 21)) <|
 .op (some 23) (.mv (.c (.int .i64 0))) <|
 .nil
def Q28_4 : Sts := .op (some 24) (.bin .lss (.t 23) (.t 22)) <|
 .nil
def Q28_5 : Sts := .op (some 25) (.mv (.t 23)) <|
 .op (some 26) (.iaddrS 6 (.t 21) (.t 23)) <|
 .op (some 27) (.loadA 6 (.t 26)) <|
 .op (some 10) (.alloc 121 [(.int .i64 0), (.int .i64 0), (.int .i64 0), (.int .i64 0), (.int .i64 0), (.int .i64 0)]) <|
 .op (some 9) (.mv (.t 25)) <|
 .op none (.store 6 (.t 10) (.t 27)) <|
 .nil
def Q28_6 : Sts := .op (some 28) (.loadA 6 (.t 10)) <|
 .op (some 29) (.call 86 [(.t 28)]) <|
 .nil
def Q28_7 : Sts := .op (some 30) (.mv (.t 8)) <|
 .op (some 31) (.mv (.t 5)) <|
 .op (some 32) (.mv (.t 9)) <|
 .op (some 33) (.iaddrS 1 (.t 31) (.t 32)) <|
 .op (some 34) (.loadI .i64 (.t 33)) <|
 .op (some 35) (.buildSl 3 1 [(.int .i64 0)] [(0, 1, (.t 34))]) <|
 .op (some 36) (.append 3 1 8 [(.int .i64 0)] (.t 30) (.t 35)) <|
 .op (some 8) (.mv (.t 36)) <|
 .nil
def Q28_8 : Sts := .op (some 37) (.bin .add (.t 23) (.c (.int .i64 1))) <|
 .op (some 23) (.mv (.t 37)) <|
 .nil
def Q28_L9 : RCode := (.seq (.reg Q28_4) (.seq (.cond (.t 24) .skip (.exit 0)) (.seq (.block 1 (.seq (.reg Q28_5) (.seq (.reg Q28_6) (.cond (.t 29) (.reg Q28_7) .skip)))) (.reg Q28_8))))
def Q28_9 : Sts := .op (some 38) (.faddr 2 (.t 3)) <|
 .op (some 39) (.loadS (.t 38)) <|
 .op (some 40) (.len (.t 39)) <|
 .op (some 41) (.mv (.c (.int .i64 0))) <|
 .nil
def Q28_10 : Sts := .op (some 42) (.bin .lss (.t 41) (.t 40)) <|
 .nil
def Q28_11 : Sts := .op (some 43) (.iaddrS 1 (.t 39) (.t 41)) <|
 .op (some 44) (.loadS (.t 43)) <|
 .op (some 12) (.mv (.t 44)) <|
 .nil
def Q28_12 : Sts := .op (some 13) (.mv (.c (.int .i64 0))) <|
 .nil
def Q28_13 : Sts := .op (some 45) (.mv (.t 12)) <|
 .op (some 46) (.len (.t 45)) <|
 .op (some 47) (.bin .gtr (.t 46) (.c (.int .i64 0))) <|
 .nil
def Q28_14 : Sts := .op (some 48) (.mv (.t 6)) <|
 .op (some 49) (.mv (.t 12)) <|
 .op (some 50) (.mv (.t 12)) <|
 .op (some 51) (.len (.t 50)) <|
 .op (some 52) (.bin .sub (.t 51) (.c (.int .i64 1))) <|
 .op (some 53) (.iaddrS 1 (.t 49) (.t 52)) <|
 .op (some 54) (.loadI .i64 (.t 53)) <|
 .op (some 55) (.iaddrS 1 (.t 48) (.t 54)) <|
 .op (some 56) (.loadI .i64 (.t 55)) <|
 .op (some 13) (.mv (.t 56)) <|
 .nil
def Q28_15 : Sts := .op (some 57) (.mv (.t 8)) <|
 .op (some 58) (.mv (.t 13)) <|
 .op (some 59) (.buildSl 3 1 [(.int .i64 0)] [(0, 1, (.t 58))]) <|
 .op (some 60) (.append 3 1 8 [(.int .i64 0)] (.t 57) (.t 59)) <|
 .op (some 8) (.mv (.t 60)) <|
 .nil
def Q28_16 : Sts := .op (some 61) (.bin .add (.t 41) (.c (.int .i64 1))) <|
 .op (some 41) (.mv (.t 61)) <|
 .nil
def Q28_L17 : RCode := (.seq (.reg Q28_10) (.seq (.cond (.t 42) .skip (.exit 2)) (.seq (.block 3 (.seq (.reg Q28_11) (.seq (.reg Q28_12) (.seq (.seq (.reg Q28_13) (.cond (.t 47) (.reg Q28_14) .skip)) (.reg Q28_15))))) (.reg Q28_16))))
def Q28_17 : Sts := .op (some 62) (.mv (.t 8)) <|
 .op (some 4) (.mv (.t 62)) <|
 .nil
def Q28 : RFun := ⟨63, [0, 1, 3, 4, 5, 6, 8, 9, 10, 12, 13, 21, 22, 23, 39, 40, 41], (.seq (.reg Q28_0) (.seq (.reg Q28_1) (.seq (.reg Q28_2) (.seq (.seq (.reg Q28_3) (.block 0 (.loop Q28_L9))) (.seq (.seq (.reg Q28_9) (.block 2 (.loop Q28_L17))) (.seq (.reg Q28_17) .ret)))))), [.tmp 4]⟩
theorem Q28_ok : compF Tryz.prog [0, 1, 3, 4, 5, 6, 8, 9, 10, 12, 13, 21, 22, 23, 39, 40, 41] [15, 20, 31, 71, 88, 41, 76, 86, 65, 83, 81, 114, 117, 119, 122, 68, 100, 103, 104, 105, 137, 138, 64, 72, 96, 99, 158, 159, 132, 56, 93, 94, 130, 131, 155, 62, 23, 170] 35 = some Q28 := by kernel_rfl

/- lockless/axiom.distinct -/
def Q2_0 : Sts := .op (some 2) (.mv (.c (.slice none 0 0))) <|
 .nil
def Q2_1 : Sts := .op (some 3) (.mv (.t 0)) <|
 .op (some 4) (.call 87 [(.t 3), (.c (.func (.func 88) #[] #[]))]) <|
 .nil
def Q2_2 : Sts := .op (some 5) (.mv (.t 0)) <|
 .op (some 6) (.call 89 [(.t 5), (.c (.func (.func 41) #[] #[]))]) <|
 .op (some 2) (.mv (.t 6)) <|
 .nil
def Q2 : RFun := ⟨7, [0, 2], (.seq (.reg Q2_0) (.seq (.reg Q2_1) (.seq (.reg Q2_2) .ret))), [.tmp 2]⟩
theorem Q2_ok : compF Tryz.prog [0, 2] [15, 20, 31, 71, 88, 41, 76, 86, 65, 83, 81, 114, 117, 119, 122, 68, 100, 103, 104, 105, 137, 138, 64, 72, 96, 99, 158, 159, 132, 56, 93, 94, 130, 131, 155, 62, 23, 170] 36 = some Q2 := by kernel_rfl

/- slices.Equal[[]int,int] -/
def Q81_0 : Sts := .op (some 4) (.mv (.c (.bool false))) <|
 .nil
def Q81_1 : Sts := .op (some 6) (.mv (.t 0)) <|
 .op (some 7) (.len (.t 6)) <|
 .op (some 8) (.mv (.t 1)) <|
 .op (some 9) (.len (.t 8)) <|
 .op (some 10) (.bin .neq (.t 7) (.t 9)) <|
 .nil
def Q81_2 : Sts := .op (some 4) (.mv (.c (.bool false))) <|
 .nil
def Q81_3 : Sts := .op (some 11) (.mv (.t 0)) <|
 .op (some 12) (.len (.t 11)) <|
 .op (some 13) (.mv (.c (.int .i64 0))) <|
 .nil
def Q81_4 : Sts := .op (some 14) (.bin .lss (.t 13) (.t 12)) <|
 .nil
def Q81_5 : Sts := .op (some 15) (.mv (.t 13)) <|
 .op (some 5) (.mv (.t 15)) <|
 .nil
def Q81_6 : AT := .q (.op 0 (some 16) (.mv (.t 0)) <|
 .op 1 (some 17) (.mv (.t 5)) <|
 .op 2 (some 18) (.iaddrS 1 (.t 16) (.t 17)) <|
 .op 3 (some 19) (.loadI .i64 (.t 18)) <|
 .op 4 (some 20) (.mv (.t 1)) <|
 .op 5 (some 21) (.mv (.t 5)) <|
 .op 6 (some 22) (.iaddrS 1 (.t 20) (.t 21)) <|
 .op 7 (some 23) (.loadI .i64 (.t 22)) <|
 .op 8 (some 24) (.bin .neq (.t 19) (.t 23)) <|
 .nil) <|
 .fin
def Q81_7 : Sts := .op (some 4) (.mv (.c (.bool false))) <|
 .nil
def Q81_8 : Sts := .op (some 25) (.bin .add (.t 13) (.c (.int .i64 1))) <|
 .op (some 13) (.mv (.t 25)) <|
 .nil
def Q81_L9 : RCode := (.seq (.reg Q81_4) (.seq (.cond (.t 14) .skip (.exit 0)) (.seq (.block 1 (.seq (.reg Q81_5) (.seq (.any Q81_6) (.cond (.t 24) (.seq (.reg Q81_7) .ret) .skip)))) (.reg Q81_8))))
def Q81_9 : Sts := .op (some 4) (.mv (.c (.bool true))) <|
 .nil
def Q81 : RFun := ⟨26, [0, 1, 4, 5, 12, 13], (.seq (.reg Q81_0) (.seq (.seq (.reg Q81_1) (.cond (.t 10) (.seq (.reg Q81_2) .ret) .skip)) (.seq (.seq (.reg Q81_3) (.block 0 (.loop Q81_L9))) (.seq (.reg Q81_9) .ret)))), [.tmp 4]⟩
theorem Q81_ok : compF Tryz.prog [0, 1, 4, 5, 12, 13] [15, 20, 31, 71, 88, 41, 76, 86, 65, 83, 81, 114, 117, 119, 122, 68, 100, 103, 104, 105, 137, 138, 64, 72, 96, 99, 158, 159, 132, 56, 93, 94, 130, 131, 155, 62, 23, 170] 41 = some Q81 := by kernel_rfl

/- lockless/locklessref03.Own -/
def Q62_0 : Sts := .op (some 1) (.box 24 (.t 0)) <|
 .op (some 2) (.alloc 24 [(.slice none 0 0)]) <|
 .nil
def Q62_1 : Sts := .op (some 3) (.alloc 24 [(.slice none 0 0)]) <|
 .nil
def Q62_2 : Sts := .op (some 4) (.mv (.c (.int .i64 0))) <|
 .nil
def Q62_3 : Sts := .op (some 5) (.mv (.t 4)) <|
 .op (some 6) (.faddr 0 (.t 1)) <|
 .op (some 7) (.loadS (.t 6)) <|
 .op (some 8) (.len (.t 7)) <|
 .op (some 9) (.bin .lss (.t 5) (.t 8)) <|
 .nil
def Q62_4 : AT := .q (.op 0 (some 12) (.faddr 0 (.t 3)) <|
 .op 1 (some 13) (.loadS (.t 12)) <|
 .op 3 (some 15) (.faddr 0 (.t 1)) <|
 .op 4 (some 16) (.loadS (.t 15)) <|
 .op 5 (some 17) (.mv (.t 4)) <|
 .op 6 (some 18) (.iaddrS 1 (.t 16) (.t 17)) <|
 .op 7 (some 19) (.loadS (.t 18)) <|
 .nil) <|
 .s 2 (some 14) (.buildSl 83 0 [] []) false (
 .q (.nil) <|
 .s 8 (some 20) (.append 83 5 40 [(.int .i64 0), (.int .i64 0), (.int .i64 0), (.int .i64 0), (.int .i64 0)] (.t 14) (.t 19)) false (
 .q (.nil) <|
 .s 9 (some 21) (.buildSl 70 1 [(.slice none 0 0)] [(0, 1, (.t 20))]) false (
 .q (.nil) <|
 .s 10 (some 22) (.append 70 1 24 [(.slice none 0 0)] (.t 13) (.t 21)) true (
 .q (.op 11 (some 23) (.faddr 0 (.t 3)) <|
 .nil) <|
 .s 12 none (.store 1 (.t 23) (.t 22)) true (
 .q (.nil) <|
 .fin) <|
 .no) <|
 .no) <|
 .no) <|
 .no) <|
 .no
def Q62_5 : Sts := .op (some 10) (.mv (.t 4)) <|
 .op (some 11) (.bin .add (.t 10) (.c (.int .i64 1))) <|
 .op (some 4) (.mv (.t 11)) <|
 .nil
def Q62_L6 : RCode := (.seq (.seq (.reg Q62_3) (.cond (.t 9) .skip (.exit 0))) (.seq (.block 1 (.any Q62_4)) (.reg Q62_5)))
def Q62_6 : Sts := .op (some 24) (.loadA 1 (.t 3)) <|
 .op none (.store 1 (.t 2) (.t 24)) <|
 .nil
def Q62 : RFun := ⟨25, [0, 1, 2, 3, 4], (.seq (.reg Q62_0) (.seq (.reg Q62_1) (.seq (.seq (.reg Q62_2) (.block 0 (.loop Q62_L6))) (.seq (.reg Q62_6) .ret)))), [.cellA 2 1]⟩
theorem Q62_ok : compF Tryz.prog [0, 1, 2, 3, 4] [15, 20, 31, 71, 88, 41, 76, 86, 65, 83, 81, 114, 117, 119, 122, 68, 100, 103, 104, 105, 137, 138, 64, 72, 96, 99, 158, 159, 132, 56, 93, 94, 130, 131, 155, 62, 23, 170] 57 = some Q62 := by kernel_rfl

/- slices.EqualFunc[[][]lockless/api.Op,[][]lockless/api.Op,[]lockless/api.Op,[]lockless/api.Op] -/
def Q79_0 : Sts := .op (some 6) (.mv (.c (.bool false))) <|
 .nil
def Q79_1 : Sts := .op (some 10) (.mv (.t 0)) <|
 .op (some 11) (.len (.t 10)) <|
 .op (some 12) (.mv (.t 1)) <|
 .op (some 13) (.len (.t 12)) <|
 .op (some 14) (.bin .neq (.t 11) (.t 13)) <|
 .nil
def Q79_2 : Sts := .op (some 6) (.mv (.c (.bool false))) <|
 .nil
def Q79_3 : Sts := .op (some 15) (.mv (.t 0)) <|
 .op (some 16) (.len (.t 15)) <|
 .op (some 17) (.mv (.c (.int .i64 0))) <|
 .nil
def Q79_4 : Sts := .op (some 18) (.bin .lss (.t 17) (.t 16)) <|
 .nil
def Q79_5 : Sts := .op (some 19) (.mv (.t 17)) <|
 .op (some 20) (.iaddrS 1 (.t 15) (.t 17)) <|
 .op (some 21) (.loadS (.t 20)) <|
 .op (some 7) (.mv (.t 19)) <|
 .op (some 8) (.mv (.t 21)) <|
 .nil
def Q79_6 : Sts := .op (some 22) (.mv (.t 1)) <|
 .op (some 23) (.mv (.t 7)) <|
 .op (some 24) (.iaddrS 1 (.t 22) (.t 23)) <|
 .op (some 25) (.loadS (.t 24)) <|
 .op (some 9) (.mv (.t 25)) <|
 .nil
def Q79_7 : Sts := .op (some 26) (.mv (.t 2)) <|
 .op (some 27) (.mv (.t 8)) <|
 .op (some 28) (.mv (.t 9)) <|
 .op (some 29) (.callv (.t 26) [(.t 27), (.t 28)]) <|
 .op (some 30) (.notb (.t 29)) <|
 .nil
def Q79_8 : Sts := .op (some 6) (.mv (.c (.bool false))) <|
 .nil
def Q79_9 : Sts := .op (some 31) (.bin .add (.t 17) (.c (.int .i64 1))) <|
 .op (some 17) (.mv (.t 31)) <|
 .nil
def Q79_L10 : RCode := (.seq (.reg Q79_4) (.seq (.cond (.t 18) .skip (.exit 0)) (.seq (.block 1 (.seq (.reg Q79_5) (.seq (.reg Q79_6) (.seq (.reg Q79_7) (.cond (.t 30) (.seq (.reg Q79_8) .ret) .skip))))) (.reg Q79_9))))
def Q79_10 : Sts := .op (some 6) (.mv (.c (.bool true))) <|
 .nil
def Q79 : RFun := ⟨32, [0, 1, 2, 6, 7, 8, 9, 15, 16, 17], (.seq (.reg Q79_0) (.seq (.seq (.reg Q79_1) (.cond (.t 14) (.seq (.reg Q79_2) .ret) .skip)) (.seq (.seq (.reg Q79_3) (.block 0 (.loop Q79_L10))) (.seq (.reg Q79_10) .ret)))), [.tmp 6]⟩
theorem Q79_ok : compF Tryz.prog [0, 1, 2, 6, 7, 8, 9, 15, 16, 17] [15, 20, 31, 71, 88, 41, 76, 86, 65, 83, 81, 114, 117, 119, 122, 68, 100, 103, 104, 105, 137, 138, 64, 72, 96, 99, 158, 159, 132, 56, 93, 94, 130, 131, 155, 62, 23, 170] 58 = some Q79 := by kernel_rfl

/- lockless/litmus.AtLeast$1 -/
def Q44_0 : Sts := .op (some 4) (.mv (.c (.bool false))) <|
 .nil
def Q44_1 : Sts := .op (some 5) (.mv (.t 0)) <|
 .op (some 6) (.mv (.t 1)) <|
 .op (some 7) (.call 60 [(.t 5), (.t 6), (.c (.func (.func 61) #[] #[]))]) <|
 .op (some 4) (.mv (.t 7)) <|
 .nil
def Q44 : RFun := ⟨8, [0, 1, 4], (.seq (.reg Q44_0) (.seq (.reg Q44_1) .ret)), [.tmp 4]⟩
theorem Q44_ok : compF Tryz.prog [0, 1, 4] [15, 20, 31, 71, 88, 41, 76, 86, 65, 83, 81, 114, 117, 119, 122, 68, 100, 103, 104, 105, 137, 138, 64, 72, 96, 99, 158, 159, 132, 56, 93, 94, 130, 131, 155, 62, 23, 170] 59 = some Q44 := by kernel_rfl

/- slices.EqualFunc[[]lockless/api.Op,[]lockless/api.Op,lockless/api.Op,lockless/api.Op] -/
def Q80_0 : Sts := .op (some 6) (.mv (.c (.bool false))) <|
 .nil
def Q80_1 : Sts := .op (some 10) (.mv (.t 0)) <|
 .op (some 11) (.len (.t 10)) <|
 .op (some 12) (.mv (.t 1)) <|
 .op (some 13) (.len (.t 12)) <|
 .op (some 14) (.bin .neq (.t 11) (.t 13)) <|
 .nil
def Q80_2 : Sts := .op (some 6) (.mv (.c (.bool false))) <|
 .nil
def Q80_3 : Sts := .op (some 15) (.mv (.t 0)) <|
 .op (some 16) (.len (.t 15)) <|
 .op (some 17) (.mv (.c (.int .i64 0))) <|
 .nil
def Q80_4 : Sts := .op (some 18) (.bin .lss (.t 17) (.t 16)) <|
 .nil
def Q80_5 : Sts := .op (some 19) (.mv (.t 17)) <|
 .op (some 20) (.iaddrS 5 (.t 15) (.t 17)) <|
 .op (some 21) (.loadA 5 (.t 20)) <|
 .op (some 8) (.alloc 83 [(.int .i64 0), (.int .i64 0), (.int .i64 0), (.int .i64 0), (.int .i64 0)]) <|
 .op (some 7) (.mv (.t 19)) <|
 .op none (.store 5 (.t 8) (.t 21)) <|
 .nil
def Q80_6 : Sts := .op (some 22) (.mv (.t 1)) <|
 .op (some 23) (.mv (.t 7)) <|
 .op (some 24) (.iaddrS 5 (.t 22) (.t 23)) <|
 .op (some 25) (.loadA 5 (.t 24)) <|
 .op (some 9) (.alloc 83 [(.int .i64 0), (.int .i64 0), (.int .i64 0), (.int .i64 0), (.int .i64 0)]) <|
 .op none (.store 5 (.t 9) (.t 25)) <|
 .nil
def Q80_7 : Sts := .op (some 26) (.mv (.t 2)) <|
 .op (some 27) (.loadA 5 (.t 8)) <|
 .op (some 28) (.loadA 5 (.t 9)) <|
 .op (some 29) (.callv (.t 26) [(.t 27), (.t 28)]) <|
 .op (some 30) (.notb (.t 29)) <|
 .nil
def Q80_8 : Sts := .op (some 6) (.mv (.c (.bool false))) <|
 .nil
def Q80_9 : Sts := .op (some 31) (.bin .add (.t 17) (.c (.int .i64 1))) <|
 .op (some 17) (.mv (.t 31)) <|
 .nil
def Q80_L10 : RCode := (.seq (.reg Q80_4) (.seq (.cond (.t 18) .skip (.exit 0)) (.seq (.block 1 (.seq (.reg Q80_5) (.seq (.reg Q80_6) (.seq (.reg Q80_7) (.cond (.t 30) (.seq (.reg Q80_8) .ret) .skip))))) (.reg Q80_9))))
def Q80_10 : Sts := .op (some 6) (.mv (.c (.bool true))) <|
 .nil
def Q80 : RFun := ⟨32, [0, 1, 2, 6, 7, 8, 9, 15, 16, 17], (.seq (.reg Q80_0) (.seq (.seq (.reg Q80_1) (.cond (.t 14) (.seq (.reg Q80_2) .ret) .skip)) (.seq (.seq (.reg Q80_3) (.block 0 (.loop Q80_L10))) (.seq (.reg Q80_10) .ret)))), [.tmp 6]⟩
theorem Q80_ok : compF Tryz.prog [0, 1, 2, 6, 7, 8, 9, 15, 16, 17] [15, 20, 31, 71, 88, 41, 76, 86, 65, 83, 81, 114, 117, 119, 122, 68, 100, 103, 104, 105, 137, 138, 64, 72, 96, 99, 158, 159, 132, 56, 93, 94, 130, 131, 155, 62, 23, 170] 60 = some Q80 := by kernel_rfl

/- lockless/litmus.AtLeast$1$1 -/
def Q45_0 : Sts := .op (some 2) (.box 83 (.t 0)) <|
 .op (some 3) (.box 83 (.t 1)) <|
 .op (some 4) (.mv (.c (.bool false))) <|
 .nil
def Q45_1 : Sts := .op (some 8) (.faddr 4 (.t 2)) <|
 .op (some 9) (.loadI .i64 (.t 8)) <|
 .op (some 10) (.faddr 4 (.t 3)) <|
 .op (some 11) (.loadI .i64 (.t 10)) <|
 .op (some 12) (.call 62 [(.t 9), (.t 11)]) <|
 .op (some 7) (.mv (.t 12)) <|
 .op (some 13) (.extract 0 (.t 7)) <|
 .op (some 14) (.extract 1 (.t 7)) <|
 .op (some 5) (.mv (.t 13)) <|
 .op (some 6) (.mv (.t 14)) <|
 .nil
def Q45_2 : Sts := .op (some 15) (.faddr 4 (.t 3)) <|
 .op (some 16) (.loadI .i64 (.t 15)) <|
 .op (some 17) (.faddr 4 (.t 2)) <|
 .op none (.store 1 (.t 17) (.t 16)) <|
 .nil
def Q45_3 : Sts := .op (some 18) (.mv (.t 5)) <|
 .op (some 19) (.mv (.t 18)) <|
 .cnd 19 true (
 .op (some 20) (.loadA 5 (.t 2)) <|
 .op (some 21) (.loadA 5 (.t 3)) <|
 .op (some 22) (.eqA false [.i, .i, .i, .i, .i] (.t 20) (.t 21)) <|
 .nil) 23 (.t 22) <|
 .op (some 4) (.mv (.t 23)) <|
 .nil
def Q45 : RFun := ⟨24, [0, 1, 2, 3, 4, 5], (.seq (.reg Q45_0) (.seq (.reg Q45_1) (.seq (.reg Q45_2) (.seq (.reg Q45_3) .ret)))), [.tmp 4]⟩
theorem Q45_ok : compF Tryz.prog [0, 1, 2, 3, 4, 5] [15, 20, 31, 71, 88, 41, 76, 86, 65, 83, 81, 114, 117, 119, 122, 68, 100, 103, 104, 105, 137, 138, 64, 72, 96, 99, 158, 159, 132, 56, 93, 94, 130, 131, 155, 62, 23, 170] 61 = some Q45 := by kernel_rfl

/- lockless/order.AtLeast -/
def Q64_0 : Sts := .op (some 4) (.mv (.c (.bool false))) <|
 .op (some 5) (.mv (.c (.int .i64 0))) <|
 .nil
def Q64_1 : Sts := .op (some 6) (.mv (.t 0)) <|
 .op (some 7) (.call 96 [(.t 6)]) <|
 .op (some 8) (.notb (.t 7)) <|
 .op (some 9) (.mv (.t 8)) <|
 .cnd 9 false (
 .op (some 10) (.mv (.t 1)) <|
 .op (some 11) (.call 96 [(.t 10)]) <|
 .op (some 12) (.notb (.t 11)) <|
 .nil) 13 (.t 12) <|
 .nil
def Q64_2 : Sts := .op (some 4) (.mv (.c (.bool false))) <|
 .op (some 5) (.mv (.c (.int .i64 1))) <|
 .nil
def Q64_3 : Sts := .op (some 14) (.mv (.t 0)) <|
 .op (some 15) (.mv (.t 1)) <|
 .op (some 16) (.call 97 [(.t 14), (.t 15)]) <|
 .op (some 4) (.mv (.t 16)) <|
 .op (some 5) (.mv (.c (.int .i64 0))) <|
 .nil
def Q64 : RFun := ⟨17, [0, 1, 4, 5], (.seq (.reg Q64_0) (.seq (.seq (.reg Q64_1) (.cond (.t 13) (.seq (.reg Q64_2) .ret) .skip)) (.seq (.reg Q64_3) .ret))), [.tmp 4, .tmp 5]⟩
theorem Q64_ok : compF Tryz.prog [0, 1, 4, 5] [15, 20, 31, 71, 88, 41, 76, 86, 65, 83, 81, 114, 117, 119, 122, 68, 100, 103, 104, 105, 137, 138, 64, 72, 96, 99, 158, 159, 132, 56, 93, 94, 130, 131, 155, 62, 23, 170] 62 = some Q64 := by kernel_rfl

/- lockless/litmus.limits -/
def Q52_0 : Sts := .op (some 1) (.box 24 (.t 0)) <|
 .op (some 2) (.mv (.c (.bool false))) <|
 .nil
def Q52_1 : Sts := .op (some 10) (.faddr 0 (.t 1)) <|
 .op (some 11) (.loadS (.t 10)) <|
 .op (some 12) (.len (.t 11)) <|
 .op (some 13) (.bin .gtr (.t 12) (.c (.int .i64 3))) <|
 .nil
def Q52_2 : Sts := .op (some 2) (.mv (.c (.bool false))) <|
 .nil
def Q52_3 : Sts := .op (some 3) (.mv (.c (.int .i64 0))) <|
 .op (some 4) (.mv (.c (.int .i64 0))) <|
 .nil
def Q52_4 : Sts := .op (some 5) (.alloc 142 [(.int .i64 0), (.int .i64 0), (.int .i64 0)]) <|
 .nil
def Q52_5 : Sts := .op (some 14) (.faddr 0 (.t 1)) <|
 .op (some 15) (.loadS (.t 14)) <|
 .op (some 16) (.len (.t 15)) <|
 .op (some 17) (.mv (.c (.int .i64 0))) <|
 .nil
def Q52_6 : Sts := .op (some 18) (.bin .lss (.t 17) (.t 16)) <|
 .nil
def Q52_7 : Sts := .op (some 19) (.iaddrS 1 (.t 15) (.t 17)) <|
 .op (some 20) (.loadS (.t 19)) <|
 .op (some 7) (.mv (.t 20)) <|
 .nil
def Q52_8 : Sts := .op (some 21) (.mv (.t 7)) <|
 .op (some 22) (.len (.t 21)) <|
 .op (some 23) (.mv (.c (.int .i64 0))) <|
 .nil
def Q52_9 : Sts := .op (some 24) (.bin .lss (.t 23) (.t 22)) <|
 .nil
def Q52_10 : Sts := .op (some 25) (.iaddrS 5 (.t 21) (.t 23)) <|
 .op (some 26) (.loadA 5 (.t 25)) <|
 .op (some 9) (.alloc 83 [(.int .i64 0), (.int .i64 0), (.int .i64 0), (.int .i64 0), (.int .i64 0)]) <|
 .op none (.store 5 (.t 9) (.t 26)) <|
 .nil
def Q52_11 : Sts := .op (some 28) (.faddr 0 (.t 9)) <|
 .op (some 29) (.loadI .i64 (.t 28)) <|
 .op (some 30) (.bin .eql (.t 29) (.c (.int .i64 5))) <|
 .op (some 27) (.mv (.t 30)) <|
 .nil
def Q52_12 : Sts := .op (some 31) (.mv (.t 4)) <|
 .op (some 32) (.bin .add (.t 31) (.c (.int .i64 1))) <|
 .op (some 4) (.mv (.t 32)) <|
 .nil
def Q52_13 : Sts := .op (some 34) (.loadA 5 (.t 9)) <|
 .op (some 35) (.call 71 [(.t 34)]) <|
 .op (some 33) (.mv (.t 35)) <|
 .nil
def Q52_14 : Sts := .op (some 36) (.mv (.t 3)) <|
 .op (some 37) (.bin .add (.t 36) (.c (.int .i64 1))) <|
 .op (some 3) (.mv (.t 37)) <|
 .nil
def Q52_15 : Sts := .op (some 38) (.faddr 4 (.t 9)) <|
 .op (some 39) (.loadI .i64 (.t 38)) <|
 .op (some 40) (.bin .eql (.t 39) (.c (.int .i64 4))) <|
 .nil
def Q52_16 : Sts := .op (some 41) (.mv (.t 4)) <|
 .op (some 42) (.bin .add (.t 41) (.c (.int .i64 2))) <|
 .op (some 4) (.mv (.t 42)) <|
 .nil
def Q52_17 : Sts := .op (some 43) (.faddr 0 (.t 9)) <|
 .op (some 44) (.loadI .i64 (.t 43)) <|
 .op (some 45) (.bin .neq (.t 44) (.c (.int .i64 0))) <|
 .op (some 46) (.mv (.t 45)) <|
 .cnd 46 true (
 .op (some 47) (.faddr 1 (.t 9)) <|
 .op (some 48) (.loadI .i64 (.t 47)) <|
 .op (some 49) (.bin .geq (.t 48) (.c (.int .i64 0))) <|
 .nil) 50 (.t 49) <|
 .op (some 51) (.mv (.t 50)) <|
 .cnd 51 true (
 .op (some 52) (.faddr 1 (.t 9)) <|
 .op (some 53) (.loadI .i64 (.t 52)) <|
 .op (some 54) (.bin .lss (.t 53) (.c (.int .i64 3))) <|
 .nil) 55 (.t 54) <|
 .nil
def Q52_18 : Sts := .op (some 56) (.faddr 1 (.t 9)) <|
 .op (some 57) (.loadI .i64 (.t 56)) <|
 .op (some 58) (.iaddrA 3 1 (.t 5) (.t 57)) <|
 .op (some 59) (.loadI .i64 (.t 58)) <|
 .op (some 60) (.bin .add (.t 59) (.c (.int .i64 1))) <|
 .op (some 61) (.iaddrA 3 1 (.t 5) (.t 57)) <|
 .op none (.store 1 (.t 61) (.t 60)) <|
 .nil
def Q52_19 : Sts := .op (some 62) (.bin .add (.t 23) (.c (.int .i64 1))) <|
 .op (some 23) (.mv (.t 62)) <|
 .nil
def Q52_L20 : RCode := (.seq (.reg Q52_9) (.seq (.cond (.t 24) .skip (.exit 2)) (.seq (.block 3 (.seq (.reg Q52_10) (.block 4 (.seq (.reg Q52_11) (.cond (.t 27) (.reg Q52_12) (.seq (.reg Q52_13) (.cond (.t 33) (.seq (.reg Q52_14) (.seq (.seq (.reg Q52_15) (.cond (.t 40) (.reg Q52_16) .skip)) (.seq (.reg Q52_17) (.cond (.t 55) (.reg Q52_18) .skip)))) .skip))))))) (.reg Q52_19))))
def Q52_20 : Sts := .op (some 63) (.bin .add (.t 17) (.c (.int .i64 1))) <|
 .op (some 17) (.mv (.t 63)) <|
 .nil
def Q52_L21 : RCode := (.seq (.reg Q52_6) (.seq (.cond (.t 18) .skip (.exit 0)) (.seq (.block 1 (.seq (.reg Q52_7) (.seq (.reg Q52_8) (.block 2 (.loop Q52_L20))))) (.reg Q52_20))))
def Q52_21 : Sts := .op (some 64) (.mv (.t 3)) <|
 .op (some 65) (.bin .leq (.t 64) (.c (.int .i64 6))) <|
 .op (some 66) (.mv (.t 65)) <|
 .cnd 66 true (
 .op (some 67) (.mv (.t 4)) <|
 .op (some 68) (.bin .leq (.t 67) (.c (.int .i64 8))) <|
 .nil) 69 (.t 68) <|
 .op (some 70) (.mv (.t 69)) <|
 .cnd 70 true (
 .op (some 71) (.slA 3 1 (.t 5) none none) <|
 .op (some 72) (.call 98 [(.t 71)]) <|
 .op (some 73) (.bin .leq (.t 72) (.c (.int .i64 4))) <|
 .nil) 74 (.t 73) <|
 .op (some 2) (.mv (.t 74)) <|
 .nil
def Q52 : RFun := ⟨75, [0, 1, 2, 3, 4, 5, 7, 9, 15, 16, 17, 21, 22, 23], (.seq (.reg Q52_0) (.seq (.seq (.reg Q52_1) (.cond (.t 13) (.seq (.reg Q52_2) .ret) .skip)) (.seq (.reg Q52_3) (.seq (.reg Q52_4) (.seq (.seq (.reg Q52_5) (.block 0 (.loop Q52_L21))) (.seq (.reg Q52_21) .ret)))))), [.tmp 2]⟩
theorem Q52_ok : compF Tryz.prog [0, 1, 2, 3, 4, 5, 7, 9, 15, 16, 17, 21, 22, 23] [15, 20, 31, 71, 88, 41, 76, 86, 65, 83, 81, 114, 117, 119, 122, 68, 100, 103, 104, 105, 137, 138, 64, 72, 96, 99, 158, 159, 132, 56, 93, 94, 130, 131, 155, 62, 23, 170] 63 = some Q52 := by kernel_rfl

/- lockless/order.May -/
def Q65_0 : Sts := .op (some 4) (.mv (.c (.bool false))) <|
 .op (some 5) (.mv (.c (.int .i64 0))) <|
 .nil
def Q65_1 : Sts := .op (some 6) (.mv (.t 0)) <|
 .op (some 7) (.bin .lss (.t 6) (.c (.int .i64 0))) <|
 .op (some 8) (.mv (.t 7)) <|
 .cnd 8 false (
 .op (some 9) (.mv (.t 0)) <|
 .op (some 10) (.bin .geq (.t 9) (.c (.int .i64 6))) <|
 .nil) 11 (.t 10) <|
 .op (some 12) (.mv (.t 11)) <|
 .cnd 12 false (
 .op (some 13) (.mv (.t 1)) <|
 .op (some 14) (.call 96 [(.t 13)]) <|
 .op (some 15) (.notb (.t 14)) <|
 .nil) 16 (.t 15) <|
 .nil
def Q65_2 : Sts := .op (some 4) (.mv (.c (.bool false))) <|
 .op (some 5) (.mv (.c (.int .i64 1))) <|
 .nil
def Q65_3 : Sts := .op (some 17) (.mv (.t 0)) <|
 .op (some 18) (.mv (.t 1)) <|
 .op (some 19) (.call 99 [(.t 17), (.t 18)]) <|
 .op (some 4) (.mv (.t 19)) <|
 .op (some 5) (.mv (.c (.int .i64 0))) <|
 .nil
def Q65 : RFun := ⟨20, [0, 1, 4, 5], (.seq (.reg Q65_0) (.seq (.seq (.reg Q65_1) (.cond (.t 16) (.seq (.reg Q65_2) .ret) .skip)) (.seq (.reg Q65_3) .ret))), [.tmp 4, .tmp 5]⟩
theorem Q65_ok : compF Tryz.prog [0, 1, 4, 5] [15, 20, 31, 71, 88, 41, 76, 86, 65, 83, 81, 114, 117, 119, 122, 68, 100, 103, 104, 105, 137, 138, 64, 72, 96, 99, 158, 159, 132, 56, 93, 94, 130, 131, 155, 62, 23, 170] 64 = some Q65 := by kernel_rfl

/- lockless/litmus.fits -/
def Q51_0 : Sts := .op (some 1) (.box 83 (.t 0)) <|
 .op (some 2) (.mv (.c (.bool false))) <|
 .nil
def Q51_1 : Sts := .op (some 3) (.faddr 1 (.t 1)) <|
 .op (some 4) (.loadI .i64 (.t 3)) <|
 .op (some 5) (.bin .lss (.t 4) (.c (.int .i64 0))) <|
 .op (some 6) (.mv (.t 5)) <|
 .cnd 6 false (
 .op (some 7) (.faddr 1 (.t 1)) <|
 .op (some 8) (.loadI .i64 (.t 7)) <|
 .op (some 9) (.bin .geq (.t 8) (.c (.int .i64 3))) <|
 .nil) 10 (.t 9) <|
 .nil
def Q51_2 : Sts := .op (some 2) (.mv (.c (.bool false))) <|
 .nil
def Q51_3 : Sts := .op (some 11) (.faddr 0 (.t 1)) <|
 .op (some 12) (.loadI .i64 (.t 11)) <|
 .nil
def Q51_4 : Sts := .op (some 14) (.bin .eql (.t 12) (.c (.int .i64 0))) <|
 .op (some 13) (.mv (.t 14)) <|
 .nil
def Q51_5 : Sts := .op (some 15) (.faddr 2 (.t 1)) <|
 .op (some 16) (.loadI .i64 (.t 15)) <|
 .op (some 17) (.bin .eql (.t 16) (.c (.int .i64 0))) <|
 .op (some 18) (.mv (.t 17)) <|
 .cnd 18 true (
 .op (some 19) (.faddr 3 (.t 1)) <|
 .op (some 20) (.loadI .i64 (.t 19)) <|
 .op (some 21) (.bin .eql (.t 20) (.c (.int .i64 0))) <|
 .nil) 22 (.t 21) <|
 .op (some 2) (.mv (.t 22)) <|
 .nil
def Q51_6 : Sts := .op (some 24) (.bin .eql (.t 12) (.c (.int .i64 1))) <|
 .op (some 23) (.mv (.t 24)) <|
 .nil
def Q51_7 : Sts := .op (some 25) (.faddr 2 (.t 1)) <|
 .op (some 26) (.loadI .i64 (.t 25)) <|
 .op (some 27) (.call 100 [(.t 26)]) <|
 .op (some 28) (.mv (.t 27)) <|
 .cnd 28 true (
 .op (some 29) (.faddr 3 (.t 1)) <|
 .op (some 30) (.loadI .i64 (.t 29)) <|
 .op (some 31) (.bin .eql (.t 30) (.c (.int .i64 0))) <|
 .nil) 32 (.t 31) <|
 .op (some 2) (.mv (.t 32)) <|
 .nil
def Q51_8 : Sts := .op (some 34) (.bin .eql (.t 12) (.c (.int .i64 2))) <|
 .op (some 33) (.mv (.t 34)) <|
 .nil
def Q51_9 : Sts := .op (some 35) (.faddr 2 (.t 1)) <|
 .op (some 36) (.loadI .i64 (.t 35)) <|
 .op (some 37) (.bin .geq (.t 36) (.c (.int .i64 (-9)))) <|
 .op (some 38) (.mv (.t 37)) <|
 .cnd 38 true (
 .op (some 39) (.faddr 2 (.t 1)) <|
 .op (some 40) (.loadI .i64 (.t 39)) <|
 .op (some 41) (.bin .leq (.t 40) (.c (.int .i64 9))) <|
 .nil) 42 (.t 41) <|
 .op (some 43) (.mv (.t 42)) <|
 .cnd 43 true (
 .op (some 44) (.faddr 3 (.t 1)) <|
 .op (some 45) (.loadI .i64 (.t 44)) <|
 .op (some 46) (.bin .eql (.t 45) (.c (.int .i64 0))) <|
 .nil) 47 (.t 46) <|
 .op (some 2) (.mv (.t 47)) <|
 .nil
def Q51_10 : Sts := .op (some 49) (.bin .eql (.t 12) (.c (.int .i64 3))) <|
 .op (some 48) (.mv (.t 49)) <|
 .nil
def Q51_11 : Sts := .op (some 50) (.bin .eql (.t 12) (.c (.int .i64 4))) <|
 .op (some 48) (.mv (.t 50)) <|
 .nil
def Q51_12 : Sts := .op (some 51) (.faddr 2 (.t 1)) <|
 .op (some 52) (.loadI .i64 (.t 51)) <|
 .op (some 53) (.call 100 [(.t 52)]) <|
 .op (some 54) (.mv (.t 53)) <|
 .cnd 54 true (
 .op (some 55) (.faddr 3 (.t 1)) <|
 .op (some 56) (.loadI .i64 (.t 55)) <|
 .op (some 57) (.call 100 [(.t 56)]) <|
 .nil) 58 (.t 57) <|
 .op (some 2) (.mv (.t 58)) <|
 .nil
def Q51_13 : Sts := .op (some 60) (.bin .eql (.t 12) (.c (.int .i64 5))) <|
 .op (some 59) (.mv (.t 60)) <|
 .nil
def Q51_14 : Sts := .op (some 61) (.faddr 1 (.t 1)) <|
 .op (some 62) (.loadI .i64 (.t 61)) <|
 .op (some 63) (.bin .eql (.t 62) (.c (.int .i64 0))) <|
 .op (some 64) (.mv (.t 63)) <|
 .cnd 64 true (
 .op (some 65) (.faddr 2 (.t 1)) <|
 .op (some 66) (.loadI .i64 (.t 65)) <|
 .op (some 67) (.bin .eql (.t 66) (.c (.int .i64 0))) <|
 .nil) 68 (.t 67) <|
 .op (some 69) (.mv (.t 68)) <|
 .cnd 69 true (
 .op (some 70) (.faddr 3 (.t 1)) <|
 .op (some 71) (.loadI .i64 (.t 70)) <|
 .op (some 72) (.bin .eql (.t 71) (.c (.int .i64 0))) <|
 .nil) 73 (.t 72) <|
 .op (some 2) (.mv (.t 73)) <|
 .nil
def Q51_15 : Sts := .op (some 2) (.mv (.c (.bool false))) <|
 .nil
def Q51 : RFun := ⟨74, [0, 1, 2, 12], (.seq (.reg Q51_0) (.seq (.seq (.reg Q51_1) (.cond (.t 10) (.seq (.reg Q51_2) .ret) .skip)) (.seq (.seq (.reg Q51_3) (.block 0 (.seq (.reg Q51_4) (.cond (.t 13) (.seq (.reg Q51_5) .ret) (.seq (.reg Q51_6) (.cond (.t 23) (.seq (.reg Q51_7) .ret) (.seq (.reg Q51_8) (.cond (.t 33) (.seq (.reg Q51_9) .ret) (.seq (.seq (.reg Q51_10) (.cond (.t 48) .skip (.reg Q51_11))) (.cond (.t 48) (.seq (.reg Q51_12) .ret) (.seq (.reg Q51_13) (.cond (.t 59) (.seq (.reg Q51_14) .ret) .skip)))))))))))) (.seq (.reg Q51_15) .ret)))), [.tmp 2]⟩
theorem Q51_ok : compF Tryz.prog [0, 1, 2, 12] [15, 20, 31, 71, 88, 41, 76, 86, 65, 83, 81, 114, 117, 119, 122, 68, 100, 103, 104, 105, 137, 138, 64, 72, 96, 99, 158, 159, 132, 56, 93, 94, 130, 131, 155, 62, 23, 170] 65 = some Q51 := by kernel_rfl

/- (lockless/axiom.program).before -/
def Q8_0 : Sts := .op (some 3) (.box 45 (.t 1)) <|
 .op (some 4) (.mv (.c (.slice none 0 0))) <|
 .nil
def Q8_1 : Sts := .op (some 11) (.mv (.t 0)) <|
 .op (some 12) (.loadA 4 (.t 3)) <|
 .op (some 13) (.call 102 [(.t 11), (.t 12)]) <|
 .op (some 5) (.mv (.t 13)) <|
 .nil
def Q8_2 : Sts := .op (some 14) (.mv (.t 0)) <|
 .op (some 15) (.len (.t 14)) <|
 .op (some 16) (.mv (.c (.int .i64 0))) <|
 .nil
def Q8_3 : Sts := .op (some 17) (.bin .lss (.t 16) (.t 15)) <|
 .nil
def Q8_4 : Sts := .op (some 18) (.mv (.t 16)) <|
 .op (some 6) (.mv (.t 18)) <|
 .nil
def Q8_5 : Sts := .op (some 19) (.mv (.t 0)) <|
 .op (some 20) (.mv (.t 6)) <|
 .op (some 21) (.iaddrS 6 (.t 19) (.t 20)) <|
 .op (some 22) (.loadA 6 (.t 21)) <|
 .op (some 23) (.call 86 [(.t 22)]) <|
 .op (some 24) (.notb (.t 23)) <|
 .op (some 25) (.mv (.t 24)) <|
 .cnd 25 false (
 .op (some 26) (.faddr 0 (.t 3)) <|
 .op (some 27) (.loadS (.t 26)) <|
 .op (some 28) (.mv (.t 6)) <|
 .op (some 29) (.iaddrS 1 (.t 27) (.t 28)) <|
 .op (some 30) (.loadI .i64 (.t 29)) <|
 .op (some 31) (.bin .lss (.t 30) (.c (.int .i64 0))) <|
 .nil) 32 (.t 31) <|
 .nil
def Q8_6 : Sts := .op (some 7) (.mv (.c (.int .u32 0))) <|
 .nil
def Q8_7 : Sts := .op (some 33) (.faddr 0 (.t 3)) <|
 .op (some 34) (.loadS (.t 33)) <|
 .op (some 35) (.mv (.t 6)) <|
 .op (some 36) (.iaddrS 1 (.t 34) (.t 35)) <|
 .op (some 37) (.loadI .i64 (.t 36)) <|
 .op (some 8) (.mv (.t 37)) <|
 .nil
def Q8_8 : Sts := .op (some 38) (.mv (.t 0)) <|
 .op (some 39) (.len (.t 38)) <|
 .op (some 40) (.mv (.c (.int .i64 0))) <|
 .nil
def Q8_9 : Sts := .op (some 41) (.bin .lss (.t 40) (.t 39)) <|
 .nil
def Q8_10 : Sts := .op (some 42) (.mv (.t 7)) <|
 .op (some 43) (.mv (.t 0)) <|
 .op (some 44) (.mv (.t 8)) <|
 .op (some 45) (.call 103 [(.t 43), (.t 44)]) <|
 .op (some 46) (.bin .or (.t 42) (.t 45)) <|
 .op (some 7) (.mv (.t 46)) <|
 .nil
def Q8_11 : Sts := .op (some 47) (.mv (.t 0)) <|
 .op (some 48) (.loadA 4 (.t 3)) <|
 .op (some 49) (.mv (.t 8)) <|
 .op (some 50) (.call 104 [(.t 47), (.t 48), (.t 49)]) <|
 .op (some 51) (.notb (.t 50)) <|
 .op (some 52) (.mv (.t 51)) <|
 .cnd 52 false (
 .op (some 53) (.faddr 0 (.t 3)) <|
 .op (some 54) (.loadS (.t 53)) <|
 .op (some 55) (.mv (.t 8)) <|
 .op (some 56) (.iaddrS 1 (.t 54) (.t 55)) <|
 .op (some 57) (.loadI .i64 (.t 56)) <|
 .op (some 58) (.bin .lss (.t 57) (.c (.int .i64 0))) <|
 .nil) 59 (.t 58) <|
 .nil
def Q8_12 : Sts := .op (some 60) (.faddr 0 (.t 3)) <|
 .op (some 61) (.loadS (.t 60)) <|
 .op (some 62) (.mv (.t 8)) <|
 .op (some 63) (.iaddrS 1 (.t 61) (.t 62)) <|
 .op (some 64) (.loadI .i64 (.t 63)) <|
 .op (some 8) (.mv (.t 64)) <|
 .nil
def Q8_13 : Sts := .op (some 65) (.bin .add (.t 40) (.c (.int .i64 1))) <|
 .op (some 40) (.mv (.t 65)) <|
 .nil
def Q8_L14 : RCode := (.seq (.reg Q8_9) (.seq (.cond (.t 41) .skip (.exit 2)) (.seq (.block 3 (.seq (.reg Q8_10) (.seq (.seq (.reg Q8_11) (.cond (.t 59) (.exit 2) .skip)) (.reg Q8_12)))) (.reg Q8_13))))
def Q8_14 : Sts := .op (some 66) (.mv (.t 0)) <|
 .op (some 67) (.mv (.t 6)) <|
 .op (some 68) (.call 105 [(.t 66), (.t 67)]) <|
 .op (some 9) (.mv (.t 68)) <|
 .nil
def Q8_15 : Sts := .op (some 69) (.mv (.t 0)) <|
 .op (some 70) (.len (.t 69)) <|
 .op (some 71) (.mv (.c (.int .i64 0))) <|
 .nil
def Q8_16 : Sts := .op (some 72) (.bin .lss (.t 71) (.t 70)) <|
 .nil
def Q8_17 : Sts := .op (some 73) (.mv (.t 71)) <|
 .op (some 10) (.mv (.t 73)) <|
 .nil
def Q8_18 : Sts := .op (some 74) (.mv (.t 7)) <|
 .op (some 75) (.mv (.t 10)) <|
 .op (some 76) (.bin .shr (.t 74) (.t 75)) <|
 .op (some 77) (.bin .and (.t 76) (.c (.int .u32 1))) <|
 .op (some 78) (.bin .eql (.t 77) (.c (.int .u32 1))) <|
 .nil
def Q8_19 : Sts := .op (some 79) (.mv (.t 5)) <|
 .op (some 80) (.mv (.t 10)) <|
 .op (some 81) (.iaddrS 1 (.t 79) (.t 80)) <|
 .op (some 82) (.loadI .u32 (.t 81)) <|
 .op (some 83) (.mv (.t 9)) <|
 .op (some 84) (.bin .or (.t 82) (.t 83)) <|
 .op (some 85) (.iaddrS 1 (.t 79) (.t 80)) <|
 .op none (.store 1 (.t 85) (.t 84)) <|
 .nil
def Q8_20 : Sts := .op (some 86) (.bin .add (.t 71) (.c (.int .i64 1))) <|
 .op (some 71) (.mv (.t 86)) <|
 .nil
def Q8_L21 : RCode := (.seq (.reg Q8_16) (.seq (.cond (.t 72) .skip (.exit 4)) (.seq (.block 5 (.seq (.reg Q8_17) (.seq (.reg Q8_18) (.cond (.t 78) (.reg Q8_19) .skip)))) (.reg Q8_20))))
def Q8_21 : Sts := .op (some 87) (.bin .add (.t 16) (.c (.int .i64 1))) <|
 .op (some 16) (.mv (.t 87)) <|
 .nil
def Q8_L22 : RCode := (.seq (.reg Q8_3) (.seq (.cond (.t 17) .skip (.exit 0)) (.seq (.block 1 (.seq (.reg Q8_4) (.seq (.seq (.reg Q8_5) (.cond (.t 32) (.exit 1) .skip)) (.seq (.reg Q8_6) (.seq (.reg Q8_7) (.seq (.seq (.reg Q8_8) (.block 2 (.loop Q8_L14))) (.seq (.reg Q8_14) (.seq (.reg Q8_15) (.block 4 (.loop Q8_L21)))))))))) (.reg Q8_21))))
def Q8_22 : Sts := .op (some 88) (.mv (.t 5)) <|
 .op (some 89) (.call 106 [(.t 88)]) <|
 .op (some 4) (.mv (.t 89)) <|
 .nil
def Q8 : RFun := ⟨90, [0, 1, 3, 4, 5, 6, 7, 8, 9, 10, 15, 16, 39, 40, 70, 71], (.seq (.reg Q8_0) (.seq (.reg Q8_1) (.seq (.seq (.reg Q8_2) (.block 0 (.loop Q8_L22))) (.seq (.reg Q8_22) .ret)))), [.tmp 4]⟩
theorem Q8_ok : compF Tryz.prog [0, 1, 3, 4, 5, 6, 7, 8, 9, 10, 15, 16, 39, 40, 70, 71] [15, 20, 31, 71, 88, 41, 76, 86, 65, 83, 81, 114, 117, 119, 122, 68, 100, 103, 104, 105, 137, 138, 64, 72, 96, 99, 158, 159, 132, 56, 93, 94, 130, 131, 155, 62, 23, 170] 67 = some Q8 := by kernel_rfl

/- (lockless/axiom.relation).has -/
def Q39_0 : Sts := .op (some 6) (.mv (.c (.bool false))) <|
 .nil
def Q39_1 : Sts := .op (some 7) (.mv (.t 0)) <|
 .op (some 8) (.mv (.t 1)) <|
 .op (some 9) (.iaddrS 1 (.t 7) (.t 8)) <|
 .op (some 10) (.loadI .u32 (.t 9)) <|
 .op (some 11) (.mv (.t 2)) <|
 .op (some 12) (.bin .shr (.t 10) (.t 11)) <|
 .op (some 13) (.bin .and (.t 12) (.c (.int .u32 1))) <|
 .op (some 14) (.bin .eql (.t 13) (.c (.int .u32 1))) <|
 .op (some 6) (.mv (.t 14)) <|
 .nil
def Q39 : RFun := ⟨15, [0, 1, 2, 6], (.seq (.reg Q39_0) (.seq (.reg Q39_1) .ret)), [.tmp 6]⟩
theorem Q39_ok : compF Tryz.prog [0, 1, 2, 6] [15, 20, 31, 71, 88, 41, 76, 86, 65, 83, 81, 114, 117, 119, 122, 68, 100, 103, 104, 105, 137, 138, 64, 72, 96, 99, 158, 159, 132, 56, 93, 94, 130, 131, 155, 62, 23, 170] 68 = some Q39 := by kernel_rfl

/- lockless/litmus.rebuilt -/
def Q53_0 : Sts := .op (some 2) (.box 24 (.t 0)) <|
 .op (some 4) (.alloc 24 [(.slice none 0 0)]) <|
 .nil
def Q53_1 : Sts := .op (some 5) (.alloc 24 [(.slice none 0 0)]) <|
 .nil
def Q53_2 : Sts := .op (some 12) (.faddr 0 (.t 2)) <|
 .op (some 13) (.loadS (.t 12)) <|
 .op (some 14) (.len (.t 13)) <|
 .op (some 15) (.mv (.c (.int .i64 0))) <|
 .nil
def Q53_3 : Sts := .op (some 16) (.bin .lss (.t 15) (.t 14)) <|
 .nil
def Q53_4 : Sts := .op (some 17) (.iaddrS 1 (.t 13) (.t 15)) <|
 .op (some 18) (.loadS (.t 17)) <|
 .op (some 7) (.mv (.t 18)) <|
 .nil
def Q53_5 : Sts := .op (some 8) (.mv (.c (.slice none 0 0))) <|
 .nil
def Q53_6 : Sts := .op (some 9) (.mv (.c (.bool true))) <|
 .nil
def Q53_7 : Sts := .op (some 19) (.mv (.t 7)) <|
 .op (some 20) (.len (.t 19)) <|
 .op (some 21) (.mv (.c (.int .i64 0))) <|
 .nil
def Q53_8 : Sts := .op (some 22) (.bin .lss (.t 21) (.t 20)) <|
 .nil
def Q53_9 : Sts := .op (some 23) (.iaddrS 5 (.t 19) (.t 21)) <|
 .op (some 24) (.loadA 5 (.t 23)) <|
 .op (some 11) (.alloc 83 [(.int .i64 0), (.int .i64 0), (.int .i64 0), (.int .i64 0), (.int .i64 0)]) <|
 .op none (.store 5 (.t 11) (.t 24)) <|
 .nil
def Q53_10 : Sts := .op (some 25) (.mv (.t 8)) <|
 .op (some 26) (.mv (.t 1)) <|
 .op (some 27) (.loadA 5 (.t 11)) <|
 .op (some 28) (.mv (.t 9)) <|
 .op (some 29) (.callv (.t 26) [(.t 27), (.t 28)]) <|
 .op (some 30) (.append 83 5 40 [(.int .i64 0), (.int .i64 0), (.int .i64 0), (.int .i64 0), (.int .i64 0)] (.t 25) (.t 29)) <|
 .op (some 8) (.mv (.t 30)) <|
 .nil
def Q53_11 : Sts := .op (some 31) (.mv (.t 9)) <|
 .op (some 32) (.mv (.t 31)) <|
 .cnd 32 true (
 .op (some 33) (.loadA 5 (.t 11)) <|
 .op (some 34) (.call 71 [(.t 33)]) <|
 .op (some 35) (.notb (.t 34)) <|
 .nil) 36 (.t 35) <|
 .op (some 9) (.mv (.t 36)) <|
 .nil
def Q53_12 : Sts := .op (some 37) (.bin .add (.t 21) (.c (.int .i64 1))) <|
 .op (some 21) (.mv (.t 37)) <|
 .nil
def Q53_L13 : RCode := (.seq (.reg Q53_8) (.seq (.cond (.t 22) .skip (.exit 2)) (.seq (.block 3 (.seq (.reg Q53_9) (.seq (.reg Q53_10) (.reg Q53_11)))) (.reg Q53_12))))
def Q53_13 : Sts := .op (some 38) (.faddr 0 (.t 5)) <|
 .op (some 39) (.loadS (.t 38)) <|
 .op (some 40) (.mv (.t 8)) <|
 .op (some 41) (.buildSl 70 1 [(.slice none 0 0)] [(0, 1, (.t 40))]) <|
 .op (some 42) (.append 70 1 24 [(.slice none 0 0)] (.t 39) (.t 41)) <|
 .op (some 43) (.faddr 0 (.t 5)) <|
 .op none (.store 1 (.t 43) (.t 42)) <|
 .nil
def Q53_14 : Sts := .op (some 44) (.bin .add (.t 15) (.c (.int .i64 1))) <|
 .op (some 15) (.mv (.t 44)) <|
 .nil
def Q53_L15 : RCode := (.seq (.reg Q53_3) (.seq (.cond (.t 16) .skip (.exit 0)) (.seq (.block 1 (.seq (.reg Q53_4) (.seq (.reg Q53_5) (.seq (.reg Q53_6) (.seq (.seq (.reg Q53_7) (.block 2 (.loop Q53_L13))) (.reg Q53_13)))))) (.reg Q53_14))))
def Q53_15 : Sts := .op (some 45) (.loadA 1 (.t 5)) <|
 .op none (.store 1 (.t 4) (.t 45)) <|
 .nil
def Q53 : RFun := ⟨46, [0, 1, 2, 4, 5, 7, 8, 9, 11, 13, 14, 15, 19, 20, 21], (.seq (.reg Q53_0) (.seq (.reg Q53_1) (.seq (.seq (.reg Q53_2) (.block 0 (.loop Q53_L15))) (.seq (.reg Q53_15) .ret)))), [.cellA 4 1]⟩
theorem Q53_ok : compF Tryz.prog [0, 1, 2, 4, 5, 7, 8, 9, 11, 13, 14, 15, 19, 20, 21] [15, 20, 31, 71, 88, 41, 76, 86, 65, 83, 81, 114, 117, 119, 122, 68, 100, 103, 104, 105, 137, 138, 64, 72, 96, 99, 158, 159, 132, 56, 93, 94, 130, 131, 155, 62, 23, 170] 69 = some Q53 := by kernel_rfl

/- lockless/litmus.Expand$1 -/
def Q48_0 : Sts := .op (some 2) (.box 83 (.t 0)) <|
 .op (some 4) (.mv (.c (.slice none 0 0))) <|
 .nil
def Q48_1 : Sts := .op (some 5) (.loadA 5 (.t 2)) <|
 .op (some 6) (.call 71 [(.t 5)]) <|
 .op (some 7) (.notb (.t 6)) <|
 .op (some 8) (.mv (.t 7)) <|
 .cnd 8 false (
 .op (some 9) (.faddr 4 (.t 2)) <|
 .op (some 10) (.loadI .i64 (.t 9)) <|
 .op (some 11) (.bin .neq (.t 10) (.c (.int .i64 4))) <|
 .nil) 12 (.t 11) <|
 .nil
def Q48_2 : Sts := .op (some 13) (.loadA 5 (.t 2)) <|
 .op (some 14) (.buildSl 83 1 [(.int .i64 0), (.int .i64 0), (.int .i64 0), (.int .i64 0), (.int .i64 0)] [(0, 5, (.t 13))]) <|
 .op (some 4) (.mv (.t 14)) <|
 .nil
def Q48_3 : Sts := .op (some 16) (.faddr 0 (.t 2)) <|
 .op (some 17) (.loadI .i64 (.t 16)) <|
 .op (some 18) (.faddr 4 (.t 2)) <|
 .op (some 19) (.loadI .i64 (.t 18)) <|
 .op (some 20) (.call 72 [(.t 17), (.t 19)]) <|
 .op (some 15) (.mv (.t 20)) <|
 .op (some 21) (.extract 0 (.t 15)) <|
 .op (some 22) (.extract 1 (.t 15)) <|
 .op (some 23) (.faddr 4 (.t 2)) <|
 .op none (.store 1 (.t 23) (.t 21)) <|
 .nil
def Q48_4 : AT := .q (.op 1 (some 25) (.loadA 5 (.t 2)) <|
 .nil) <|
 .s 0 (some 24) (.call 73 []) false (
 .q (.nil) <|
 .s 2 (some 26) (.call 73 []) false (
 .q (.nil) <|
 .s 3 (some 27) (.buildSl 83 3 [(.int .i64 0), (.int .i64 0), (.int .i64 0), (.int .i64 0), (.int .i64 0), (.int .i64 0), (.int .i64 0), (.int .i64 0), (.int .i64 0), (.int .i64 0), (.int .i64 0), (.int .i64 0), (.int .i64 0), (.int .i64 0), (.int .i64 0)] [(0, 5, (.t 24)), (5, 5, (.t 25)), (10, 5, (.t 26))]) true (
 .q (.op 4 (some 4) (.mv (.t 27)) <|
 .nil) <|
 .fin) <|
 .no) <|
 .no) <|
 .no
def Q48 : RFun := ⟨28, [0, 2, 4], (.seq (.reg Q48_0) (.seq (.seq (.reg Q48_1) (.cond (.t 12) (.seq (.reg Q48_2) .ret) .skip)) (.seq (.reg Q48_3) (.seq (.any Q48_4) .ret)))), [.tmp 4]⟩
theorem Q48_ok : compF Tryz.prog [0, 2, 4] [15, 20, 31, 71, 88, 41, 76, 86, 65, 83, 81, 114, 117, 119, 122, 68, 100, 103, 104, 105, 137, 138, 64, 72, 96, 99, 158, 159, 132, 56, 93, 94, 130, 131, 155, 62, 23, 170] 70 = some Q48 := by kernel_rfl

/- lockless/litmus.access -/
def Q49_0 : Sts := .op (some 1) (.box 83 (.t 0)) <|
 .op (some 2) (.mv (.c (.bool false))) <|
 .nil
def Q49_1 : Sts := .op (some 3) (.faddr 0 (.t 1)) <|
 .op (some 4) (.loadI .i64 (.t 3)) <|
 .op (some 5) (.bin .geq (.t 4) (.c (.int .i64 0))) <|
 .op (some 6) (.mv (.t 5)) <|
 .cnd 6 true (
 .op (some 7) (.faddr 0 (.t 1)) <|
 .op (some 8) (.loadI .i64 (.t 7)) <|
 .op (some 9) (.bin .leq (.t 8) (.c (.int .i64 4))) <|
 .nil) 10 (.t 9) <|
 .op (some 2) (.mv (.t 10)) <|
 .nil
def Q49 : RFun := ⟨11, [0, 1, 2], (.seq (.reg Q49_0) (.seq (.reg Q49_1) .ret)), [.tmp 2]⟩
theorem Q49_ok : compF Tryz.prog [0, 1, 2] [15, 20, 31, 71, 88, 41, 76, 86, 65, 83, 81, 114, 117, 119, 122, 68, 100, 103, 104, 105, 137, 138, 64, 72, 96, 99, 158, 159, 132, 56, 93, 94, 130, 131, 155, 62, 23, 170] 71 = some Q49 := by kernel_rfl

/- lockless/order.Plain -/
def Q66_0 : Sts := .op (some 4) (.mv (.c (.int .i64 0))) <|
 .op (some 5) (.mv (.c (.int .i64 0))) <|
 .nil
def Q66_1 : Sts := .op (some 9) (.mv (.t 0)) <|
 .op (some 10) (.mv (.t 1)) <|
 .op (some 11) (.call 64 [(.t 9), (.t 10)]) <|
 .op (some 8) (.mv (.t 11)) <|
 .op (some 12) (.extract 0 (.t 8)) <|
 .op (some 13) (.extract 1 (.t 8)) <|
 .op (some 6) (.mv (.t 12)) <|
 .op (some 7) (.mv (.t 13)) <|
 .nil
def Q66_2 : Sts := .op (some 15) (.mv (.t 7)) <|
 .op (some 16) (.bin .neq (.t 15) (.c (.int .i64 0))) <|
 .op (some 17) (.mv (.t 16)) <|
 .cnd 17 false (
 .op (some 18) (.mv (.t 6)) <|
 .op (some 19) (.notb (.t 18)) <|
 .nil) 20 (.t 19) <|
 .op (some 21) (.mv (.t 20)) <|
 .cnd 21 false (
 .op (some 22) (.mv (.t 0)) <|
 .op (some 23) (.bin .eql (.t 22) (.c (.int .i64 5))) <|
 .nil) 24 (.t 23) <|
 .op (some 14) (.mv (.t 24)) <|
 .nil
def Q66_3 : Sts := .op (some 4) (.mv (.c (.int .i64 0))) <|
 .op (some 5) (.mv (.c (.int .i64 1))) <|
 .nil
def Q66_4 : Sts := .op (some 26) (.mv (.t 1)) <|
 .op (some 27) (.bin .neq (.t 26) (.c (.int .i64 4))) <|
 .op (some 25) (.mv (.t 27)) <|
 .nil
def Q66_5 : Sts := .op (some 28) (.mv (.t 1)) <|
 .op (some 4) (.mv (.t 28)) <|
 .op (some 5) (.mv (.c (.int .i64 0))) <|
 .nil
def Q66_6 : Sts := .op (some 30) (.mv (.t 0)) <|
 .op (some 31) (.bin .eql (.t 30) (.c (.int .i64 0))) <|
 .op (some 29) (.mv (.t 31)) <|
 .nil
def Q66_7 : Sts := .op (some 4) (.mv (.c (.int .i64 1))) <|
 .op (some 5) (.mv (.c (.int .i64 0))) <|
 .nil
def Q66_8 : Sts := .op (some 33) (.mv (.t 0)) <|
 .op (some 34) (.bin .eql (.t 33) (.c (.int .i64 1))) <|
 .op (some 32) (.mv (.t 34)) <|
 .nil
def Q66_9 : Sts := .op (some 4) (.mv (.c (.int .i64 2))) <|
 .op (some 5) (.mv (.c (.int .i64 0))) <|
 .nil
def Q66_10 : Sts := .op (some 4) (.mv (.c (.int .i64 3))) <|
 .op (some 5) (.mv (.c (.int .i64 0))) <|
 .nil
def Q66 : RFun := ⟨35, [0, 1, 4, 5, 6, 7], (.seq (.reg Q66_0) (.seq (.reg Q66_1) (.seq (.block 0 (.seq (.reg Q66_2) (.cond (.t 14) (.seq (.reg Q66_3) .ret) (.seq (.reg Q66_4) (.cond (.t 25) (.seq (.reg Q66_5) .ret) (.seq (.reg Q66_6) (.cond (.t 29) (.seq (.reg Q66_7) .ret) (.seq (.reg Q66_8) (.cond (.t 32) (.seq (.reg Q66_9) .ret) .skip))))))))) (.seq (.reg Q66_10) .ret)))), [.tmp 4, .tmp 5]⟩
theorem Q66_ok : compF Tryz.prog [0, 1, 4, 5, 6, 7] [15, 20, 31, 71, 88, 41, 76, 86, 65, 83, 81, 114, 117, 119, 122, 68, 100, 103, 104, 105, 137, 138, 64, 72, 96, 99, 158, 159, 132, 56, 93, 94, 130, 131, 155, 62, 23, 170] 72 = some Q66 := by kernel_rfl

/- lockless/litmus.strongFence -/
def Q54_0 : Sts := .op (some 0) (.alloc 83 [(.int .i64 0), (.int .i64 0), (.int .i64 0), (.int .i64 0), (.int .i64 0)]) <|
 .nil
def Q54_1 : Sts := .op (some 1) (.build [(.int .i64 0), (.int .i64 0), (.int .i64 0), (.int .i64 0), (.int .i64 0)] [(0, 1, (.c (.int .i64 5))), (4, 1, (.c (.int .i64 4)))]) <|
 .op none (.store 5 (.t 0) (.t 1)) <|
 .nil
def Q54 : RFun := ⟨2, [0], (.seq (.reg Q54_0) (.seq (.reg Q54_1) .ret)), [.cellA 0 5]⟩
theorem Q54_ok : compF Tryz.prog [0] [15, 20, 31, 71, 88, 41, 76, 86, 65, 83, 81, 114, 117, 119, 122, 68, 100, 103, 104, 105, 137, 138, 64, 72, 96, 99, 158, 159, 132, 56, 93, 94, 130, 131, 155, 62, 23, 170] 73 = some Q54 := by kernel_rfl

/- (lockless/axiom.program).pick -/
def Q29_0 : Sts := .op (some 4) (.mv (.c (.slice none 0 0))) <|
 .nil
def Q29_1 : Sts := .op (some 5) (.mv (.c (.slice none 0 0))) <|
 .nil
def Q29_2 : Sts := .op (some 7) (.mv (.t 0)) <|
 .op (some 8) (.len (.t 7)) <|
 .op (some 9) (.mv (.c (.int .i64 0))) <|
 .nil
def Q29_3 : Sts := .op (some 10) (.bin .lss (.t 9) (.t 8)) <|
 .nil
def Q29_4 : Sts := .op (some 11) (.mv (.t 9)) <|
 .op (some 6) (.mv (.t 11)) <|
 .nil
def Q29_5 : Sts := .op (some 12) (.mv (.t 1)) <|
 .op (some 13) (.mv (.t 6)) <|
 .op (some 14) (.callv (.t 12) [(.t 13)]) <|
 .nil
def Q29_6 : Sts := .op (some 15) (.mv (.t 5)) <|
 .op (some 16) (.mv (.t 6)) <|
 .op (some 17) (.buildSl 3 1 [(.int .i64 0)] [(0, 1, (.t 16))]) <|
 .op (some 18) (.append 3 1 8 [(.int .i64 0)] (.t 15) (.t 17)) <|
 .op (some 5) (.mv (.t 18)) <|
 .nil
def Q29_7 : Sts := .op (some 19) (.bin .add (.t 9) (.c (.int .i64 1))) <|
 .op (some 9) (.mv (.t 19)) <|
 .nil
def Q29_L8 : RCode := (.seq (.reg Q29_3) (.seq (.cond (.t 10) .skip (.exit 0)) (.seq (.block 1 (.seq (.reg Q29_4) (.seq (.reg Q29_5) (.cond (.t 14) (.reg Q29_6) .skip)))) (.reg Q29_7))))
def Q29_8 : Sts := .op (some 20) (.mv (.t 5)) <|
 .op (some 4) (.mv (.t 20)) <|
 .nil
def Q29 : RFun := ⟨21, [0, 1, 4, 5, 6, 8, 9], (.seq (.reg Q29_0) (.seq (.reg Q29_1) (.seq (.seq (.reg Q29_2) (.block 0 (.loop Q29_L8))) (.seq (.reg Q29_8) .ret)))), [.tmp 4]⟩
theorem Q29_ok : compF Tryz.prog [0, 1, 4, 5, 6, 8, 9] [15, 20, 31, 71, 88, 41, 76, 86, 65, 83, 81, 114, 117, 119, 122, 68, 100, 103, 104, 105, 137, 138, 64, 72, 96, 99, 158, 159, 132, 56, 93, 94, 130, 131, 155, 62, 23, 170] 74 = some Q29 := by kernel_rfl

/- (lockless/axiom.program).executions$1 -/
def Q17_0 : Sts := .op (some 3) (.mv (.c (.bool false))) <|
 .nil
def Q17_1 : Sts := .op (some 4) (.loadS (.t 1)) <|
 .op (some 5) (.mv (.t 0)) <|
 .op (some 6) (.iaddrS 6 (.t 4) (.t 5)) <|
 .op (some 7) (.loadA 6 (.t 6)) <|
 .op (some 8) (.call 76 [(.t 7)]) <|
 .op (some 3) (.mv (.t 8)) <|
 .nil
def Q17 : RFun := ⟨9, [0, 1, 3], (.seq (.reg Q17_0) (.seq (.reg Q17_1) .ret)), [.tmp 3]⟩
theorem Q17_ok : compF Tryz.prog [0, 1, 3] [15, 20, 31, 71, 88, 41, 76, 86, 65, 83, 81, 114, 117, 119, 122, 68, 100, 103, 104, 105, 137, 138, 64, 72, 96, 99, 158, 159, 132, 56, 93, 94, 130, 131, 155, 62, 23, 170] 75 = some Q17 := by kernel_rfl

/- (lockless/axiom.event).strong -/
def Q6_0 : Sts := .op (some 1) (.box 121 (.t 0)) <|
 .op (some 2) (.mv (.c (.bool false))) <|
 .nil
def Q6_1 : Sts := .op (some 3) (.faddr 0 (.t 1)) <|
 .op (some 4) (.faddr 0 (.t 3)) <|
 .op (some 5) (.loadI .i64 (.t 4)) <|
 .op (some 6) (.bin .eql (.t 5) (.c (.int .i64 5))) <|
 .op (some 7) (.mv (.t 6)) <|
 .cnd 7 true (
 .op (some 8) (.faddr 0 (.t 1)) <|
 .op (some 9) (.faddr 4 (.t 8)) <|
 .op (some 10) (.loadI .i64 (.t 9)) <|
 .op (some 11) (.bin .eql (.t 10) (.c (.int .i64 4))) <|
 .nil) 12 (.t 11) <|
 .op (some 2) (.mv (.t 12)) <|
 .nil
def Q6 : RFun := ⟨13, [0, 1, 2], (.seq (.reg Q6_0) (.seq (.reg Q6_1) .ret)), [.tmp 2]⟩
theorem Q6_ok : compF Tryz.prog [0, 1, 2] [15, 20, 31, 71, 88, 41, 76, 86, 65, 83, 81, 114, 117, 119, 122, 68, 100, 103, 104, 105, 137, 138, 64, 72, 96, 99, 158, 159, 132, 56, 93, 94, 130, 131, 155, 62, 23, 170] 76 = some Q6 := by kernel_rfl

/- (lockless/axiom.program).executions$2 -/
def Q18_0 : Sts := .op (some 3) (.box 124 (.t 0)) <|
 .nil
def Q18_1 : Sts := .op (some 8) (.loadS (.t 1)) <|
 .op (some 9) (.call 78 [(.t 8)]) <|
 .nil
def Q18_2 : Sts := .op (some 4) (.alloc 35 [(.slice none 0 0)]) <|
 .op none (.store 1 (.t 4) (.t 10)) <|
 .nil
def Q18_3 : Sts := .op (some 11) (.loadS (.t 1)) <|
 .op (some 12) (.loadS (.t 4)) <|
 .op (some 13) (.call 79 [(.t 11), (.t 12), (.c (.int .i64 0))]) <|
 .nil
def Q18_4 : Sts := .op (some 5) (.alloc 26 [(.slice none 0 0)]) <|
 .op none (.store 1 (.t 5) (.t 14)) <|
 .nil
def Q18_5 : Sts := .op (some 15) (.loadS (.t 1)) <|
 .op (some 16) (.loadS (.t 4)) <|
 .op (some 17) (.loadS (.t 5)) <|
 .op (some 18) (.call 80 [(.t 15), (.t 16), (.t 17)]) <|
 .nil
def Q18_6 : Sts := .op (some 6) (.mv (.t 19)) <|
 .nil
def Q18_7 : Sts := .op (some 20) (.mv (.t 6)) <|
 .op (some 21) (.loadS (.t 4)) <|
 .op (some 22) (.loadS (.t 5)) <|
 .op (some 23) (.build [(.slice none 0 0), (.slice none 0 0), (.slice none 0 0), (.slice none 0 0)] [(0, 1, (.t 20)), (1, 1, (.t 21)), (2, 1, (.t 22))]) <|
 .op (some 7) (.alloc 45 [(.slice none 0 0), (.slice none 0 0), (.slice none 0 0), (.slice none 0 0)]) <|
 .op none (.store 4 (.t 7) (.t 23)) <|
 .nil
def Q18_8 : Sts := .op (some 24) (.loadS (.t 1)) <|
 .op (some 25) (.loadA 4 (.t 7)) <|
 .op (some 26) (.call 81 [(.t 24), (.t 25)]) <|
 .op (some 27) (.notb (.t 26)) <|
 .nil
def Q18_9 : Sts := .op (some 28) (.loadS (.t 1)) <|
 .op (some 29) (.loadS (.t 2)) <|
 .op (some 30) (.call 82 [(.t 28), (.t 29)]) <|
 .nil
def Q18_10 : Sts := .op (some 32) (.faddr 3 (.t 7)) <|
 .op none (.store 1 (.t 32) (.t 31)) <|
 .nil
def Q18_11 : AT := .q (.op 0 (some 33) (.loadS (.t 1)) <|
 .op 1 (some 34) (.loadA 4 (.t 7)) <|
 .op 2 (some 35) (.call 83 [(.t 33), (.t 34)]) <|
 .op 3 (some 36) (.bin .eql (.t 35) (.c (.int .i64 0))) <|
 .op 4 (some 37) (.mv (.t 36)) <|
 .nil) <|
 .br 37 (
 .q (.nil) <|
 .q (.op 5 (some 38) (.loadX (.t 3)) <|
 .nil) <|
 .q (.nil) <|
 .q (.op 6 (some 39) (.loadA 4 (.t 7)) <|
 .nil) <|
 .q (.nil) <|
 .s 7 (some 40) (.call 84 [(.t 39)]) false (
 .q (.nil) <|
 .s 8 (some 41) (.callv (.t 38) [(.t 40)]) true (
 .q (.g 37 true (
 .op 9 (some 42) (.notb (.t 41)) <|
 .nil) 10 43 (.t 42) <|
 .nil) <|
 .fin) <|
 .no) <|
 .no) <|
 .q (.nil) <|
 .sk 5 (some 38) <|
 .q (.nil) <|
 .sk 6 (some 39) <|
 .q (.nil) <|
 .sk 7 (some 40) <|
 .q (.nil) <|
 .sk 8 (some 41) <|
 .q (.g 37 true (
 .op 9 (some 42) (.notb (.t 41)) <|
 .nil) 10 43 (.t 42) <|
 .nil) <|
 .fin
def R_axiom_program_executions_S2_A12 : RCode := (.reg Q18_10)
def R_axiom_program_executions_S2_B12 : RCode := (.block 7 (.seq (.any Q18_11) (.cond (.t 43) .ret .skip)))
def R_axiom_program_executions_S2_A13 : RCode := (.reg Q18_6)
def R_axiom_program_executions_S2_B13 : RCode := (.block 5 (.seq (.reg Q18_7) (.seq (.seq (.reg Q18_8) (.cond (.t 27) (.exit 5) .skip)) (.seq (.reg Q18_9) (.block 6 (.rangeF (.t 30) [31] R_axiom_program_executions_S2_A12 R_axiom_program_executions_S2_B12))))))
def R_axiom_program_executions_S2_A14 : RCode := (.reg Q18_4)
def R_axiom_program_executions_S2_B14 : RCode := (.block 3 (.seq (.reg Q18_5) (.block 4 (.rangeF (.t 18) [19] R_axiom_program_executions_S2_A13 R_axiom_program_executions_S2_B13))))
def R_axiom_program_executions_S2_A15 : RCode := (.reg Q18_2)
def R_axiom_program_executions_S2_B15 : RCode := (.block 1 (.seq (.reg Q18_3) (.block 2 (.rangeF (.t 13) [14] R_axiom_program_executions_S2_A14 R_axiom_program_executions_S2_B14))))
def Q18 : RFun := ⟨44, [0, 1, 2, 3, 4, 5, 6, 7, 9, 10, 13, 14, 18, 19, 30, 31], (.seq (.reg Q18_0) (.seq (.reg Q18_1) (.block 0 (.rangeF (.t 9) [10] R_axiom_program_executions_S2_A15 R_axiom_program_executions_S2_B15)))), []⟩
theorem Q18_ok : compF Tryz.prog [0, 1, 2, 3, 4, 5, 6, 7, 9, 10, 13, 14, 18, 19, 30, 31] [15, 20, 31, 71, 88, 41, 76, 86, 65, 83, 81, 114, 117, 119, 122, 68, 100, 103, 104, 105, 137, 138, 64, 72, 96, 99, 158, 159, 132, 56, 93, 94, 130, 131, 155, 62, 23, 170] 77 = some Q18 := by kernel_rfl

/- (lockless/axiom.program).dones -/
def Q11_0 : Sts := .op (some 1) (.box 74 (.t 0)) <|
 .op (some 2) (.mv (.c .nilFunc)) <|
 .nil
def Q11_1 : Sts := .op (some 3) (.mkfn 107 [] [(.t 1)]) <|
 .op (some 2) (.mv (.t 3)) <|
 .nil
def Q11 : RFun := ⟨4, [0, 1, 2], (.seq (.reg Q11_0) (.seq (.reg Q11_1) .ret)), [.tmp 2]⟩
theorem Q11_ok : compF Tryz.prog [0, 1, 2] [15, 20, 31, 71, 88, 41, 76, 86, 65, 83, 81, 114, 117, 119, 122, 68, 100, 103, 104, 105, 137, 138, 64, 72, 96, 99, 158, 159, 132, 56, 93, 94, 130, 131, 155, 62, 23, 170] 78 = some Q11 := by kernel_rfl

/- (lockless/axiom.program).orders -/
def Q26_0 : Sts := .op (some 3) (.box 74 (.t 0)) <|
 .op (some 4) (.box 35 (.t 1)) <|
 .op (some 5) (.box 3 (.t 2)) <|
 .op (some 6) (.mv (.c .nilFunc)) <|
 .nil
def Q26_1 : Sts := .op (some 7) (.mkfn 109 [] [(.t 5), (.t 3), (.t 4)]) <|
 .op (some 6) (.mv (.t 7)) <|
 .nil
def Q26 : RFun := ⟨8, [0, 1, 2, 3, 4, 5, 6], (.seq (.reg Q26_0) (.seq (.reg Q26_1) .ret)), [.tmp 6]⟩
theorem Q26_ok : compF Tryz.prog [0, 1, 2, 3, 4, 5, 6] [15, 20, 31, 71, 88, 41, 76, 86, 65, 83, 81, 114, 117, 119, 122, 68, 100, 103, 104, 105, 137, 138, 64, 72, 96, 99, 158, 159, 132, 56, 93, 94, 130, 131, 155, 62, 23, 170] 79 = some Q26 := by kernel_rfl

/- (lockless/axiom.program).froms -/
def Q19_0 : Sts := .op (some 3) (.box 74 (.t 0)) <|
 .op (some 4) (.box 35 (.t 1)) <|
 .op (some 5) (.box 26 (.t 2)) <|
 .op (some 6) (.mv (.c .nilFunc)) <|
 .nil
def Q19_1 : Sts := .op (some 7) (.mkfn 111 [] [(.t 3), (.t 5), (.t 4)]) <|
 .op (some 6) (.mv (.t 7)) <|
 .nil
def Q19 : RFun := ⟨8, [0, 1, 2, 3, 4, 5, 6], (.seq (.reg Q19_0) (.seq (.reg Q19_1) .ret)), [.tmp 6]⟩
theorem Q19_ok : compF Tryz.prog [0, 1, 2, 3, 4, 5, 6] [15, 20, 31, 71, 88, 41, 76, 86, 65, 83, 81, 114, 117, 119, 122, 68, 100, 103, 104, 105, 137, 138, 64, 72, 96, 99, 158, 159, 132, 56, 93, 94, 130, 131, 155, 62, 23, 170] 80 = some Q19 := by kernel_rfl

/- (lockless/axiom.program).possible -/
def Q30_0 : Sts := .op (some 3) (.box 45 (.t 1)) <|
 .op (some 4) (.mv (.c (.bool false))) <|
 .nil
def Q30_1 : Sts := .op (some 11) (.mv (.t 0)) <|
 .op (some 12) (.loadA 4 (.t 3)) <|
 .op (some 13) (.call 85 [(.t 11), (.t 12)]) <|
 .op (some 10) (.mv (.t 13)) <|
 .op (some 14) (.extract 0 (.t 10)) <|
 .op (some 15) (.extract 1 (.t 10)) <|
 .op (some 16) (.extract 2 (.t 10)) <|
 .op (some 5) (.mv (.t 14)) <|
 .op (some 6) (.mv (.t 15)) <|
 .op (some 7) (.mv (.t 16)) <|
 .nil
def Q30_2 : Sts := .op (some 17) (.mv (.t 0)) <|
 .op (some 18) (.len (.t 17)) <|
 .op (some 19) (.mv (.c (.int .i64 0))) <|
 .nil
def Q30_3 : Sts := .op (some 20) (.bin .lss (.t 19) (.t 18)) <|
 .nil
def Q30_4 : Sts := .op (some 21) (.mv (.t 19)) <|
 .op (some 22) (.iaddrS 6 (.t 17) (.t 19)) <|
 .op (some 23) (.loadA 6 (.t 22)) <|
 .op (some 9) (.alloc 121 [(.int .i64 0), (.int .i64 0), (.int .i64 0), (.int .i64 0), (.int .i64 0), (.int .i64 0)]) <|
 .op (some 8) (.mv (.t 21)) <|
 .op none (.store 6 (.t 9) (.t 23)) <|
 .nil
def Q30_5 : AT := .q (.op 0 (some 24) (.faddr 0 (.t 9)) <|
 .op 1 (some 25) (.faddr 0 (.t 24)) <|
 .op 2 (some 26) (.loadI .i64 (.t 25)) <|
 .op 3 (some 27) (.bin .eql (.t 26) (.c (.int .i64 3))) <|
 .op 4 (some 28) (.mv (.t 27)) <|
 .g 28 true (
 .op 5 (some 29) (.faddr 1 (.t 3)) <|
 .op 6 (some 30) (.loadS (.t 29)) <|
 .op 7 (some 31) (.mv (.t 8)) <|
 .op 8 (some 32) (.iaddrS 1 (.t 30) (.t 31)) <|
 .op 9 (some 33) (.loadB (.t 32)) <|
 .op 10 (some 34) (.mv (.t 5)) <|
 .op 11 (some 35) (.mv (.t 8)) <|
 .op 12 (some 36) (.iaddrS 1 (.t 34) (.t 35)) <|
 .op 13 (some 37) (.loadI .i64 (.t 36)) <|
 .op 14 (some 38) (.faddr 0 (.t 9)) <|
 .op 15 (some 39) (.faddr 2 (.t 38)) <|
 .op 16 (some 40) (.loadI .i64 (.t 39)) <|
 .op 17 (some 41) (.bin .eql (.t 37) (.t 40)) <|
 .op 18 (some 42) (.eqb true (.t 33) (.t 41)) <|
 .nil) 19 43 (.t 42) <|
 .op 20 (some 44) (.mv (.t 43)) <|
 .g 44 false (
 .op 21 (some 45) (.faddr 0 (.t 9)) <|
 .op 22 (some 46) (.faddr 0 (.t 45)) <|
 .op 23 (some 47) (.loadI .i64 (.t 46)) <|
 .op 24 (some 48) (.bin .eql (.t 47) (.c (.int .i64 4))) <|
 .op 25 (some 49) (.mv (.t 48)) <|
 .g 49 true (
 .op 26 (some 50) (.faddr 1 (.t 3)) <|
 .op 27 (some 51) (.loadS (.t 50)) <|
 .op 28 (some 52) (.mv (.t 8)) <|
 .op 29 (some 53) (.iaddrS 1 (.t 51) (.t 52)) <|
 .op 30 (some 54) (.loadB (.t 53)) <|
 .nil) 31 55 (.t 54) <|
 .op 32 (some 56) (.mv (.t 55)) <|
 .g 56 true (
 .op 33 (some 57) (.mv (.t 5)) <|
 .op 34 (some 58) (.mv (.t 8)) <|
 .op 35 (some 59) (.iaddrS 1 (.t 57) (.t 58)) <|
 .op 36 (some 60) (.loadI .i64 (.t 59)) <|
 .op 37 (some 61) (.faddr 0 (.t 9)) <|
 .op 38 (some 62) (.faddr 2 (.t 61)) <|
 .op 39 (some 63) (.loadI .i64 (.t 62)) <|
 .op 40 (some 64) (.bin .neq (.t 60) (.t 63)) <|
 .nil) 41 65 (.t 64) <|
 .nil) 42 66 (.t 65) <|
 .nil) <|
 .fin
def Q30_6 : Sts := .op (some 4) (.mv (.c (.bool false))) <|
 .nil
def Q30_7 : Sts := .op (some 67) (.bin .add (.t 19) (.c (.int .i64 1))) <|
 .op (some 19) (.mv (.t 67)) <|
 .nil
def Q30_L8 : RCode := (.seq (.reg Q30_3) (.seq (.cond (.t 20) .skip (.exit 0)) (.seq (.block 1 (.seq (.reg Q30_4) (.seq (.any Q30_5) (.cond (.t 66) (.seq (.reg Q30_6) .ret) .skip)))) (.reg Q30_7))))
def Q30_8 : Sts := .op (some 68) (.mv (.t 0)) <|
 .op (some 69) (.loadA 4 (.t 3)) <|
 .op (some 70) (.call 83 [(.t 68), (.t 69)]) <|
 .op (some 71) (.bin .eql (.t 70) (.c (.int .i64 0))) <|
 .op (some 4) (.mv (.t 71)) <|
 .nil
def Q30 : RFun := ⟨72, [0, 1, 3, 4, 5, 8, 9, 17, 18, 19], (.seq (.reg Q30_0) (.seq (.reg Q30_1) (.seq (.seq (.reg Q30_2) (.block 0 (.loop Q30_L8))) (.seq (.reg Q30_8) .ret)))), [.tmp 4]⟩
theorem Q30_ok : compF Tryz.prog [0, 1, 3, 4, 5, 8, 9, 17, 18, 19] [15, 20, 31, 71, 88, 41, 76, 86, 65, 83, 81, 114, 117, 119, 122, 68, 100, 103, 104, 105, 137, 138, 64, 72, 96, 99, 158, 159, 132, 56, 93, 94, 130, 131, 155, 62, 23, 170] 81 = some Q30 := by kernel_rfl

/- (lockless/axiom.program).merges -/
def Q22_0 : Sts := .op (some 2) (.box 74 (.t 0)) <|
 .op (some 3) (.box 34 (.t 1)) <|
 .op (some 4) (.mv (.c .nilFunc)) <|
 .nil
def Q22_1 : Sts := .op (some 5) (.mkfn 115 [] [(.t 2), (.t 3)]) <|
 .op (some 4) (.mv (.t 5)) <|
 .nil
def Q22 : RFun := ⟨6, [0, 1, 2, 3, 4], (.seq (.reg Q22_0) (.seq (.reg Q22_1) .ret)), [.tmp 4]⟩
theorem Q22_ok : compF Tryz.prog [0, 1, 2, 3, 4] [15, 20, 31, 71, 88, 41, 76, 86, 65, 83, 81, 114, 117, 119, 122, 68, 100, 103, 104, 105, 137, 138, 64, 72, 96, 99, 158, 159, 132, 56, 93, 94, 130, 131, 155, 62, 23, 170] 82 = some Q22 := by kernel_rfl

/- (lockless/axiom.program).broken -/
def Q9_0 : Sts := .op (some 3) (.box 45 (.t 1)) <|
 .op (some 4) (.mv (.c (.int .i64 0))) <|
 .nil
def Q9_1 : Sts := .op (some 17) (.mv (.t 0)) <|
 .op (some 18) (.loadA 4 (.t 3)) <|
 .op (some 19) (.call 102 [(.t 17), (.t 18)]) <|
 .op (some 5) (.mv (.t 19)) <|
 .nil
def Q9_2 : Sts := .op (some 20) (.faddr 0 (.t 3)) <|
 .op (some 21) (.loadS (.t 20)) <|
 .op (some 22) (.len (.t 21)) <|
 .op (some 23) (.mv (.c (.int .i64 0))) <|
 .nil
def Q9_3 : Sts := .op (some 24) (.bin .lss (.t 23) (.t 22)) <|
 .nil
def Q9_4 : Sts := .op (some 25) (.mv (.t 23)) <|
 .op (some 26) (.iaddrS 1 (.t 21) (.t 23)) <|
 .op (some 27) (.loadI .i64 (.t 26)) <|
 .op (some 6) (.mv (.t 25)) <|
 .op (some 7) (.mv (.t 27)) <|
 .nil
def Q9_5 : Sts := .op (some 28) (.mv (.t 7)) <|
 .op (some 29) (.bin .geq (.t 28) (.c (.int .i64 0))) <|
 .nil
def Q9_6 : Sts := .op (some 30) (.mv (.t 5)) <|
 .op (some 31) (.mv (.t 7)) <|
 .op (some 32) (.mv (.t 6)) <|
 .op (some 33) (.call 121 [(.t 30), (.t 31), (.t 32)]) <|
 .nil
def Q9_7 : Sts := .op (some 34) (.bin .add (.t 23) (.c (.int .i64 1))) <|
 .op (some 23) (.mv (.t 34)) <|
 .nil
def Q9_L8 : RCode := (.seq (.reg Q9_3) (.seq (.cond (.t 24) .skip (.exit 0)) (.seq (.block 1 (.seq (.reg Q9_4) (.seq (.reg Q9_5) (.cond (.t 29) (.reg Q9_6) .skip)))) (.reg Q9_7))))
def Q9_8 : Sts := .op (some 35) (.mv (.t 5)) <|
 .op (some 36) (.call 106 [(.t 35)]) <|
 .op (some 37) (.call 122 [(.t 36)]) <|
 .nil
def Q9_9 : Sts := .op (some 4) (.mv (.c (.int .i64 2))) <|
 .nil
def Q9_10 : AT := .q (.op 0 (some 38) (.mv (.t 0)) <|
 .op 1 (some 39) (.loadA 4 (.t 3)) <|
 .op 3 (some 41) (.mv (.t 0)) <|
 .op 4 (some 42) (.loadA 4 (.t 3)) <|
 .nil) <|
 .s 2 (some 40) (.call 67 [(.t 38), (.t 39)]) false (
 .q (.nil) <|
 .s 5 (some 43) (.call 123 [(.t 41), (.t 42)]) true (
 .q (.op 6 (some 8) (.mv (.t 40)) <|
 .op 7 (some 9) (.mv (.t 43)) <|
 .nil) <|
 .fin) <|
 .no) <|
 .no
def Q9_11 : Sts := .op (some 44) (.mv (.t 8)) <|
 .op (some 45) (.call 122 [(.t 44)]) <|
 .nil
def Q9_12 : Sts := .op (some 4) (.mv (.c (.int .i64 3))) <|
 .nil
def Q9_13 : Sts := .op (some 46) (.mv (.t 0)) <|
 .op (some 47) (.len (.t 46)) <|
 .op (some 48) (.mv (.c (.int .i64 0))) <|
 .nil
def Q9_14 : Sts := .op (some 49) (.bin .lss (.t 48) (.t 47)) <|
 .nil
def Q9_15 : Sts := .op (some 50) (.mv (.t 48)) <|
 .op (some 10) (.mv (.t 50)) <|
 .nil
def Q9_16 : Sts := .op (some 51) (.mv (.t 0)) <|
 .op (some 52) (.len (.t 51)) <|
 .op (some 53) (.mv (.c (.int .i64 0))) <|
 .nil
def Q9_17 : Sts := .op (some 54) (.bin .lss (.t 53) (.t 52)) <|
 .nil
def Q9_18 : Sts := .op (some 55) (.mv (.t 53)) <|
 .op (some 11) (.mv (.t 55)) <|
 .nil
def Q9_19 : Sts := .op (some 56) (.mv (.t 8)) <|
 .op (some 57) (.mv (.t 10)) <|
 .op (some 58) (.mv (.t 11)) <|
 .op (some 59) (.call 68 [(.t 56), (.t 57), (.t 58)]) <|
 .op (some 60) (.mv (.t 59)) <|
 .cnd 60 true (
 .op (some 61) (.mv (.t 9)) <|
 .op (some 62) (.mv (.t 11)) <|
 .op (some 63) (.mv (.t 10)) <|
 .op (some 64) (.call 68 [(.t 61), (.t 62), (.t 63)]) <|
 .nil) 65 (.t 64) <|
 .nil
def Q9_20 : Sts := .op (some 4) (.mv (.c (.int .i64 3))) <|
 .nil
def Q9_21 : Sts := .op (some 66) (.bin .add (.t 53) (.c (.int .i64 1))) <|
 .op (some 53) (.mv (.t 66)) <|
 .nil
def Q9_L22 : RCode := (.seq (.reg Q9_17) (.seq (.cond (.t 54) .skip (.exit 4)) (.seq (.block 5 (.seq (.reg Q9_18) (.seq (.reg Q9_19) (.cond (.t 65) (.seq (.reg Q9_20) .ret) .skip)))) (.reg Q9_21))))
def Q9_22 : Sts := .op (some 67) (.bin .add (.t 48) (.c (.int .i64 1))) <|
 .op (some 48) (.mv (.t 67)) <|
 .nil
def Q9_L23 : RCode := (.seq (.reg Q9_14) (.seq (.cond (.t 49) .skip (.exit 2)) (.seq (.block 3 (.seq (.reg Q9_15) (.seq (.reg Q9_16) (.block 4 (.loop Q9_L22))))) (.reg Q9_22))))
def Q9_23 : Sts := .op (some 68) (.faddr 2 (.t 3)) <|
 .op (some 69) (.loadS (.t 68)) <|
 .op (some 70) (.len (.t 69)) <|
 .op (some 71) (.mv (.c (.int .i64 0))) <|
 .nil
def Q9_24 : Sts := .op (some 72) (.bin .lss (.t 71) (.t 70)) <|
 .nil
def Q9_25 : Sts := .op (some 73) (.iaddrS 1 (.t 69) (.t 71)) <|
 .op (some 74) (.loadS (.t 73)) <|
 .op (some 13) (.mv (.t 74)) <|
 .nil
def Q9_26 : Sts := .op (some 14) (.mv (.c (.int .i64 (-1)))) <|
 .nil
def Q9_27 : Sts := .op (some 75) (.mv (.t 13)) <|
 .op (some 76) (.len (.t 75)) <|
 .op (some 77) (.mv (.c (.int .i64 0))) <|
 .nil
def Q9_28 : Sts := .op (some 78) (.bin .lss (.t 77) (.t 76)) <|
 .nil
def Q9_29 : Sts := .op (some 79) (.iaddrS 1 (.t 75) (.t 77)) <|
 .op (some 80) (.loadI .i64 (.t 79)) <|
 .op (some 16) (.mv (.t 80)) <|
 .nil
def Q9_30 : Sts := .op (some 81) (.mv (.t 0)) <|
 .op (some 82) (.mv (.t 16)) <|
 .op (some 83) (.iaddrS 6 (.t 81) (.t 82)) <|
 .op (some 84) (.loadA 6 (.t 83)) <|
 .op (some 85) (.call 86 [(.t 84)]) <|
 .op (some 86) (.mv (.t 85)) <|
 .cnd 86 true (
 .op (some 87) (.faddr 0 (.t 3)) <|
 .op (some 88) (.loadS (.t 87)) <|
 .op (some 89) (.mv (.t 16)) <|
 .op (some 90) (.iaddrS 1 (.t 88) (.t 89)) <|
 .op (some 91) (.loadI .i64 (.t 90)) <|
 .op (some 92) (.mv (.t 14)) <|
 .op (some 93) (.bin .neq (.t 91) (.t 92)) <|
 .nil) 94 (.t 93) <|
 .nil
def Q9_31 : Sts := .op (some 4) (.mv (.c (.int .i64 4))) <|
 .nil
def Q9_32 : Sts := .op (some 95) (.mv (.t 16)) <|
 .op (some 14) (.mv (.t 95)) <|
 .nil
def Q9_33 : Sts := .op (some 96) (.bin .add (.t 77) (.c (.int .i64 1))) <|
 .op (some 77) (.mv (.t 96)) <|
 .nil
def Q9_L34 : RCode := (.seq (.reg Q9_28) (.seq (.cond (.t 78) .skip (.exit 8)) (.seq (.block 9 (.seq (.reg Q9_29) (.seq (.seq (.reg Q9_30) (.cond (.t 94) (.seq (.reg Q9_31) .ret) .skip)) (.reg Q9_32)))) (.reg Q9_33))))
def Q9_34 : Sts := .op (some 97) (.bin .add (.t 71) (.c (.int .i64 1))) <|
 .op (some 71) (.mv (.t 97)) <|
 .nil
def Q9_L35 : RCode := (.seq (.reg Q9_24) (.seq (.cond (.t 72) .skip (.exit 6)) (.seq (.block 7 (.seq (.reg Q9_25) (.seq (.reg Q9_26) (.seq (.reg Q9_27) (.block 8 (.loop Q9_L34)))))) (.reg Q9_34))))
def Q9_35 : Sts := .op (some 4) (.mv (.c (.int .i64 0))) <|
 .nil
def Q9 : RFun := ⟨98, [0, 1, 3, 4, 5, 6, 7, 8, 9, 10, 11, 13, 14, 16, 21, 22, 23, 47, 48, 52, 53, 69, 70, 71, 75, 76, 77], (.seq (.reg Q9_0) (.seq (.reg Q9_1) (.seq (.seq (.reg Q9_2) (.block 0 (.loop Q9_L8))) (.seq (.seq (.reg Q9_8) (.cond (.t 37) (.seq (.reg Q9_9) .ret) .skip)) (.seq (.any Q9_10) (.seq (.seq (.reg Q9_11) (.cond (.t 45) (.seq (.reg Q9_12) .ret) .skip)) (.seq (.seq (.reg Q9_13) (.block 2 (.loop Q9_L23))) (.seq (.seq (.reg Q9_23) (.block 6 (.loop Q9_L35))) (.seq (.reg Q9_35) .ret))))))))), [.tmp 4]⟩
theorem Q9_ok : compF Tryz.prog [0, 1, 3, 4, 5, 6, 7, 8, 9, 10, 11, 13, 14, 16, 21, 22, 23, 47, 48, 52, 53, 69, 70, 71, 75, 76, 77] [15, 20, 31, 71, 88, 41, 76, 86, 65, 83, 81, 114, 117, 119, 122, 68, 100, 103, 104, 105, 137, 138, 64, 72, 96, 99, 158, 159, 132, 56, 93, 94, 130, 131, 155, 62, 23, 170] 83 = some Q9 := by kernel_rfl

/- (lockless/axiom.Execution).copy -/
def Q0_0 : Sts := .op (some 1) (.box 45 (.t 0)) <|
 .op (some 2) (.alloc 45 [(.slice none 0 0), (.slice none 0 0), (.slice none 0 0), (.slice none 0 0)]) <|
 .nil
def Q0_1 : AT := .q (.op 0 (some 6) (.faddr 0 (.t 1)) <|
 .op 1 (some 7) (.loadS (.t 6)) <|
 .op 3 (some 9) (.faddr 1 (.t 1)) <|
 .op 4 (some 10) (.loadS (.t 9)) <|
 .op 6 (some 12) (.faddr 3 (.t 1)) <|
 .op 7 (some 13) (.loadS (.t 12)) <|
 .nil) <|
 .s 2 (some 8) (.call 113 [(.t 7)]) false (
 .q (.nil) <|
 .s 5 (some 11) (.call 124 [(.t 10)]) false (
 .q (.nil) <|
 .s 8 (some 14) (.call 113 [(.t 13)]) true (
 .q (.op 9 (some 15) (.build [(.slice none 0 0), (.slice none 0 0), (.slice none 0 0), (.slice none 0 0)] [(0, 1, (.t 8)), (1, 1, (.t 11)), (3, 1, (.t 14))]) <|
 .nil) <|
 .s 10 (some 3) (.alloc 45 [(.slice none 0 0), (.slice none 0 0), (.slice none 0 0), (.slice none 0 0)]) false (
 .q (.nil) <|
 .s 11 none (.store 4 (.t 3) (.t 15)) true (
 .q (.nil) <|
 .fin) <|
 .no) <|
 .no) <|
 .s 10 (some 3) (.alloc 45 [(.slice none 0 0), (.slice none 0 0), (.slice none 0 0), (.slice none 0 0)]) false (
 .q (.nil) <|
 .s 8 (some 14) (.call 113 [(.t 13)]) false (
 .q (.op 9 (some 15) (.build [(.slice none 0 0), (.slice none 0 0), (.slice none 0 0), (.slice none 0 0)] [(0, 1, (.t 8)), (1, 1, (.t 11)), (3, 1, (.t 14))]) <|
 .nil) <|
 .s 11 none (.store 4 (.t 3) (.t 15)) true (
 .q (.nil) <|
 .fin) <|
 .no) <|
 .no) <|
 .no) <|
 .s 10 (some 3) (.alloc 45 [(.slice none 0 0), (.slice none 0 0), (.slice none 0 0), (.slice none 0 0)]) false (
 .q (.nil) <|
 .s 5 (some 11) (.call 124 [(.t 10)]) false (
 .q (.nil) <|
 .s 8 (some 14) (.call 113 [(.t 13)]) false (
 .q (.op 9 (some 15) (.build [(.slice none 0 0), (.slice none 0 0), (.slice none 0 0), (.slice none 0 0)] [(0, 1, (.t 8)), (1, 1, (.t 11)), (3, 1, (.t 14))]) <|
 .nil) <|
 .s 11 none (.store 4 (.t 3) (.t 15)) true (
 .q (.nil) <|
 .fin) <|
 .no) <|
 .no) <|
 .no) <|
 .no) <|
 .s 10 (some 3) (.alloc 45 [(.slice none 0 0), (.slice none 0 0), (.slice none 0 0), (.slice none 0 0)]) false (
 .q (.nil) <|
 .s 2 (some 8) (.call 113 [(.t 7)]) false (
 .q (.nil) <|
 .s 5 (some 11) (.call 124 [(.t 10)]) false (
 .q (.nil) <|
 .s 8 (some 14) (.call 113 [(.t 13)]) false (
 .q (.op 9 (some 15) (.build [(.slice none 0 0), (.slice none 0 0), (.slice none 0 0), (.slice none 0 0)] [(0, 1, (.t 8)), (1, 1, (.t 11)), (3, 1, (.t 14))]) <|
 .nil) <|
 .s 11 none (.store 4 (.t 3) (.t 15)) true (
 .q (.nil) <|
 .fin) <|
 .no) <|
 .no) <|
 .no) <|
 .no) <|
 .no
def Q0_2 : Sts := .op (some 16) (.faddr 2 (.t 1)) <|
 .op (some 17) (.loadS (.t 16)) <|
 .op (some 18) (.len (.t 17)) <|
 .op (some 19) (.mv (.c (.int .i64 0))) <|
 .nil
def Q0_3 : Sts := .op (some 20) (.bin .lss (.t 19) (.t 18)) <|
 .nil
def Q0_4 : Sts := .op (some 21) (.iaddrS 1 (.t 17) (.t 19)) <|
 .op (some 22) (.loadS (.t 21)) <|
 .op (some 5) (.mv (.t 22)) <|
 .nil
def Q0_5 : AT := .q (.op 0 (some 23) (.faddr 2 (.t 3)) <|
 .op 1 (some 24) (.loadS (.t 23)) <|
 .op 2 (some 25) (.mv (.t 5)) <|
 .nil) <|
 .s 3 (some 26) (.call 113 [(.t 25)]) false (
 .q (.nil) <|
 .s 4 (some 27) (.buildSl 34 1 [(.slice none 0 0)] [(0, 1, (.t 26))]) false (
 .q (.nil) <|
 .s 5 (some 28) (.append 34 1 24 [(.slice none 0 0)] (.t 24) (.t 27)) true (
 .q (.op 6 (some 29) (.faddr 2 (.t 3)) <|
 .nil) <|
 .s 7 none (.store 1 (.t 29) (.t 28)) true (
 .q (.nil) <|
 .fin) <|
 .no) <|
 .no) <|
 .no) <|
 .no
def Q0_6 : Sts := .op (some 30) (.bin .add (.t 19) (.c (.int .i64 1))) <|
 .op (some 19) (.mv (.t 30)) <|
 .nil
def Q0_L7 : RCode := (.seq (.reg Q0_3) (.seq (.cond (.t 20) .skip (.exit 0)) (.seq (.block 1 (.seq (.reg Q0_4) (.any Q0_5))) (.reg Q0_6))))
def Q0_7 : Sts := .op (some 31) (.loadA 4 (.t 3)) <|
 .op none (.store 4 (.t 2) (.t 31)) <|
 .nil
def Q0 : RFun := ⟨32, [0, 1, 2, 3, 5, 17, 18, 19], (.seq (.reg Q0_0) (.seq (.any Q0_1) (.seq (.seq (.reg Q0_2) (.block 0 (.loop Q0_L7))) (.seq (.reg Q0_7) .ret)))), [.cellA 2 4]⟩
theorem Q0_ok : compF Tryz.prog [0, 1, 2, 3, 5, 17, 18, 19] [15, 20, 31, 71, 88, 41, 76, 86, 65, 83, 81, 114, 117, 119, 122, 68, 100, 103, 104, 105, 137, 138, 64, 72, 96, 99, 158, 159, 132, 56, 93, 94, 130, 131, 155, 62, 23, 170] 84 = some Q0 := by kernel_rfl

/- (lockless/axiom.program).words -/
def Q34_0 : Sts := .op (some 3) (.box 45 (.t 1)) <|
 .op (some 4) (.mv (.c (.slice none 0 0))) <|
 .op (some 5) (.mv (.c (.slice none 0 0))) <|
 .op (some 6) (.mv (.c (.slice none 0 0))) <|
 .nil
def Q34_1 : AT := .q (.op 0 (some 11) (.mv (.t 0)) <|
 .op 1 (some 12) (.len (.t 11)) <|
 .op 3 (some 14) (.mv (.t 0)) <|
 .op 4 (some 15) (.len (.t 14)) <|
 .op 6 (some 17) (.mv (.t 0)) <|
 .op 7 (some 18) (.len (.t 17)) <|
 .nil) <|
 .s 2 (some 13) (.makeSl 3 1 8 [(.int .i64 0)] (.t 12) (.t 12)) false (
 .q (.op 9 (some 4) (.mv (.t 13)) <|
 .nil) <|
 .s 5 (some 16) (.makeSl 3 1 8 [(.int .i64 0)] (.t 15) (.t 15)) false (
 .q (.op 10 (some 5) (.mv (.t 16)) <|
 .nil) <|
 .s 8 (some 19) (.makeSl 4 1 1 [(.bool false)] (.t 18) (.t 18)) false (
 .q (.op 11 (some 6) (.mv (.t 19)) <|
 .nil) <|
 .fin) <|
 .no) <|
 .s 8 (some 19) (.makeSl 4 1 1 [(.bool false)] (.t 18) (.t 18)) false (
 .q (.nil) <|
 .s 5 (some 16) (.makeSl 3 1 8 [(.int .i64 0)] (.t 15) (.t 15)) false (
 .q (.op 10 (some 5) (.mv (.t 16)) <|
 .op 11 (some 6) (.mv (.t 19)) <|
 .nil) <|
 .fin) <|
 .no) <|
 .no) <|
 .s 5 (some 16) (.makeSl 3 1 8 [(.int .i64 0)] (.t 15) (.t 15)) false (
 .q (.nil) <|
 .s 2 (some 13) (.makeSl 3 1 8 [(.int .i64 0)] (.t 12) (.t 12)) false (
 .q (.op 9 (some 4) (.mv (.t 13)) <|
 .op 10 (some 5) (.mv (.t 16)) <|
 .nil) <|
 .s 8 (some 19) (.makeSl 4 1 1 [(.bool false)] (.t 18) (.t 18)) false (
 .q (.op 11 (some 6) (.mv (.t 19)) <|
 .nil) <|
 .fin) <|
 .no) <|
 .s 8 (some 19) (.makeSl 4 1 1 [(.bool false)] (.t 18) (.t 18)) false (
 .q (.nil) <|
 .s 2 (some 13) (.makeSl 3 1 8 [(.int .i64 0)] (.t 12) (.t 12)) false (
 .q (.op 9 (some 4) (.mv (.t 13)) <|
 .op 10 (some 5) (.mv (.t 16)) <|
 .op 11 (some 6) (.mv (.t 19)) <|
 .nil) <|
 .fin) <|
 .no) <|
 .no) <|
 .s 8 (some 19) (.makeSl 4 1 1 [(.bool false)] (.t 18) (.t 18)) false (
 .q (.nil) <|
 .s 2 (some 13) (.makeSl 3 1 8 [(.int .i64 0)] (.t 12) (.t 12)) false (
 .q (.op 9 (some 4) (.mv (.t 13)) <|
 .nil) <|
 .s 5 (some 16) (.makeSl 3 1 8 [(.int .i64 0)] (.t 15) (.t 15)) false (
 .q (.op 10 (some 5) (.mv (.t 16)) <|
 .op 11 (some 6) (.mv (.t 19)) <|
 .nil) <|
 .fin) <|
 .no) <|
 .s 5 (some 16) (.makeSl 3 1 8 [(.int .i64 0)] (.t 15) (.t 15)) false (
 .q (.nil) <|
 .s 2 (some 13) (.makeSl 3 1 8 [(.int .i64 0)] (.t 12) (.t 12)) false (
 .q (.op 9 (some 4) (.mv (.t 13)) <|
 .op 10 (some 5) (.mv (.t 16)) <|
 .op 11 (some 6) (.mv (.t 19)) <|
 .nil) <|
 .fin) <|
 .no) <|
 .no) <|
 .no
def Q34_2 : Sts := .op (some 20) (.mv (.t 0)) <|
 .op (some 21) (.len (.t 20)) <|
 .op (some 22) (.makeSl 4 1 1 [(.bool false)] (.t 21) (.t 21)) <|
 .op (some 7) (.mv (.t 22)) <|
 .nil
def Q34_3 : Sts := .op (some 23) (.mv (.t 0)) <|
 .op (some 24) (.len (.t 23)) <|
 .op (some 25) (.bin .add (.t 24) (.c (.int .i64 1))) <|
 .op (some 26) (.mv (.c (.int .i64 0))) <|
 .nil
def Q34_4 : Sts := .op (some 27) (.bin .lss (.t 26) (.t 25)) <|
 .nil
def Q34_5 : Sts := .op (some 28) (.mv (.t 0)) <|
 .op (some 29) (.len (.t 28)) <|
 .op (some 30) (.mv (.c (.int .i64 0))) <|
 .nil
def Q34_6 : Sts := .op (some 31) (.bin .lss (.t 30) (.t 29)) <|
 .nil
def Q34_7 : Sts := .op (some 32) (.mv (.t 30)) <|
 .op (some 33) (.iaddrS 6 (.t 28) (.t 30)) <|
 .op (some 34) (.loadA 6 (.t 33)) <|
 .op (some 9) (.alloc 121 [(.int .i64 0), (.int .i64 0), (.int .i64 0), (.int .i64 0), (.int .i64 0), (.int .i64 0)]) <|
 .op (some 8) (.mv (.t 32)) <|
 .op none (.store 6 (.t 9) (.t 34)) <|
 .nil
def Q34_8 : Sts := .op (some 35) (.faddr 0 (.t 3)) <|
 .op (some 36) (.loadS (.t 35)) <|
 .op (some 37) (.mv (.t 8)) <|
 .op (some 38) (.iaddrS 1 (.t 36) (.t 37)) <|
 .op (some 39) (.loadI .i64 (.t 38)) <|
 .op (some 10) (.mv (.t 39)) <|
 .nil
def Q34_9 : Sts := .op (some 41) (.loadA 6 (.t 9)) <|
 .op (some 42) (.call 86 [(.t 41)]) <|
 .op (some 43) (.mv (.t 42)) <|
 .cnd 43 true (
 .op (some 44) (.mv (.t 10)) <|
 .op (some 45) (.bin .eql (.t 44) (.c (.int .i64 (-1)))) <|
 .nil) 46 (.t 45) <|
 .op (some 40) (.mv (.t 46)) <|
 .nil
def Q34_10 : Sts := .op (some 47) (.mv (.t 6)) <|
 .op (some 48) (.mv (.t 8)) <|
 .op (some 49) (.iaddrS 1 (.t 47) (.t 48)) <|
 .op none (.store 1 (.t 49) (.c (.bool true))) <|
 .nil
def Q34_11 : Sts := .op (some 51) (.loadA 6 (.t 9)) <|
 .op (some 52) (.call 86 [(.t 51)]) <|
 .op (some 53) (.mv (.t 52)) <|
 .cnd 53 true (
 .op (some 54) (.mv (.t 7)) <|
 .op (some 55) (.mv (.t 10)) <|
 .op (some 56) (.iaddrS 1 (.t 54) (.t 55)) <|
 .op (some 57) (.loadB (.t 56)) <|
 .nil) 58 (.t 57) <|
 .op (some 50) (.mv (.t 58)) <|
 .nil
def Q34_12 : Sts := .op (some 59) (.mv (.t 4)) <|
 .op (some 60) (.mv (.t 8)) <|
 .op (some 61) (.mv (.t 6)) <|
 .op (some 62) (.mv (.t 8)) <|
 .op (some 63) (.mv (.t 5)) <|
 .op (some 64) (.mv (.t 10)) <|
 .op (some 65) (.iaddrS 1 (.t 63) (.t 64)) <|
 .op (some 66) (.loadI .i64 (.t 65)) <|
 .op (some 67) (.iaddrS 1 (.t 59) (.t 60)) <|
 .op none (.store 1 (.t 67) (.t 66)) <|
 .op (some 68) (.iaddrS 1 (.t 61) (.t 62)) <|
 .op none (.store 1 (.t 68) (.c (.bool true))) <|
 .nil
def Q34_13 : Sts := .op (some 69) (.faddr 0 (.t 9)) <|
 .op (some 70) (.faddr 0 (.t 69)) <|
 .op (some 71) (.loadI .i64 (.t 70)) <|
 .nil
def Q34_14 : Sts := .op (some 73) (.bin .eql (.t 71) (.c (.int .i64 1))) <|
 .op (some 72) (.mv (.t 73)) <|
 .nil
def Q34_15 : Sts := .op (some 74) (.mv (.t 5)) <|
 .op (some 75) (.mv (.t 8)) <|
 .op (some 76) (.mv (.t 7)) <|
 .op (some 77) (.mv (.t 8)) <|
 .op (some 78) (.faddr 0 (.t 9)) <|
 .op (some 79) (.faddr 2 (.t 78)) <|
 .op (some 80) (.loadI .i64 (.t 79)) <|
 .op (some 81) (.iaddrS 1 (.t 74) (.t 75)) <|
 .op none (.store 1 (.t 81) (.t 80)) <|
 .op (some 82) (.iaddrS 1 (.t 76) (.t 77)) <|
 .op none (.store 1 (.t 82) (.c (.bool true))) <|
 .nil
def Q34_16 : Sts := .op (some 84) (.bin .eql (.t 71) (.c (.int .i64 2))) <|
 .op (some 83) (.mv (.t 84)) <|
 .nil
def Q34_17 : AT := .q (.op 0 (some 85) (.mv (.t 5)) <|
 .op 1 (some 86) (.mv (.t 8)) <|
 .op 2 (some 87) (.mv (.t 7)) <|
 .op 3 (some 88) (.mv (.t 8)) <|
 .op 4 (some 89) (.mv (.t 4)) <|
 .op 5 (some 90) (.mv (.t 8)) <|
 .op 6 (some 91) (.iaddrS 1 (.t 89) (.t 90)) <|
 .op 7 (some 92) (.loadI .i64 (.t 91)) <|
 .op 8 (some 93) (.faddr 0 (.t 9)) <|
 .op 9 (some 94) (.faddr 2 (.t 93)) <|
 .op 10 (some 95) (.loadI .i64 (.t 94)) <|
 .op 11 (some 96) (.bin .add (.t 92) (.t 95)) <|
 .op 12 (some 97) (.mv (.t 6)) <|
 .op 13 (some 98) (.mv (.t 8)) <|
 .op 14 (some 99) (.iaddrS 1 (.t 97) (.t 98)) <|
 .op 15 (some 100) (.loadB (.t 99)) <|
 .op 16 (some 101) (.iaddrS 1 (.t 85) (.t 86)) <|
 .nil) <|
 .s 17 none (.store 1 (.t 101) (.t 96)) false (
 .q (.op 18 (some 102) (.iaddrS 1 (.t 87) (.t 88)) <|
 .nil) <|
 .s 19 none (.store 1 (.t 102) (.t 100)) true (
 .q (.nil) <|
 .fin) <|
 .no) <|
 .no
def Q34_18 : Sts := .op (some 104) (.bin .eql (.t 71) (.c (.int .i64 3))) <|
 .op (some 103) (.mv (.t 104)) <|
 .nil
def Q34_19 : Sts := .op (some 105) (.bin .eql (.t 71) (.c (.int .i64 4))) <|
 .op (some 103) (.mv (.t 105)) <|
 .nil
def Q34_20 : Sts := .op (some 106) (.mv (.t 5)) <|
 .op (some 107) (.mv (.t 8)) <|
 .op (some 108) (.mv (.t 7)) <|
 .op (some 109) (.mv (.t 8)) <|
 .op (some 110) (.faddr 0 (.t 9)) <|
 .op (some 111) (.faddr 3 (.t 110)) <|
 .op (some 112) (.loadI .i64 (.t 111)) <|
 .op (some 113) (.iaddrS 1 (.t 106) (.t 107)) <|
 .op none (.store 1 (.t 113) (.t 112)) <|
 .op (some 114) (.iaddrS 1 (.t 108) (.t 109)) <|
 .op none (.store 1 (.t 114) (.c (.bool true))) <|
 .nil
def Q34_21 : Sts := .op (some 115) (.bin .add (.t 30) (.c (.int .i64 1))) <|
 .op (some 30) (.mv (.t 115)) <|
 .nil
def Q34_L22 : RCode := (.seq (.reg Q34_6) (.seq (.cond (.t 31) .skip (.exit 2)) (.seq (.block 3 (.seq (.reg Q34_7) (.seq (.seq (.reg Q34_8) (.block 4 (.seq (.reg Q34_9) (.cond (.t 40) (.reg Q34_10) (.seq (.reg Q34_11) (.cond (.t 50) (.reg Q34_12) .skip)))))) (.seq (.reg Q34_13) (.block 5 (.seq (.reg Q34_14) (.cond (.t 72) (.reg Q34_15) (.seq (.reg Q34_16) (.cond (.t 83) (.any Q34_17) (.seq (.seq (.reg Q34_18) (.cond (.t 103) .skip (.reg Q34_19))) (.cond (.t 103) (.reg Q34_20) .skip))))))))))) (.reg Q34_21))))
def Q34_22 : Sts := .op (some 116) (.bin .add (.t 26) (.c (.int .i64 1))) <|
 .op (some 26) (.mv (.t 116)) <|
 .nil
def Q34_L23 : RCode := (.seq (.reg Q34_4) (.seq (.cond (.t 27) .skip (.exit 0)) (.seq (.block 1 (.seq (.reg Q34_5) (.block 2 (.loop Q34_L22)))) (.reg Q34_22))))
def Q34_23 : Sts := .op (some 117) (.mv (.t 4)) <|
 .op (some 118) (.mv (.t 5)) <|
 .op (some 119) (.mv (.t 6)) <|
 .op (some 4) (.mv (.t 117)) <|
 .op (some 5) (.mv (.t 118)) <|
 .op (some 6) (.mv (.t 119)) <|
 .nil
def Q34 : RFun := ⟨120, [0, 1, 3, 4, 5, 6, 7, 8, 9, 10, 25, 26, 28, 29, 30, 71], (.seq (.reg Q34_0) (.seq (.any Q34_1) (.seq (.reg Q34_2) (.seq (.seq (.reg Q34_3) (.block 0 (.loop Q34_L23))) (.seq (.reg Q34_23) .ret))))), [.tmp 4, .tmp 5, .tmp 6]⟩
theorem Q34_ok : compF Tryz.prog [0, 1, 3, 4, 5, 6, 7, 8, 9, 10, 25, 26, 28, 29, 30, 71] [15, 20, 31, 71, 88, 41, 76, 86, 65, 83, 81, 114, 117, 119, 122, 68, 100, 103, 104, 105, 137, 138, 64, 72, 96, 99, 158, 159, 132, 56, 93, 94, 130, 131, 155, 62, 23, 170] 85 = some Q34 := by kernel_rfl

/- (lockless/axiom.event).reads -/
def Q4_0 : Sts := .op (some 1) (.box 121 (.t 0)) <|
 .op (some 2) (.mv (.c (.bool false))) <|
 .nil
def Q4_1 : Sts := .op (some 3) (.faddr 0 (.t 1)) <|
 .op (some 4) (.faddr 0 (.t 3)) <|
 .op (some 5) (.loadI .i64 (.t 4)) <|
 .op (some 6) (.bin .neq (.t 5) (.c (.int .i64 1))) <|
 .op (some 7) (.mv (.t 6)) <|
 .cnd 7 true (
 .op (some 8) (.faddr 0 (.t 1)) <|
 .op (some 9) (.faddr 0 (.t 8)) <|
 .op (some 10) (.loadI .i64 (.t 9)) <|
 .op (some 11) (.bin .neq (.t 10) (.c (.int .i64 5))) <|
 .nil) 12 (.t 11) <|
 .op (some 2) (.mv (.t 12)) <|
 .nil
def Q4 : RFun := ⟨13, [0, 1, 2], (.seq (.reg Q4_0) (.seq (.reg Q4_1) .ret)), [.tmp 2]⟩
theorem Q4_ok : compF Tryz.prog [0, 1, 2] [15, 20, 31, 71, 88, 41, 76, 86, 65, 83, 81, 114, 117, 119, 122, 68, 100, 103, 104, 105, 137, 138, 64, 72, 96, 99, 158, 159, 132, 56, 93, 94, 130, 131, 155, 62, 23, 170] 86 = some Q4 := by kernel_rfl

/- slices.Compare[[]int,int] -/
def Q76_0 : Sts := .op (some 4) (.mv (.c (.int .i64 0))) <|
 .nil
def Q76_1 : Sts := .op (some 9) (.mv (.t 0)) <|
 .op (some 10) (.len (.t 9)) <|
 .op (some 11) (.mv (.c (.int .i64 0))) <|
 .nil
def Q76_2 : Sts := .op (some 12) (.bin .lss (.t 11) (.t 10)) <|
 .nil
def Q76_3 : Sts := .op (some 13) (.mv (.t 11)) <|
 .op (some 14) (.iaddrS 1 (.t 9) (.t 11)) <|
 .op (some 15) (.loadI .i64 (.t 14)) <|
 .op (some 5) (.mv (.t 13)) <|
 .op (some 6) (.mv (.t 15)) <|
 .nil
def Q76_4 : Sts := .op (some 16) (.mv (.t 5)) <|
 .op (some 17) (.mv (.t 1)) <|
 .op (some 18) (.len (.t 17)) <|
 .op (some 19) (.bin .geq (.t 16) (.t 18)) <|
 .nil
def Q76_5 : Sts := .op (some 4) (.mv (.c (.int .i64 1))) <|
 .nil
def Q76_6 : Sts := .op (some 20) (.mv (.t 1)) <|
 .op (some 21) (.mv (.t 5)) <|
 .op (some 22) (.iaddrS 1 (.t 20) (.t 21)) <|
 .op (some 23) (.loadI .i64 (.t 22)) <|
 .op (some 7) (.mv (.t 23)) <|
 .nil
def Q76_7 : Sts := .op (some 24) (.mv (.t 6)) <|
 .op (some 25) (.mv (.t 7)) <|
 .op (some 26) (.call 127 [(.t 24), (.t 25)]) <|
 .op (some 8) (.mv (.t 26)) <|
 .nil
def Q76_8 : Sts := .op (some 27) (.mv (.t 8)) <|
 .op (some 28) (.bin .neq (.t 27) (.c (.int .i64 0))) <|
 .nil
def Q76_9 : Sts := .op (some 29) (.mv (.t 8)) <|
 .op (some 4) (.mv (.t 29)) <|
 .nil
def Q76_10 : Sts := .op (some 30) (.bin .add (.t 11) (.c (.int .i64 1))) <|
 .op (some 11) (.mv (.t 30)) <|
 .nil
def Q76_L11 : RCode := (.seq (.reg Q76_2) (.seq (.cond (.t 12) .skip (.exit 0)) (.seq (.block 1 (.seq (.reg Q76_3) (.seq (.seq (.reg Q76_4) (.cond (.t 19) (.seq (.reg Q76_5) .ret) .skip)) (.seq (.reg Q76_6) (.seq (.reg Q76_7) (.seq (.reg Q76_8) (.cond (.t 28) (.seq (.reg Q76_9) .ret) .skip))))))) (.reg Q76_10))))
def Q76_11 : Sts := .op (some 31) (.mv (.t 0)) <|
 .op (some 32) (.len (.t 31)) <|
 .op (some 33) (.mv (.t 1)) <|
 .op (some 34) (.len (.t 33)) <|
 .op (some 35) (.bin .lss (.t 32) (.t 34)) <|
 .nil
def Q76_12 : Sts := .op (some 4) (.mv (.c (.int .i64 (-1)))) <|
 .nil
def Q76_13 : Sts := .op (some 4) (.mv (.c (.int .i64 0))) <|
 .nil
def Q76 : RFun := ⟨36, [0, 1, 4, 5, 6, 7, 8, 9, 10, 11], (.seq (.reg Q76_0) (.seq (.seq (.reg Q76_1) (.block 0 (.loop Q76_L11))) (.seq (.seq (.reg Q76_11) (.cond (.t 35) (.seq (.reg Q76_12) .ret) .skip)) (.seq (.reg Q76_13) .ret)))), [.tmp 4]⟩
theorem Q76_ok : compF Tryz.prog [0, 1, 4, 5, 6, 7, 8, 9, 10, 11] [15, 20, 31, 71, 88, 41, 76, 86, 65, 83, 81, 114, 117, 119, 122, 68, 100, 103, 104, 105, 137, 138, 64, 72, 96, 99, 158, 159, 132, 56, 93, 94, 130, 131, 155, 62, 23, 170] 88 = some Q76 := by kernel_rfl

/- slices.CompactFunc[[][]int,[]int] -/
def Q75_0 : Sts := .op (some 4) (.mv (.c (.slice none 0 0))) <|
 .nil
def Q75_1 : Sts := .op (some 8) (.mv (.t 0)) <|
 .op (some 9) (.len (.t 8)) <|
 .op (some 10) (.bin .lss (.t 9) (.c (.int .i64 2))) <|
 .nil
def Q75_2 : Sts := .op (some 11) (.mv (.t 0)) <|
 .op (some 4) (.mv (.t 11)) <|
 .nil
def Q75_3 : Sts := .op (some 5) (.mv (.c (.int .i64 1))) <|
 .nil
def Q75_4 : Sts := .op (some 12) (.mv (.t 5)) <|
 .op (some 13) (.mv (.t 0)) <|
 .op (some 14) (.len (.t 13)) <|
 .op (some 15) (.bin .lss (.t 12) (.t 14)) <|
 .nil
def Q75_5 : AT := .q (.op 0 (some 18) (.mv (.t 1)) <|
 .op 1 (some 19) (.mv (.t 0)) <|
 .op 2 (some 20) (.mv (.t 5)) <|
 .op 3 (some 21) (.iaddrS 1 (.t 19) (.t 20)) <|
 .op 4 (some 22) (.loadS (.t 21)) <|
 .op 5 (some 23) (.mv (.t 0)) <|
 .op 6 (some 24) (.mv (.t 5)) <|
 .op 7 (some 25) (.bin .sub (.t 24) (.c (.int .i64 1))) <|
 .op 8 (some 26) (.iaddrS 1 (.t 23) (.t 25)) <|
 .op 9 (some 27) (.loadS (.t 26)) <|
 .nil) <|
 .s 10 (some 28) (.callv (.t 18) [(.t 22), (.t 27)]) true (
 .q (.nil) <|
 .fin) <|
 .no
def Q75_6 : Sts := .op (some 29) (.mv (.t 0)) <|
 .op (some 30) (.mv (.t 5)) <|
 .op (some 31) (.slS 1 (.t 29) (some (.t 30)) none none) <|
 .op (some 6) (.mv (.t 31)) <|
 .nil
def Q75_7 : Sts := .op (some 7) (.mv (.c (.int .i64 1))) <|
 .nil
def Q75_8 : Sts := .op (some 32) (.mv (.t 7)) <|
 .op (some 33) (.mv (.t 6)) <|
 .op (some 34) (.len (.t 33)) <|
 .op (some 35) (.bin .lss (.t 32) (.t 34)) <|
 .nil
def Q75_9 : AT := .q (.op 0 (some 38) (.mv (.t 1)) <|
 .op 1 (some 39) (.mv (.t 6)) <|
 .op 2 (some 40) (.mv (.t 7)) <|
 .op 3 (some 41) (.iaddrS 1 (.t 39) (.t 40)) <|
 .op 4 (some 42) (.loadS (.t 41)) <|
 .op 5 (some 43) (.mv (.t 6)) <|
 .op 6 (some 44) (.mv (.t 7)) <|
 .op 7 (some 45) (.bin .sub (.t 44) (.c (.int .i64 1))) <|
 .op 8 (some 46) (.iaddrS 1 (.t 43) (.t 45)) <|
 .op 9 (some 47) (.loadS (.t 46)) <|
 .nil) <|
 .s 10 (some 48) (.callv (.t 38) [(.t 42), (.t 47)]) true (
 .q (.op 11 (some 49) (.notb (.t 48)) <|
 .nil) <|
 .fin) <|
 .no
def Q75_10 : Sts := .op (some 50) (.mv (.t 0)) <|
 .op (some 51) (.mv (.t 5)) <|
 .op (some 52) (.mv (.t 6)) <|
 .op (some 53) (.mv (.t 7)) <|
 .op (some 54) (.iaddrS 1 (.t 52) (.t 53)) <|
 .op (some 55) (.loadS (.t 54)) <|
 .op (some 56) (.iaddrS 1 (.t 50) (.t 51)) <|
 .op none (.store 1 (.t 56) (.t 55)) <|
 .nil
def Q75_11 : Sts := .op (some 57) (.mv (.t 5)) <|
 .op (some 58) (.bin .add (.t 57) (.c (.int .i64 1))) <|
 .op (some 5) (.mv (.t 58)) <|
 .nil
def Q75_12 : Sts := .op (some 36) (.mv (.t 7)) <|
 .op (some 37) (.bin .add (.t 36) (.c (.int .i64 1))) <|
 .op (some 7) (.mv (.t 37)) <|
 .nil
def Q75_L13 : RCode := (.seq (.seq (.reg Q75_8) (.cond (.t 35) .skip (.exit 2))) (.seq (.block 3 (.seq (.any Q75_9) (.cond (.t 49) (.seq (.reg Q75_10) (.reg Q75_11)) .skip))) (.reg Q75_12)))
def Q75_13 : Sts := .op (some 59) (.mv (.t 0)) <|
 .op (some 60) (.mv (.t 5)) <|
 .op (some 61) (.slS 1 (.t 59) (some (.t 60)) none none) <|
 .op none (.clearS (.slice none 0 0) (.t 61)) <|
 .nil
def Q75_14 : Sts := .op (some 62) (.mv (.t 0)) <|
 .op (some 63) (.mv (.t 5)) <|
 .op (some 64) (.slS 1 (.t 62) none (some (.t 63)) none) <|
 .op (some 4) (.mv (.t 64)) <|
 .nil
def Q75_15 : Sts := .op (some 16) (.mv (.t 5)) <|
 .op (some 17) (.bin .add (.t 16) (.c (.int .i64 1))) <|
 .op (some 5) (.mv (.t 17)) <|
 .nil
def Q75_L16 : RCode := (.seq (.seq (.reg Q75_4) (.cond (.t 15) .skip (.exit 0))) (.seq (.block 1 (.seq (.any Q75_5) (.cond (.t 28) (.seq (.reg Q75_6) (.seq (.seq (.reg Q75_7) (.block 2 (.loop Q75_L13))) (.seq (.reg Q75_13) (.seq (.reg Q75_14) .ret)))) .skip))) (.reg Q75_15)))
def Q75_16 : Sts := .op (some 65) (.mv (.t 0)) <|
 .op (some 4) (.mv (.t 65)) <|
 .nil
def Q75 : RFun := ⟨66, [0, 1, 4, 5, 6, 7], (.seq (.reg Q75_0) (.seq (.seq (.reg Q75_1) (.cond (.t 10) (.seq (.reg Q75_2) .ret) .skip)) (.seq (.seq (.reg Q75_3) (.block 0 (.loop Q75_L16))) (.seq (.reg Q75_16) .ret)))), [.tmp 4]⟩
theorem Q75_ok : compF Tryz.prog [0, 1, 4, 5, 6, 7] [15, 20, 31, 71, 88, 41, 76, 86, 65, 83, 81, 114, 117, 119, 122, 68, 100, 103, 104, 105, 137, 138, 64, 72, 96, 99, 158, 159, 132, 56, 93, 94, 130, 131, 155, 62, 23, 170] 89 = some Q75 := by kernel_rfl

/- lockless/order.isOrder -/
def Q70_0 : Sts := .op (some 2) (.mv (.c (.bool false))) <|
 .nil
def Q70_1 : Sts := .op (some 3) (.mv (.t 0)) <|
 .op (some 4) (.bin .geq (.t 3) (.c (.int .i64 0))) <|
 .op (some 5) (.mv (.t 4)) <|
 .cnd 5 true (
 .op (some 6) (.mv (.t 0)) <|
 .op (some 7) (.bin .lss (.t 6) (.c (.int .i64 5))) <|
 .nil) 8 (.t 7) <|
 .op (some 2) (.mv (.t 8)) <|
 .nil
def Q70 : RFun := ⟨9, [0, 2], (.seq (.reg Q70_0) (.seq (.reg Q70_1) .ret)), [.tmp 2]⟩
theorem Q70_ok : compF Tryz.prog [0, 2] [15, 20, 31, 71, 88, 41, 76, 86, 65, 83, 81, 114, 117, 119, 122, 68, 100, 103, 104, 105, 137, 138, 64, 72, 96, 99, 158, 159, 132, 56, 93, 94, 130, 131, 155, 62, 23, 170] 96 = some Q70 := by kernel_rfl

/- lockless/order.covers -/
def Q69_0 : Sts := .op (some 4) (.mv (.c (.bool false))) <|
 .nil
def Q69_1 : Sts := .op (some 5) (.mv (.t 0)) <|
 .op (some 6) (.call 132 [(.t 5)]) <|
 .op (some 7) (.mv (.t 1)) <|
 .op (some 8) (.call 132 [(.t 7)]) <|
 .op (some 9) (.bin .and (.t 6) (.t 8)) <|
 .op (some 10) (.mv (.t 1)) <|
 .op (some 11) (.call 132 [(.t 10)]) <|
 .op (some 12) (.bin .eql (.t 9) (.t 11)) <|
 .op (some 4) (.mv (.t 12)) <|
 .nil
def Q69 : RFun := ⟨13, [0, 1, 4], (.seq (.reg Q69_0) (.seq (.reg Q69_1) .ret)), [.tmp 4]⟩
theorem Q69_ok : compF Tryz.prog [0, 1, 4] [15, 20, 31, 71, 88, 41, 76, 86, 65, 83, 81, 114, 117, 119, 122, 68, 100, 103, 104, 105, 137, 138, 64, 72, 96, 99, 158, 159, 132, 56, 93, 94, 130, 131, 155, 62, 23, 170] 97 = some Q69 := by kernel_rfl

/- slices.Max[[]int,int] -/
def Q85_0 : Sts := .op (some 2) (.mv (.c (.int .i64 0))) <|
 .nil
def Q85_1 : Sts := .op (some 5) (.mv (.t 0)) <|
 .op (some 6) (.len (.t 5)) <|
 .op (some 7) (.bin .lss (.t 6) (.c (.int .i64 1))) <|
 .nil
def Q85_2 : Sts := .op (some 8) (.bad) <|
 .op none (.bad) <|
 .nil
def Q85_3 : Sts := .op (some 9) (.mv (.t 0)) <|
 .op (some 10) (.iaddrS 1 (.t 9) (.c (.int .i64 0))) <|
 .op (some 11) (.loadI .i64 (.t 10)) <|
 .op (some 3) (.mv (.t 11)) <|
 .nil
def Q85_4 : Sts := .op (some 4) (.mv (.c (.int .i64 1))) <|
 .nil
def Q85_5 : Sts := .op (some 12) (.mv (.t 4)) <|
 .op (some 13) (.mv (.t 0)) <|
 .op (some 14) (.len (.t 13)) <|
 .op (some 15) (.bin .lss (.t 12) (.t 14)) <|
 .nil
def Q85_6 : Sts := .op (some 18) (.mv (.t 3)) <|
 .op (some 19) (.mv (.t 0)) <|
 .op (some 20) (.mv (.t 4)) <|
 .op (some 21) (.iaddrS 1 (.t 19) (.t 20)) <|
 .op (some 22) (.loadI .i64 (.t 21)) <|
 .op (some 23) (.maxi (.t 18) (.t 22)) <|
 .op (some 3) (.mv (.t 23)) <|
 .nil
def Q85_7 : Sts := .op (some 16) (.mv (.t 4)) <|
 .op (some 17) (.bin .add (.t 16) (.c (.int .i64 1))) <|
 .op (some 4) (.mv (.t 17)) <|
 .nil
def Q85_L8 : RCode := (.seq (.seq (.reg Q85_5) (.cond (.t 15) .skip (.exit 0))) (.seq (.block 1 (.reg Q85_6)) (.reg Q85_7)))
def Q85_8 : Sts := .op (some 24) (.mv (.t 3)) <|
 .op (some 2) (.mv (.t 24)) <|
 .nil
def Q85 : RFun := ⟨25, [0, 2, 3, 4], (.seq (.reg Q85_0) (.seq (.seq (.reg Q85_1) (.cond (.t 7) (.reg Q85_2) .skip)) (.seq (.reg Q85_3) (.seq (.seq (.reg Q85_4) (.block 0 (.loop Q85_L8))) (.seq (.reg Q85_8) .ret))))), [.tmp 2]⟩
theorem Q85_ok : compF Tryz.prog [0, 2, 3, 4] [15, 20, 31, 71, 88, 41, 76, 86, 65, 83, 81, 114, 117, 119, 122, 68, 100, 103, 104, 105, 137, 138, 64, 72, 96, 99, 158, 159, 132, 56, 93, 94, 130, 131, 155, 62, 23, 170] 98 = some Q85 := by kernel_rfl

/- lockless/order.may -/
def Q71_0 : Sts := .op (some 4) (.mv (.c (.bool false))) <|
 .nil
def Q71_1 : Sts := .op (some 5) (.mv (.t 0)) <|
 .nil
def Q71_2 : Sts := .op (some 7) (.bin .eql (.t 5) (.c (.int .i64 0))) <|
 .op (some 6) (.mv (.t 7)) <|
 .nil
def Q71_3 : Sts := .op (some 8) (.mv (.t 1)) <|
 .op (some 9) (.bin .neq (.t 8) (.c (.int .i64 2))) <|
 .op (some 10) (.mv (.t 9)) <|
 .cnd 10 true (
 .op (some 11) (.mv (.t 1)) <|
 .op (some 12) (.bin .neq (.t 11) (.c (.int .i64 3))) <|
 .nil) 13 (.t 12) <|
 .op (some 4) (.mv (.t 13)) <|
 .nil
def Q71_4 : Sts := .op (some 15) (.bin .eql (.t 5) (.c (.int .i64 1))) <|
 .op (some 14) (.mv (.t 15)) <|
 .nil
def Q71_5 : Sts := .op (some 16) (.mv (.t 1)) <|
 .op (some 17) (.bin .neq (.t 16) (.c (.int .i64 1))) <|
 .op (some 18) (.mv (.t 17)) <|
 .cnd 18 true (
 .op (some 19) (.mv (.t 1)) <|
 .op (some 20) (.bin .neq (.t 19) (.c (.int .i64 3))) <|
 .nil) 21 (.t 20) <|
 .op (some 4) (.mv (.t 21)) <|
 .nil
def Q71_6 : Sts := .op (some 23) (.bin .eql (.t 5) (.c (.int .i64 5))) <|
 .op (some 22) (.mv (.t 23)) <|
 .nil
def Q71_7 : Sts := .op (some 24) (.mv (.t 1)) <|
 .op (some 25) (.bin .neq (.t 24) (.c (.int .i64 0))) <|
 .op (some 4) (.mv (.t 25)) <|
 .nil
def Q71_8 : Sts := .op (some 4) (.mv (.c (.bool true))) <|
 .nil
def Q71 : RFun := ⟨26, [0, 1, 4, 5], (.seq (.reg Q71_0) (.seq (.seq (.reg Q71_1) (.block 0 (.seq (.reg Q71_2) (.cond (.t 6) (.seq (.reg Q71_3) .ret) (.seq (.reg Q71_4) (.cond (.t 14) (.seq (.reg Q71_5) .ret) (.seq (.reg Q71_6) (.cond (.t 22) (.seq (.reg Q71_7) .ret) .skip)))))))) (.seq (.reg Q71_8) .ret))), [.tmp 4]⟩
theorem Q71_ok : compF Tryz.prog [0, 1, 4, 5] [15, 20, 31, 71, 88, 41, 76, 86, 65, 83, 81, 114, 117, 119, 122, 68, 100, 103, 104, 105, 137, 138, 64, 72, 96, 99, 158, 159, 132, 56, 93, 94, 130, 131, 155, 62, 23, 170] 99 = some Q71 := by kernel_rfl

/- lockless/litmus.digit -/
def Q50_0 : Sts := .op (some 2) (.mv (.c (.bool false))) <|
 .nil
def Q50_1 : Sts := .op (some 3) (.mv (.t 0)) <|
 .op (some 4) (.bin .geq (.t 3) (.c (.int .i64 0))) <|
 .op (some 5) (.mv (.t 4)) <|
 .cnd 5 true (
 .op (some 6) (.mv (.t 0)) <|
 .op (some 7) (.bin .leq (.t 6) (.c (.int .i64 9))) <|
 .nil) 8 (.t 7) <|
 .op (some 2) (.mv (.t 8)) <|
 .nil
def Q50 : RFun := ⟨9, [0, 2], (.seq (.reg Q50_0) (.seq (.reg Q50_1) .ret)), [.tmp 2]⟩
theorem Q50_ok : compF Tryz.prog [0, 2] [15, 20, 31, 71, 88, 41, 76, 86, 65, 83, 81, 114, 117, 119, 122, 68, 100, 103, 104, 105, 137, 138, 64, 72, 96, 99, 158, 159, 132, 56, 93, 94, 130, 131, 155, 62, 23, 170] 100 = some Q50 := by kernel_rfl

/- (lockless/axiom.program).steps -/
def Q33_0 : Sts := .op (some 3) (.box 45 (.t 1)) <|
 .op (some 4) (.mv (.c (.slice none 0 0))) <|
 .nil
def Q33_1 : Sts := .op (some 8) (.mv (.t 0)) <|
 .op (some 9) (.call 136 [(.t 8)]) <|
 .op (some 5) (.mv (.t 9)) <|
 .nil
def Q33_2 : Sts := .op (some 6) (.mv (.c (.int .i64 1))) <|
 .nil
def Q33_3 : Sts := .op (some 10) (.mv (.t 6)) <|
 .op (some 11) (.mv (.t 0)) <|
 .op (some 12) (.len (.t 11)) <|
 .op (some 13) (.bin .lss (.t 10) (.t 12)) <|
 .nil
def Q33_4 : AT := .q (.op 0 (some 16) (.mv (.t 0)) <|
 .op 1 (some 17) (.mv (.t 6)) <|
 .op 2 (some 18) (.iaddrS 6 (.t 16) (.t 17)) <|
 .op 3 (some 19) (.faddr 5 (.t 18)) <|
 .op 4 (some 20) (.loadI .i64 (.t 19)) <|
 .op 5 (some 21) (.mv (.t 0)) <|
 .op 6 (some 22) (.mv (.t 6)) <|
 .op 7 (some 23) (.bin .sub (.t 22) (.c (.int .i64 1))) <|
 .op 8 (some 24) (.iaddrS 6 (.t 21) (.t 23)) <|
 .op 9 (some 25) (.faddr 5 (.t 24)) <|
 .op 10 (some 26) (.loadI .i64 (.t 25)) <|
 .op 11 (some 27) (.bin .eql (.t 20) (.t 26)) <|
 .nil) <|
 .fin
def Q33_5 : Sts := .op (some 28) (.mv (.t 5)) <|
 .op (some 29) (.mv (.t 6)) <|
 .op (some 30) (.bin .sub (.t 29) (.c (.int .i64 1))) <|
 .op (some 31) (.mv (.t 6)) <|
 .op (some 32) (.call 121 [(.t 28), (.t 30), (.t 31)]) <|
 .nil
def Q33_6 : Sts := .op (some 14) (.mv (.t 6)) <|
 .op (some 15) (.bin .add (.t 14) (.c (.int .i64 1))) <|
 .op (some 6) (.mv (.t 15)) <|
 .nil
def Q33_L7 : RCode := (.seq (.seq (.reg Q33_3) (.cond (.t 13) .skip (.exit 0))) (.seq (.block 1 (.seq (.any Q33_4) (.cond (.t 27) (.reg Q33_5) .skip))) (.reg Q33_6)))
def Q33_7 : Sts := .op (some 7) (.mv (.c (.int .i64 1))) <|
 .nil
def Q33_8 : Sts := .op (some 33) (.mv (.t 7)) <|
 .op (some 34) (.faddr 3 (.t 3)) <|
 .op (some 35) (.loadS (.t 34)) <|
 .op (some 36) (.len (.t 35)) <|
 .op (some 37) (.bin .lss (.t 33) (.t 36)) <|
 .nil
def Q33_9 : AT := .q (.op 0 (some 40) (.mv (.t 5)) <|
 .op 1 (some 41) (.faddr 3 (.t 3)) <|
 .op 2 (some 42) (.loadS (.t 41)) <|
 .op 3 (some 43) (.mv (.t 7)) <|
 .op 4 (some 44) (.bin .sub (.t 43) (.c (.int .i64 1))) <|
 .op 5 (some 45) (.iaddrS 1 (.t 42) (.t 44)) <|
 .op 6 (some 46) (.loadI .i64 (.t 45)) <|
 .op 7 (some 47) (.faddr 3 (.t 3)) <|
 .op 8 (some 48) (.loadS (.t 47)) <|
 .op 9 (some 49) (.mv (.t 7)) <|
 .op 10 (some 50) (.iaddrS 1 (.t 48) (.t 49)) <|
 .op 11 (some 51) (.loadI .i64 (.t 50)) <|
 .nil) <|
 .s 12 (some 52) (.call 121 [(.t 40), (.t 46), (.t 51)]) true (
 .q (.nil) <|
 .fin) <|
 .no
def Q33_10 : Sts := .op (some 38) (.mv (.t 7)) <|
 .op (some 39) (.bin .add (.t 38) (.c (.int .i64 1))) <|
 .op (some 7) (.mv (.t 39)) <|
 .nil
def Q33_L11 : RCode := (.seq (.seq (.reg Q33_8) (.cond (.t 37) .skip (.exit 2))) (.seq (.block 3 (.any Q33_9)) (.reg Q33_10)))
def Q33_11 : Sts := .op (some 53) (.mv (.t 5)) <|
 .op (some 4) (.mv (.t 53)) <|
 .nil
def Q33 : RFun := ⟨54, [0, 1, 3, 4, 5, 6, 7], (.seq (.reg Q33_0) (.seq (.reg Q33_1) (.seq (.seq (.reg Q33_2) (.block 0 (.loop Q33_L7))) (.seq (.seq (.reg Q33_7) (.block 2 (.loop Q33_L11))) (.seq (.reg Q33_11) .ret))))), [.tmp 4]⟩
theorem Q33_ok : compF Tryz.prog [0, 1, 3, 4, 5, 6, 7] [15, 20, 31, 71, 88, 41, 76, 86, 65, 83, 81, 114, 117, 119, 122, 68, 100, 103, 104, 105, 137, 138, 64, 72, 96, 99, 158, 159, 132, 56, 93, 94, 130, 131, 155, 62, 23, 170] 102 = some Q33 := by kernel_rfl

/- (lockless/axiom.program).starts -/
def Q32_0 : Sts := .op (some 4) (.mv (.c (.int .u32 0))) <|
 .nil
def Q32_1 : Sts := .op (some 5) (.mv (.c (.int .u32 0))) <|
 .nil
def Q32_2 : Sts := .op (some 7) (.mv (.t 0)) <|
 .op (some 8) (.mv (.t 1)) <|
 .op (some 9) (.iaddrS 6 (.t 7) (.t 8)) <|
 .op (some 10) (.loadA 6 (.t 9)) <|
 .op (some 11) (.call 137 [(.t 10)]) <|
 .nil
def Q32_3 : Sts := .op (some 12) (.mv (.t 5)) <|
 .op (some 13) (.mv (.t 1)) <|
 .op (some 14) (.bin .shl (.c (.int .u32 1)) (.t 13)) <|
 .op (some 15) (.bin .or (.t 12) (.t 14)) <|
 .op (some 5) (.mv (.t 15)) <|
 .nil
def Q32_4 : Sts := .op (some 16) (.mv (.t 1)) <|
 .op (some 17) (.bin .sub (.t 16) (.c (.int .i64 1))) <|
 .op (some 6) (.mv (.t 17)) <|
 .nil
def Q32_5 : AT := .q (.op 0 (some 18) (.mv (.t 6)) <|
 .op 1 (some 19) (.bin .geq (.t 18) (.c (.int .i64 0))) <|
 .op 2 (some 20) (.mv (.t 19)) <|
 .g 20 true (
 .op 3 (some 21) (.mv (.t 0)) <|
 .op 4 (some 22) (.mv (.t 6)) <|
 .op 5 (some 23) (.iaddrS 6 (.t 21) (.t 22)) <|
 .op 6 (some 24) (.faddr 5 (.t 23)) <|
 .op 7 (some 25) (.loadI .i64 (.t 24)) <|
 .op 8 (some 26) (.mv (.t 0)) <|
 .op 9 (some 27) (.mv (.t 1)) <|
 .op 10 (some 28) (.iaddrS 6 (.t 26) (.t 27)) <|
 .op 11 (some 29) (.faddr 5 (.t 28)) <|
 .op 12 (some 30) (.loadI .i64 (.t 29)) <|
 .op 13 (some 31) (.bin .eql (.t 25) (.t 30)) <|
 .nil) 14 32 (.t 31) <|
 .nil) <|
 .fin
def Q32_6 : Sts := .op (some 35) (.mv (.t 0)) <|
 .op (some 36) (.mv (.t 6)) <|
 .op (some 37) (.iaddrS 6 (.t 35) (.t 36)) <|
 .op (some 38) (.faddr 0 (.t 37)) <|
 .op (some 39) (.faddr 0 (.t 38)) <|
 .op (some 40) (.loadI .i64 (.t 39)) <|
 .op (some 41) (.bin .eql (.t 40) (.c (.int .i64 5))) <|
 .op (some 42) (.mv (.t 41)) <|
 .cnd 42 true (
 .op (some 43) (.mv (.t 0)) <|
 .op (some 44) (.mv (.t 6)) <|
 .op (some 45) (.iaddrS 6 (.t 43) (.t 44)) <|
 .op (some 46) (.loadA 6 (.t 45)) <|
 .op (some 47) (.call 137 [(.t 46)]) <|
 .nil) 48 (.t 47) <|
 .nil
def Q32_7 : Sts := .op (some 49) (.mv (.t 5)) <|
 .op (some 50) (.mv (.t 6)) <|
 .op (some 51) (.bin .shl (.c (.int .u32 1)) (.t 50)) <|
 .op (some 52) (.bin .or (.t 49) (.t 51)) <|
 .op (some 5) (.mv (.t 52)) <|
 .nil
def Q32_8 : Sts := .op (some 33) (.mv (.t 6)) <|
 .op (some 34) (.bin .sub (.t 33) (.c (.int .i64 1))) <|
 .op (some 6) (.mv (.t 34)) <|
 .nil
def Q32_L9 : RCode := (.seq (.seq (.any Q32_5) (.cond (.t 32) .skip (.exit 0))) (.seq (.block 1 (.seq (.reg Q32_6) (.cond (.t 48) (.reg Q32_7) .skip))) (.reg Q32_8)))
def Q32_9 : Sts := .op (some 53) (.mv (.t 5)) <|
 .op (some 4) (.mv (.t 53)) <|
 .nil
def Q32 : RFun := ⟨54, [0, 1, 4, 5, 6], (.seq (.reg Q32_0) (.seq (.reg Q32_1) (.seq (.seq (.reg Q32_2) (.cond (.t 11) (.reg Q32_3) .skip)) (.seq (.seq (.reg Q32_4) (.block 0 (.loop Q32_L9))) (.seq (.reg Q32_9) .ret))))), [.tmp 4]⟩
theorem Q32_ok : compF Tryz.prog [0, 1, 4, 5, 6] [15, 20, 31, 71, 88, 41, 76, 86, 65, 83, 81, 114, 117, 119, 122, 68, 100, 103, 104, 105, 137, 138, 64, 72, 96, 99, 158, 159, 132, 56, 93, 94, 130, 131, 155, 62, 23, 170] 103 = some Q32 := by kernel_rfl

/- (lockless/axiom.program).exchanged -/
def Q15_0 : Sts := .op (some 4) (.box 45 (.t 1)) <|
 .op (some 6) (.mv (.c (.bool false))) <|
 .nil
def Q15_1 : Sts := .op (some 7) (.mv (.t 0)) <|
 .op (some 8) (.mv (.t 2)) <|
 .op (some 9) (.iaddrS 6 (.t 7) (.t 8)) <|
 .op (some 10) (.loadA 6 (.t 9)) <|
 .op (some 11) (.call 86 [(.t 10)]) <|
 .op (some 12) (.mv (.t 11)) <|
 .cnd 12 true (
 .op (some 13) (.faddr 1 (.t 4)) <|
 .op (some 14) (.loadS (.t 13)) <|
 .op (some 15) (.mv (.t 2)) <|
 .op (some 16) (.iaddrS 1 (.t 14) (.t 15)) <|
 .op (some 17) (.loadB (.t 16)) <|
 .nil) 18 (.t 17) <|
 .op (some 6) (.mv (.t 18)) <|
 .nil
def Q15 : RFun := ⟨19, [0, 1, 2, 4, 6], (.seq (.reg Q15_0) (.seq (.reg Q15_1) .ret)), [.tmp 6]⟩
theorem Q15_ok : compF Tryz.prog [0, 1, 2, 4, 6] [15, 20, 31, 71, 88, 41, 76, 86, 65, 83, 81, 114, 117, 119, 122, 68, 100, 103, 104, 105, 137, 138, 64, 72, 96, 99, 158, 159, 132, 56, 93, 94, 130, 131, 155, 62, 23, 170] 104 = some Q15 := by kernel_rfl

/- (lockless/axiom.program).ends -/
def Q14_0 : Sts := .op (some 4) (.mv (.c (.int .u32 0))) <|
 .nil
def Q14_1 : Sts := .op (some 5) (.mv (.c (.int .u32 0))) <|
 .nil
def Q14_2 : Sts := .op (some 7) (.mv (.t 0)) <|
 .op (some 8) (.mv (.t 1)) <|
 .op (some 9) (.iaddrS 6 (.t 7) (.t 8)) <|
 .op (some 10) (.loadA 6 (.t 9)) <|
 .op (some 11) (.call 138 [(.t 10)]) <|
 .nil
def Q14_3 : Sts := .op (some 12) (.mv (.t 5)) <|
 .op (some 13) (.mv (.t 1)) <|
 .op (some 14) (.bin .shl (.c (.int .u32 1)) (.t 13)) <|
 .op (some 15) (.bin .or (.t 12) (.t 14)) <|
 .op (some 5) (.mv (.t 15)) <|
 .nil
def Q14_4 : Sts := .op (some 16) (.mv (.t 1)) <|
 .op (some 17) (.bin .add (.t 16) (.c (.int .i64 1))) <|
 .op (some 6) (.mv (.t 17)) <|
 .nil
def Q14_5 : AT := .q (.op 0 (some 18) (.mv (.t 6)) <|
 .op 1 (some 19) (.mv (.t 0)) <|
 .op 2 (some 20) (.len (.t 19)) <|
 .op 3 (some 21) (.bin .lss (.t 18) (.t 20)) <|
 .op 4 (some 22) (.mv (.t 21)) <|
 .g 22 true (
 .op 5 (some 23) (.mv (.t 0)) <|
 .op 6 (some 24) (.mv (.t 6)) <|
 .op 7 (some 25) (.iaddrS 6 (.t 23) (.t 24)) <|
 .op 8 (some 26) (.faddr 5 (.t 25)) <|
 .op 9 (some 27) (.loadI .i64 (.t 26)) <|
 .op 10 (some 28) (.mv (.t 0)) <|
 .op 11 (some 29) (.mv (.t 1)) <|
 .op 12 (some 30) (.iaddrS 6 (.t 28) (.t 29)) <|
 .op 13 (some 31) (.faddr 5 (.t 30)) <|
 .op 14 (some 32) (.loadI .i64 (.t 31)) <|
 .op 15 (some 33) (.bin .eql (.t 27) (.t 32)) <|
 .nil) 16 34 (.t 33) <|
 .nil) <|
 .fin
def Q14_6 : Sts := .op (some 37) (.mv (.t 0)) <|
 .op (some 38) (.mv (.t 6)) <|
 .op (some 39) (.iaddrS 6 (.t 37) (.t 38)) <|
 .op (some 40) (.faddr 0 (.t 39)) <|
 .op (some 41) (.faddr 0 (.t 40)) <|
 .op (some 42) (.loadI .i64 (.t 41)) <|
 .op (some 43) (.bin .eql (.t 42) (.c (.int .i64 5))) <|
 .op (some 44) (.mv (.t 43)) <|
 .cnd 44 true (
 .op (some 45) (.mv (.t 0)) <|
 .op (some 46) (.mv (.t 6)) <|
 .op (some 47) (.iaddrS 6 (.t 45) (.t 46)) <|
 .op (some 48) (.loadA 6 (.t 47)) <|
 .op (some 49) (.call 138 [(.t 48)]) <|
 .nil) 50 (.t 49) <|
 .nil
def Q14_7 : Sts := .op (some 51) (.mv (.t 5)) <|
 .op (some 52) (.mv (.t 6)) <|
 .op (some 53) (.bin .shl (.c (.int .u32 1)) (.t 52)) <|
 .op (some 54) (.bin .or (.t 51) (.t 53)) <|
 .op (some 5) (.mv (.t 54)) <|
 .nil
def Q14_8 : Sts := .op (some 35) (.mv (.t 6)) <|
 .op (some 36) (.bin .add (.t 35) (.c (.int .i64 1))) <|
 .op (some 6) (.mv (.t 36)) <|
 .nil
def Q14_L9 : RCode := (.seq (.seq (.any Q14_5) (.cond (.t 34) .skip (.exit 0))) (.seq (.block 1 (.seq (.reg Q14_6) (.cond (.t 50) (.reg Q14_7) .skip))) (.reg Q14_8)))
def Q14_9 : Sts := .op (some 55) (.mv (.t 5)) <|
 .op (some 4) (.mv (.t 55)) <|
 .nil
def Q14 : RFun := ⟨56, [0, 1, 4, 5, 6], (.seq (.reg Q14_0) (.seq (.reg Q14_1) (.seq (.seq (.reg Q14_2) (.cond (.t 11) (.reg Q14_3) .skip)) (.seq (.seq (.reg Q14_4) (.block 0 (.loop Q14_L9))) (.seq (.reg Q14_9) .ret))))), [.tmp 4]⟩
theorem Q14_ok : compF Tryz.prog [0, 1, 4, 5, 6] [15, 20, 31, 71, 88, 41, 76, 86, 65, 83, 81, 114, 117, 119, 122, 68, 100, 103, 104, 105, 137, 138, 64, 72, 96, 99, 158, 159, 132, 56, 93, 94, 130, 131, 155, 62, 23, 170] 105 = some Q14 := by kernel_rfl

/- (lockless/axiom.relation).close -/
def Q38_0 : Sts := .op (some 2) (.mv (.c (.slice none 0 0))) <|
 .nil
def Q38_1 : Sts := .op (some 5) (.mv (.t 0)) <|
 .op (some 6) (.len (.t 5)) <|
 .op (some 7) (.mv (.c (.int .i64 0))) <|
 .nil
def Q38_2 : Sts := .op (some 8) (.bin .lss (.t 7) (.t 6)) <|
 .nil
def Q38_3 : Sts := .op (some 9) (.mv (.t 7)) <|
 .op (some 3) (.mv (.t 9)) <|
 .nil
def Q38_4 : Sts := .op (some 10) (.mv (.t 0)) <|
 .op (some 11) (.len (.t 10)) <|
 .op (some 12) (.mv (.c (.int .i64 0))) <|
 .nil
def Q38_5 : Sts := .op (some 13) (.bin .lss (.t 12) (.t 11)) <|
 .nil
def Q38_6 : Sts := .op (some 14) (.mv (.t 12)) <|
 .op (some 4) (.mv (.t 14)) <|
 .nil
def Q38_7 : Sts := .op (some 15) (.mv (.t 0)) <|
 .op (some 16) (.mv (.t 4)) <|
 .op (some 17) (.mv (.t 3)) <|
 .op (some 18) (.call 68 [(.t 15), (.t 16), (.t 17)]) <|
 .nil
def Q38_8 : AT := .q (.op 0 (some 19) (.mv (.t 0)) <|
 .op 1 (some 20) (.mv (.t 4)) <|
 .op 2 (some 21) (.iaddrS 1 (.t 19) (.t 20)) <|
 .op 3 (some 22) (.loadI .u32 (.t 21)) <|
 .op 4 (some 23) (.mv (.t 0)) <|
 .op 5 (some 24) (.mv (.t 3)) <|
 .op 6 (some 25) (.iaddrS 1 (.t 23) (.t 24)) <|
 .op 7 (some 26) (.loadI .u32 (.t 25)) <|
 .op 8 (some 27) (.bin .or (.t 22) (.t 26)) <|
 .op 9 (some 28) (.iaddrS 1 (.t 19) (.t 20)) <|
 .nil) <|
 .s 10 none (.store 1 (.t 28) (.t 27)) true (
 .q (.nil) <|
 .fin) <|
 .no
def Q38_9 : Sts := .op (some 29) (.bin .add (.t 12) (.c (.int .i64 1))) <|
 .op (some 12) (.mv (.t 29)) <|
 .nil
def Q38_L10 : RCode := (.seq (.reg Q38_5) (.seq (.cond (.t 13) .skip (.exit 2)) (.seq (.block 3 (.seq (.reg Q38_6) (.seq (.reg Q38_7) (.cond (.t 18) (.any Q38_8) .skip)))) (.reg Q38_9))))
def Q38_10 : Sts := .op (some 30) (.bin .add (.t 7) (.c (.int .i64 1))) <|
 .op (some 7) (.mv (.t 30)) <|
 .nil
def Q38_L11 : RCode := (.seq (.reg Q38_2) (.seq (.cond (.t 8) .skip (.exit 0)) (.seq (.block 1 (.seq (.reg Q38_3) (.seq (.reg Q38_4) (.block 2 (.loop Q38_L10))))) (.reg Q38_10))))
def Q38_11 : Sts := .op (some 31) (.mv (.t 0)) <|
 .op (some 2) (.mv (.t 31)) <|
 .nil
def Q38 : RFun := ⟨32, [0, 2, 3, 4, 6, 7, 11, 12], (.seq (.reg Q38_0) (.seq (.seq (.reg Q38_1) (.block 0 (.loop Q38_L11))) (.seq (.reg Q38_11) .ret))), [.tmp 2]⟩
theorem Q38_ok : compF Tryz.prog [0, 2, 3, 4, 6, 7, 11, 12] [15, 20, 31, 71, 88, 41, 76, 86, 65, 83, 81, 114, 117, 119, 122, 68, 100, 103, 104, 105, 137, 138, 64, 72, 96, 99, 158, 159, 132, 56, 93, 94, 130, 131, 155, 62, 23, 170] 106 = some Q38 := by kernel_rfl

/- (lockless/axiom.program).dones$1 -/
def Q12_0 : Sts := .op (some 10) (.loadS (.t 1)) <|
 .op (some 11) (.mkfn 108 [] [(.t 1)]) <|
 .op (some 12) (.call 74 [(.t 10), (.t 11)]) <|
 .op (some 3) (.mv (.t 12)) <|
 .nil
def Q12_1 : Sts := .op (some 13) (.mv (.t 3)) <|
 .op (some 14) (.len (.t 13)) <|
 .op (some 15) (.bin .shl (.c (.int .i64 1)) (.t 14)) <|
 .op (some 16) (.mv (.c (.int .i64 0))) <|
 .nil
def Q12_2 : Sts := .op (some 17) (.bin .lss (.t 16) (.t 15)) <|
 .nil
def Q12_3 : Sts := .op (some 18) (.mv (.t 16)) <|
 .op (some 4) (.mv (.t 18)) <|
 .nil
def Q12_4 : Sts := .op (some 19) (.loadS (.t 1)) <|
 .op (some 20) (.len (.t 19)) <|
 .op (some 21) (.makeSl 4 1 1 [(.bool false)] (.t 20) (.t 20)) <|
 .op (some 5) (.mv (.t 21)) <|
 .nil
def Q12_5 : Sts := .op (some 22) (.loadS (.t 1)) <|
 .op (some 23) (.len (.t 22)) <|
 .op (some 24) (.mv (.c (.int .i64 0))) <|
 .nil
def Q12_6 : Sts := .op (some 25) (.bin .lss (.t 24) (.t 23)) <|
 .nil
def Q12_7 : Sts := .op (some 26) (.mv (.t 24)) <|
 .op (some 27) (.iaddrS 6 (.t 22) (.t 24)) <|
 .op (some 28) (.loadA 6 (.t 27)) <|
 .op (some 7) (.alloc 121 [(.int .i64 0), (.int .i64 0), (.int .i64 0), (.int .i64 0), (.int .i64 0), (.int .i64 0)]) <|
 .op (some 6) (.mv (.t 26)) <|
 .op none (.store 6 (.t 7) (.t 28)) <|
 .nil
def Q12_8 : Sts := .op (some 29) (.mv (.t 5)) <|
 .op (some 30) (.mv (.t 6)) <|
 .op (some 31) (.faddr 0 (.t 7)) <|
 .op (some 32) (.faddr 0 (.t 31)) <|
 .op (some 33) (.loadI .i64 (.t 32)) <|
 .op (some 34) (.bin .eql (.t 33) (.c (.int .i64 1))) <|
 .op (some 35) (.mv (.t 34)) <|
 .cnd 35 false (
 .op (some 36) (.faddr 0 (.t 7)) <|
 .op (some 37) (.faddr 0 (.t 36)) <|
 .op (some 38) (.loadI .i64 (.t 37)) <|
 .op (some 39) (.bin .eql (.t 38) (.c (.int .i64 2))) <|
 .nil) 40 (.t 39) <|
 .op (some 41) (.iaddrS 1 (.t 29) (.t 30)) <|
 .op none (.store 1 (.t 41) (.t 40)) <|
 .nil
def Q12_9 : Sts := .op (some 42) (.bin .add (.t 24) (.c (.int .i64 1))) <|
 .op (some 24) (.mv (.t 42)) <|
 .nil
def Q12_L10 : RCode := (.seq (.reg Q12_6) (.seq (.cond (.t 25) .skip (.exit 2)) (.seq (.block 3 (.seq (.reg Q12_7) (.reg Q12_8))) (.reg Q12_9))))
def Q12_10 : Sts := .op (some 43) (.mv (.t 3)) <|
 .op (some 44) (.len (.t 43)) <|
 .op (some 45) (.mv (.c (.int .i64 0))) <|
 .nil
def Q12_11 : Sts := .op (some 46) (.bin .lss (.t 45) (.t 44)) <|
 .nil
def Q12_12 : Sts := .op (some 47) (.mv (.t 45)) <|
 .op (some 48) (.iaddrS 1 (.t 43) (.t 45)) <|
 .op (some 49) (.loadI .i64 (.t 48)) <|
 .op (some 8) (.mv (.t 47)) <|
 .op (some 9) (.mv (.t 49)) <|
 .nil
def Q12_13 : Sts := .op (some 50) (.mv (.t 5)) <|
 .op (some 51) (.mv (.t 9)) <|
 .op (some 52) (.mv (.t 4)) <|
 .op (some 53) (.mv (.t 8)) <|
 .op (some 54) (.bin .shr (.t 52) (.t 53)) <|
 .op (some 55) (.bin .and (.t 54) (.c (.int .i64 1))) <|
 .op (some 56) (.bin .eql (.t 55) (.c (.int .i64 1))) <|
 .op (some 57) (.iaddrS 1 (.t 50) (.t 51)) <|
 .op none (.store 1 (.t 57) (.t 56)) <|
 .nil
def Q12_14 : Sts := .op (some 58) (.bin .add (.t 45) (.c (.int .i64 1))) <|
 .op (some 45) (.mv (.t 58)) <|
 .nil
def Q12_L15 : RCode := (.seq (.reg Q12_11) (.seq (.cond (.t 46) .skip (.exit 4)) (.seq (.block 5 (.seq (.reg Q12_12) (.reg Q12_13))) (.reg Q12_14))))
def Q12_15 : Sts := .op (some 59) (.mv (.t 0)) <|
 .op (some 60) (.mv (.t 5)) <|
 .op (some 61) (.callv (.t 59) [(.t 60)]) <|
 .op (some 62) (.notb (.t 61)) <|
 .nil
def Q12_16 : Sts := .op (some 63) (.bin .add (.t 16) (.c (.int .i64 1))) <|
 .op (some 16) (.mv (.t 63)) <|
 .nil
def Q12_L17 : RCode := (.seq (.reg Q12_2) (.seq (.cond (.t 17) .skip (.exit 0)) (.seq (.block 1 (.seq (.reg Q12_3) (.seq (.reg Q12_4) (.seq (.seq (.reg Q12_5) (.block 2 (.loop Q12_L10))) (.seq (.seq (.reg Q12_10) (.block 4 (.loop Q12_L15))) (.seq (.reg Q12_15) (.cond (.t 62) .ret .skip))))))) (.reg Q12_16))))
def Q12 : RFun := ⟨64, [0, 1, 3, 4, 5, 6, 7, 8, 9, 15, 16, 22, 23, 24, 43, 44, 45], (.seq (.reg Q12_0) (.seq (.reg Q12_1) (.block 0 (.loop Q12_L17)))), []⟩
theorem Q12_ok : compF Tryz.prog [0, 1, 3, 4, 5, 6, 7, 8, 9, 15, 16, 22, 23, 24, 43, 44, 45] [15, 20, 31, 71, 88, 41, 76, 86, 65, 83, 81, 114, 117, 119, 122, 68, 100, 103, 104, 105, 137, 138, 64, 72, 96, 99, 158, 159, 132, 56, 93, 94, 130, 131, 155, 62, 23, 170] 107 = some Q12 := by kernel_rfl

/- (lockless/axiom.program).dones$1$1 -/
def Q13_0 : Sts := .op (some 3) (.mv (.c (.bool false))) <|
 .nil
def Q13_1 : Sts := .op (some 4) (.loadS (.t 1)) <|
 .op (some 5) (.mv (.t 0)) <|
 .op (some 6) (.iaddrS 6 (.t 4) (.t 5)) <|
 .op (some 7) (.faddr 0 (.t 6)) <|
 .op (some 8) (.faddr 0 (.t 7)) <|
 .op (some 9) (.loadI .i64 (.t 8)) <|
 .op (some 10) (.bin .eql (.t 9) (.c (.int .i64 3))) <|
 .op (some 11) (.mv (.t 10)) <|
 .cnd 11 false (
 .op (some 12) (.loadS (.t 1)) <|
 .op (some 13) (.mv (.t 0)) <|
 .op (some 14) (.iaddrS 6 (.t 12) (.t 13)) <|
 .op (some 15) (.faddr 0 (.t 14)) <|
 .op (some 16) (.faddr 0 (.t 15)) <|
 .op (some 17) (.loadI .i64 (.t 16)) <|
 .op (some 18) (.bin .eql (.t 17) (.c (.int .i64 4))) <|
 .nil) 19 (.t 18) <|
 .op (some 3) (.mv (.t 19)) <|
 .nil
def Q13 : RFun := ⟨20, [0, 1, 3], (.seq (.reg Q13_0) (.seq (.reg Q13_1) .ret)), [.tmp 3]⟩
theorem Q13_ok : compF Tryz.prog [0, 1, 3] [15, 20, 31, 71, 88, 41, 76, 86, 65, 83, 81, 114, 117, 119, 122, 68, 100, 103, 104, 105, 137, 138, 64, 72, 96, 99, 158, 159, 132, 56, 93, 94, 130, 131, 155, 62, 23, 170] 108 = some Q13 := by kernel_rfl

/- (lockless/axiom.program).orders$1 -/
def Q27_0 : Sts := .op (some 4) (.box 149 (.t 0)) <|
 .nil
def Q27_1 : Sts := .op (some 7) (.loadI .i64 (.t 1)) <|
 .op (some 8) (.bin .eql (.t 7) (.c (.int .i64 3))) <|
 .nil
def Q27_2 : Sts := .op (some 9) (.loadX (.t 4)) <|
 .op (some 10) (.callv (.t 9) [(.c (.slice none 0 0))]) <|
 .nil
def Q27_3 : AT := .q (.op 0 (some 11) (.loadS (.t 2)) <|
 .op 1 (some 12) (.loadS (.t 2)) <|
 .op 2 (some 13) (.loadS (.t 3)) <|
 .op 3 (some 14) (.loadI .i64 (.t 1)) <|
 .nil) <|
 .s 4 (some 15) (.call 110 [(.t 12), (.t 13), (.t 14)]) false (
 .q (.nil) <|
 .s 5 (some 16) (.call 82 [(.t 11), (.t 15)]) true (
 .q (.nil) <|
 .fin) <|
 .no) <|
 .no
def Q27_4 : Sts := .op (some 5) (.alloc 34 [(.slice none 0 0)]) <|
 .op none (.store 1 (.t 5) (.t 17)) <|
 .nil
def Q27_5 : Sts := .op (some 18) (.loadS (.t 2)) <|
 .op (some 19) (.loadS (.t 3)) <|
 .op (some 20) (.loadI .i64 (.t 1)) <|
 .op (some 21) (.bin .add (.t 20) (.c (.int .i64 1))) <|
 .op (some 22) (.call 79 [(.t 18), (.t 19), (.t 21)]) <|
 .nil
def Q27_6 : Sts := .op (some 6) (.mv (.t 23)) <|
 .nil
def Q27_7 : AT := .q (.op 0 (some 24) (.loadX (.t 4)) <|
 .op 1 (some 25) (.loadS (.t 5)) <|
 .op 3 (some 27) (.mv (.t 6)) <|
 .nil) <|
 .s 2 (some 26) (.buildSl 34 1 [(.slice none 0 0)] [(0, 1, (.t 25))]) false (
 .q (.nil) <|
 .s 4 (some 28) (.append 34 1 24 [(.slice none 0 0)] (.t 26) (.t 27)) false (
 .q (.nil) <|
 .s 5 (some 29) (.callv (.t 24) [(.t 28)]) true (
 .q (.op 6 (some 30) (.notb (.t 29)) <|
 .nil) <|
 .fin) <|
 .no) <|
 .no) <|
 .no
def R_axiom_program_orders_S1_A8 : RCode := (.reg Q27_6)
def R_axiom_program_orders_S1_B8 : RCode := (.block 3 (.seq (.any Q27_7) (.cond (.t 30) .ret .skip)))
def R_axiom_program_orders_S1_A9 : RCode := (.reg Q27_4)
def R_axiom_program_orders_S1_B9 : RCode := (.block 1 (.seq (.reg Q27_5) (.block 2 (.rangeF (.t 22) [23] R_axiom_program_orders_S1_A8 R_axiom_program_orders_S1_B8))))
def Q27 : RFun := ⟨31, [0, 1, 2, 3, 4, 5, 6, 16, 17, 22, 23], (.seq (.reg Q27_0) (.seq (.seq (.reg Q27_1) (.cond (.t 8) (.seq (.reg Q27_2) .ret) .skip)) (.seq (.any Q27_3) (.block 0 (.rangeF (.t 16) [17] R_axiom_program_orders_S1_A9 R_axiom_program_orders_S1_B9))))), []⟩
theorem Q27_ok : compF Tryz.prog [0, 1, 2, 3, 4, 5, 6, 16, 17, 22, 23] [15, 20, 31, 71, 88, 41, 76, 86, 65, 83, 81, 114, 117, 119, 122, 68, 100, 103, 104, 105, 137, 138, 64, 72, 96, 99, 158, 159, 132, 56, 93, 94, 130, 131, 155, 62, 23, 170] 109 = some Q27 := by kernel_rfl

/- (lockless/axiom.program).writers -/
def Q35_0 : Sts := .op (some 3) (.box 74 (.t 0)) <|
 .op (some 4) (.box 35 (.t 1)) <|
 .op (some 5) (.box 3 (.t 2)) <|
 .op (some 6) (.mv (.c (.slice none 0 0))) <|
 .nil
def Q35_1 : Sts := .op (some 7) (.loadS (.t 3)) <|
 .op (some 8) (.mkfn 139 [] [(.t 3), (.t 4), (.t 5)]) <|
 .op (some 9) (.call 74 [(.t 7), (.t 8)]) <|
 .op (some 6) (.mv (.t 9)) <|
 .nil
def Q35 : RFun := ⟨10, [0, 1, 2, 3, 4, 5, 6], (.seq (.reg Q35_0) (.seq (.reg Q35_1) .ret)), [.tmp 6]⟩
theorem Q35_ok : compF Tryz.prog [0, 1, 2, 3, 4, 5, 6] [15, 20, 31, 71, 88, 41, 76, 86, 65, 83, 81, 114, 117, 119, 122, 68, 100, 103, 104, 105, 137, 138, 64, 72, 96, 99, 158, 159, 132, 56, 93, 94, 130, 131, 155, 62, 23, 170] 110 = some Q35 := by kernel_rfl

/- (lockless/axiom.program).froms$1 -/
def Q20_0 : Sts := .op (some 4) (.box 151 (.t 0)) <|
 .nil
def Q20_1 : Sts := .op (some 7) (.loadS (.t 1)) <|
 .op (some 8) (.len (.t 7)) <|
 .op (some 9) (.makeSl 3 1 8 [(.int .i64 0)] (.t 8) (.t 8)) <|
 .op (some 5) (.alloc 34 [(.slice none 0 0)]) <|
 .op none (.store 1 (.t 5) (.t 9)) <|
 .nil
def Q20_2 : Sts := .op (some 6) (.alloc 123 [.nilFunc]) <|
 .nil
def Q20_3 : Sts := .op (some 10) (.mkfn 112 [] [(.t 1), (.t 4), (.t 5), (.t 6), (.t 2), (.t 3)]) <|
 .op none (.store 1 (.t 6) (.t 10)) <|
 .nil
def Q20_4 : Sts := .op (some 11) (.loadX (.t 6)) <|
 .op (some 12) (.callv (.t 11) [(.c (.int .i64 0))]) <|
 .nil
def Q20 : RFun := ⟨13, [0, 1, 2, 3, 4, 5, 6], (.seq (.reg Q20_0) (.seq (.reg Q20_1) (.seq (.reg Q20_2) (.seq (.reg Q20_3) (.reg Q20_4))))), []⟩
theorem Q20_ok : compF Tryz.prog [0, 1, 2, 3, 4, 5, 6] [15, 20, 31, 71, 88, 41, 76, 86, 65, 83, 81, 114, 117, 119, 122, 68, 100, 103, 104, 105, 137, 138, 64, 72, 96, 99, 158, 159, 132, 56, 93, 94, 130, 131, 155, 62, 23, 170] 111 = some Q20 := by kernel_rfl

/- (lockless/axiom.program).froms$1$1 -/
def Q21_0 : Sts := .op (some 8) (.mv (.c (.bool false))) <|
 .nil
def Q21_1 : Sts := .op (some 13) (.mv (.t 0)) <|
 .op (some 14) (.loadS (.t 1)) <|
 .op (some 15) (.len (.t 14)) <|
 .op (some 16) (.bin .eql (.t 13) (.t 15)) <|
 .nil
def Q21_2 : AT := .q (.op 0 (some 17) (.loadX (.t 2)) <|
 .op 1 (some 18) (.loadS (.t 3)) <|
 .nil) <|
 .s 2 (some 19) (.call 113 [(.t 18)]) false (
 .q (.nil) <|
 .s 3 (some 20) (.callv (.t 17) [(.t 19)]) true (
 .q (.op 4 (some 8) (.mv (.t 20)) <|
 .nil) <|
 .fin) <|
 .no) <|
 .no
def Q21_3 : Sts := .op (some 21) (.loadS (.t 1)) <|
 .op (some 22) (.mv (.t 0)) <|
 .op (some 23) (.iaddrS 6 (.t 21) (.t 22)) <|
 .op (some 24) (.loadA 6 (.t 23)) <|
 .op (some 25) (.call 86 [(.t 24)]) <|
 .op (some 26) (.notb (.t 25)) <|
 .nil
def Q21_4 : Sts := .op (some 27) (.loadS (.t 3)) <|
 .op (some 28) (.mv (.t 0)) <|
 .op (some 29) (.iaddrS 1 (.t 27) (.t 28)) <|
 .op none (.store 1 (.t 29) (.c (.int .i64 (-2)))) <|
 .nil
def Q21_5 : Sts := .op (some 30) (.loadX (.t 4)) <|
 .op (some 31) (.mv (.t 0)) <|
 .op (some 32) (.bin .add (.t 31) (.c (.int .i64 1))) <|
 .op (some 33) (.callv (.t 30) [(.t 32)]) <|
 .op (some 8) (.mv (.t 33)) <|
 .nil
def Q21_6 : AT := .q (.op 1 (some 35) (.loadS (.t 5)) <|
 .op 2 (some 36) (.loadS (.t 1)) <|
 .op 3 (some 37) (.mv (.t 0)) <|
 .op 4 (some 38) (.iaddrS 6 (.t 36) (.t 37)) <|
 .op 5 (some 39) (.faddr 0 (.t 38)) <|
 .op 6 (some 40) (.faddr 1 (.t 39)) <|
 .op 7 (some 41) (.loadI .i64 (.t 40)) <|
 .op 8 (some 42) (.iaddrS 1 (.t 35) (.t 41)) <|
 .op 9 (some 43) (.loadS (.t 42)) <|
 .nil) <|
 .s 0 (some 34) (.buildSl 3 1 [(.int .i64 0)] [(0, 1, (.c (.int .i64 (-1))))]) false (
 .q (.nil) <|
 .s 10 (some 44) (.append 3 1 8 [(.int .i64 0)] (.t 34) (.t 43)) true (
 .q (.op 11 (some 9) (.mv (.t 44)) <|
 .nil) <|
 .fin) <|
 .no) <|
 .no
def Q21_7 : Sts := .op (some 45) (.loadS (.t 6)) <|
 .op (some 46) (.mv (.t 0)) <|
 .op (some 47) (.iaddrS 1 (.t 45) (.t 46)) <|
 .op (some 48) (.loadB (.t 47)) <|
 .nil
def Q21_8 : Sts := .op (some 49) (.mv (.t 9)) <|
 .op (some 50) (.mv (.t 0)) <|
 .op (some 51) (.call 114 [(.t 49), (.t 50)]) <|
 .op (some 10) (.mv (.t 51)) <|
 .nil
def Q21_9 : Sts := .op (some 52) (.mv (.t 9)) <|
 .op (some 53) (.mv (.t 10)) <|
 .op (some 54) (.bin .sub (.t 53) (.c (.int .i64 1))) <|
 .op (some 55) (.mv (.t 10)) <|
 .op (some 56) (.slS 1 (.t 52) (some (.t 54)) (some (.t 55)) none) <|
 .op (some 9) (.mv (.t 56)) <|
 .nil
def Q21_10 : Sts := .op (some 57) (.mv (.t 9)) <|
 .op (some 58) (.len (.t 57)) <|
 .op (some 59) (.mv (.c (.int .i64 0))) <|
 .nil
def Q21_11 : Sts := .op (some 60) (.bin .lss (.t 59) (.t 58)) <|
 .nil
def Q21_12 : Sts := .op (some 61) (.iaddrS 1 (.t 57) (.t 59)) <|
 .op (some 62) (.loadI .i64 (.t 61)) <|
 .op (some 12) (.mv (.t 62)) <|
 .nil
def Q21_13 : Sts := .op (some 63) (.loadS (.t 3)) <|
 .op (some 64) (.mv (.t 0)) <|
 .op (some 65) (.mv (.t 12)) <|
 .op (some 66) (.iaddrS 1 (.t 63) (.t 64)) <|
 .op none (.store 1 (.t 66) (.t 65)) <|
 .nil
def Q21_14 : Sts := .op (some 67) (.loadX (.t 4)) <|
 .op (some 68) (.mv (.t 0)) <|
 .op (some 69) (.bin .add (.t 68) (.c (.int .i64 1))) <|
 .op (some 70) (.callv (.t 67) [(.t 69)]) <|
 .op (some 71) (.notb (.t 70)) <|
 .nil
def Q21_15 : Sts := .op (some 8) (.mv (.c (.bool false))) <|
 .nil
def Q21_16 : Sts := .op (some 72) (.bin .add (.t 59) (.c (.int .i64 1))) <|
 .op (some 59) (.mv (.t 72)) <|
 .nil
def Q21_L17 : RCode := (.seq (.reg Q21_11) (.seq (.cond (.t 60) .skip (.exit 0)) (.seq (.block 1 (.seq (.reg Q21_12) (.seq (.reg Q21_13) (.seq (.reg Q21_14) (.cond (.t 71) (.seq (.reg Q21_15) .ret) .skip))))) (.reg Q21_16))))
def Q21_17 : Sts := .op (some 8) (.mv (.c (.bool true))) <|
 .nil
def Q21 : RFun := ⟨73, [0, 1, 2, 3, 4, 5, 6, 8, 9, 10, 12, 57, 58, 59], (.seq (.reg Q21_0) (.seq (.seq (.reg Q21_1) (.cond (.t 16) (.seq (.any Q21_2) .ret) .skip)) (.seq (.seq (.reg Q21_3) (.cond (.t 26) (.seq (.reg Q21_4) (.seq (.reg Q21_5) .ret)) .skip)) (.seq (.any Q21_6) (.seq (.seq (.reg Q21_7) (.cond (.t 48) (.seq (.reg Q21_8) (.reg Q21_9)) .skip)) (.seq (.seq (.reg Q21_10) (.block 0 (.loop Q21_L17))) (.seq (.reg Q21_17) .ret))))))), [.tmp 8]⟩
theorem Q21_ok : compF Tryz.prog [0, 1, 2, 3, 4, 5, 6, 8, 9, 10, 12, 57, 58, 59] [15, 20, 31, 71, 88, 41, 76, 86, 65, 83, 81, 114, 117, 119, 122, 68, 100, 103, 104, 105, 137, 138, 64, 72, 96, 99, 158, 159, 132, 56, 93, 94, 130, 131, 155, 62, 23, 170] 112 = some Q21 := by kernel_rfl

/- slices.Clone[[]int,int] -/
def Q74_0 : Sts := .op (some 2) (.mv (.c (.slice none 0 0))) <|
 .nil
def Q74_1 : Sts := .op (some 3) (.mv (.t 0)) <|
 .op (some 4) (.eqS false (.t 3)) <|
 .nil
def Q74_2 : Sts := .op (some 2) (.mv (.c (.slice none 0 0))) <|
 .nil
def Q74_3 : Sts := .op (some 5) (.buildSl 3 0 [] []) <|
 .op (some 6) (.mv (.t 0)) <|
 .op (some 7) (.append 3 1 8 [(.int .i64 0)] (.t 5) (.t 6)) <|
 .op (some 2) (.mv (.t 7)) <|
 .nil
def Q74 : RFun := ⟨8, [0, 2], (.seq (.reg Q74_0) (.seq (.seq (.reg Q74_1) (.cond (.t 4) (.seq (.reg Q74_2) .ret) .skip)) (.seq (.reg Q74_3) .ret))), [.tmp 2]⟩
theorem Q74_ok : compF Tryz.prog [0, 2] [15, 20, 31, 71, 88, 41, 76, 86, 65, 83, 81, 114, 117, 119, 122, 68, 100, 103, 104, 105, 137, 138, 64, 72, 96, 99, 158, 159, 132, 56, 93, 94, 130, 131, 155, 62, 23, 170] 113 = some Q74 := by kernel_rfl

/- slices.Index[[]int,int] -/
def Q84_0 : Sts := .op (some 4) (.mv (.c (.int .i64 0))) <|
 .nil
def Q84_1 : Sts := .op (some 6) (.mv (.t 0)) <|
 .op (some 7) (.len (.t 6)) <|
 .op (some 8) (.mv (.c (.int .i64 0))) <|
 .nil
def Q84_2 : Sts := .op (some 9) (.bin .lss (.t 8) (.t 7)) <|
 .nil
def Q84_3 : Sts := .op (some 10) (.mv (.t 8)) <|
 .op (some 5) (.mv (.t 10)) <|
 .nil
def Q84_4 : Sts := .op (some 11) (.mv (.t 1)) <|
 .op (some 12) (.mv (.t 0)) <|
 .op (some 13) (.mv (.t 5)) <|
 .op (some 14) (.iaddrS 1 (.t 12) (.t 13)) <|
 .op (some 15) (.loadI .i64 (.t 14)) <|
 .op (some 16) (.bin .eql (.t 11) (.t 15)) <|
 .nil
def Q84_5 : Sts := .op (some 17) (.mv (.t 5)) <|
 .op (some 4) (.mv (.t 17)) <|
 .nil
def Q84_6 : Sts := .op (some 18) (.bin .add (.t 8) (.c (.int .i64 1))) <|
 .op (some 8) (.mv (.t 18)) <|
 .nil
def Q84_L7 : RCode := (.seq (.reg Q84_2) (.seq (.cond (.t 9) .skip (.exit 0)) (.seq (.block 1 (.seq (.reg Q84_3) (.seq (.reg Q84_4) (.cond (.t 16) (.seq (.reg Q84_5) .ret) .skip)))) (.reg Q84_6))))
def Q84_7 : Sts := .op (some 4) (.mv (.c (.int .i64 (-1)))) <|
 .nil
def Q84 : RFun := ⟨19, [0, 1, 4, 5, 7, 8], (.seq (.reg Q84_0) (.seq (.seq (.reg Q84_1) (.block 0 (.loop Q84_L7))) (.seq (.reg Q84_7) .ret))), [.tmp 4]⟩
theorem Q84_ok : compF Tryz.prog [0, 1, 4, 5, 7, 8] [15, 20, 31, 71, 88, 41, 76, 86, 65, 83, 81, 114, 117, 119, 122, 68, 100, 103, 104, 105, 137, 138, 64, 72, 96, 99, 158, 159, 132, 56, 93, 94, 130, 131, 155, 62, 23, 170] 114 = some Q84 := by kernel_rfl

/- (lockless/axiom.program).merges$1 -/
def Q23_0 : Sts := .op (some 3) (.box 151 (.t 0)) <|
 .nil
def Q23_1 : Sts := .op (some 4) (.alloc 50 [.nilFunc]) <|
 .nil
def Q23_2 : Sts := .op (some 5) (.mkfn 116 [] [(.t 3), (.t 1), (.t 4)]) <|
 .op none (.store 1 (.t 4) (.t 5)) <|
 .nil
def Q23_3 : Sts := .op (some 6) (.loadX (.t 4)) <|
 .op (some 7) (.loadS (.t 2)) <|
 .op (some 8) (.callv (.t 6) [(.c (.slice none 0 0)), (.t 7)]) <|
 .nil
def Q23 : RFun := ⟨9, [0, 1, 2, 3, 4], (.seq (.reg Q23_0) (.seq (.reg Q23_1) (.seq (.reg Q23_2) (.reg Q23_3)))), []⟩
theorem Q23_ok : compF Tryz.prog [0, 1, 2, 3, 4] [15, 20, 31, 71, 88, 41, 76, 86, 65, 83, 81, 114, 117, 119, 122, 68, 100, 103, 104, 105, 137, 138, 64, 72, 96, 99, 158, 159, 132, 56, 93, 94, 130, 131, 155, 62, 23, 170] 115 = some Q23 := by kernel_rfl

/- (lockless/axiom.program).merges$1$1 -/
def Q24_0 : Sts := .op (some 7) (.mv (.c (.bool false))) <|
 .nil
def Q24_1 : Sts := .op (some 11) (.mv (.t 1)) <|
 .op (some 12) (.len (.t 11)) <|
 .op (some 13) (.bin .eql (.t 12) (.c (.int .i64 0))) <|
 .nil
def Q24_2 : AT := .q (.op 0 (some 14) (.loadX (.t 2)) <|
 .op 1 (some 15) (.mv (.t 0)) <|
 .nil) <|
 .s 2 (some 16) (.call 113 [(.t 15)]) false (
 .q (.nil) <|
 .s 3 (some 17) (.callv (.t 14) [(.t 16)]) true (
 .q (.op 4 (some 7) (.mv (.t 17)) <|
 .nil) <|
 .fin) <|
 .no) <|
 .no
def Q24_3 : Sts := .op (some 18) (.mv (.t 1)) <|
 .op (some 19) (.len (.t 18)) <|
 .op (some 20) (.mv (.c (.int .i64 0))) <|
 .nil
def Q24_4 : Sts := .op (some 21) (.bin .lss (.t 20) (.t 19)) <|
 .nil
def Q24_5 : Sts := .op (some 22) (.mv (.t 20)) <|
 .op (some 23) (.iaddrS 1 (.t 18) (.t 20)) <|
 .op (some 24) (.loadI .i64 (.t 23)) <|
 .op (some 9) (.alloc 3 [(.int .i64 0)]) <|
 .op (some 8) (.mv (.t 22)) <|
 .op none (.store 1 (.t 9) (.t 24)) <|
 .nil
def Q24_6 : Sts := .op (some 25) (.mv (.t 1)) <|
 .op (some 26) (.mv (.t 8)) <|
 .op (some 27) (.slS 1 (.t 25) none (some (.t 26)) none) <|
 .op (some 28) (.mkfn 118 [] [(.t 3), (.t 9)]) <|
 .op (some 29) (.call 117 [(.t 27), (.t 28)]) <|
 .op (some 10) (.mv (.t 29)) <|
 .nil
def Q24_7 : AT := .q (.op 0 (some 30) (.mv (.t 10)) <|
 .op 1 (some 31) (.notb (.t 30)) <|
 .op 2 (some 32) (.mv (.t 31)) <|
 .nil) <|
 .br 32 (
 .q (.nil) <|
 .q (.op 3 (some 33) (.loadX (.t 4)) <|
 .nil) <|
 .q (.nil) <|
 .q (.op 4 (some 34) (.mv (.t 0)) <|
 .nil) <|
 .q (.nil) <|
 .q (.op 5 (some 35) (.call 119 [(.t 34)]) <|
 .nil) <|
 .q (.nil) <|
 .q (.op 6 (some 36) (.loadI .i64 (.t 9)) <|
 .nil) <|
 .q (.nil) <|
 .q (.op 9 (some 39) (.mv (.t 1)) <|
 .nil) <|
 .q (.nil) <|
 .q (.op 10 (some 40) (.mv (.t 8)) <|
 .nil) <|
 .q (.nil) <|
 .q (.op 11 (some 41) (.slS 1 (.t 39) none (some (.t 40)) none) <|
 .nil) <|
 .q (.nil) <|
 .q (.op 12 (some 42) (.mv (.t 1)) <|
 .nil) <|
 .q (.nil) <|
 .q (.op 13 (some 43) (.mv (.t 8)) <|
 .nil) <|
 .q (.nil) <|
 .q (.op 14 (some 44) (.bin .add (.t 43) (.c (.int .i64 1))) <|
 .nil) <|
 .q (.nil) <|
 .q (.op 15 (some 45) (.slS 1 (.t 42) (some (.t 44)) none none) <|
 .nil) <|
 .q (.nil) <|
 .s 7 (some 37) (.buildSl 3 1 [(.int .i64 0)] [(0, 1, (.t 36))]) false (
 .q (.nil) <|
 .s 8 (some 38) (.append 3 1 8 [(.int .i64 0)] (.t 35) (.t 37)) false (
 .q (.nil) <|
 .s 16 (some 46) (.buildSl 34 2 [(.slice none 0 0), (.slice none 0 0)] [(0, 1, (.t 41)), (1, 1, (.t 45))]) false (
 .q (.nil) <|
 .s 17 (some 47) (.call 120 [(.t 46)]) false (
 .q (.nil) <|
 .s 18 (some 48) (.callv (.t 33) [(.t 38), (.t 47)]) true (
 .q (.g 32 true (
 .op 19 (some 49) (.notb (.t 48)) <|
 .nil) 20 50 (.t 49) <|
 .nil) <|
 .fin) <|
 .no) <|
 .no) <|
 .no) <|
 .s 16 (some 46) (.buildSl 34 2 [(.slice none 0 0), (.slice none 0 0)] [(0, 1, (.t 41)), (1, 1, (.t 45))]) false (
 .q (.nil) <|
 .s 8 (some 38) (.append 3 1 8 [(.int .i64 0)] (.t 35) (.t 37)) false (
 .q (.nil) <|
 .s 17 (some 47) (.call 120 [(.t 46)]) false (
 .q (.nil) <|
 .s 18 (some 48) (.callv (.t 33) [(.t 38), (.t 47)]) true (
 .q (.g 32 true (
 .op 19 (some 49) (.notb (.t 48)) <|
 .nil) 20 50 (.t 49) <|
 .nil) <|
 .fin) <|
 .no) <|
 .no) <|
 .no) <|
 .no) <|
 .s 16 (some 46) (.buildSl 34 2 [(.slice none 0 0), (.slice none 0 0)] [(0, 1, (.t 41)), (1, 1, (.t 45))]) false (
 .q (.nil) <|
 .s 7 (some 37) (.buildSl 3 1 [(.int .i64 0)] [(0, 1, (.t 36))]) false (
 .q (.nil) <|
 .s 8 (some 38) (.append 3 1 8 [(.int .i64 0)] (.t 35) (.t 37)) false (
 .q (.nil) <|
 .s 17 (some 47) (.call 120 [(.t 46)]) false (
 .q (.nil) <|
 .s 18 (some 48) (.callv (.t 33) [(.t 38), (.t 47)]) true (
 .q (.g 32 true (
 .op 19 (some 49) (.notb (.t 48)) <|
 .nil) 20 50 (.t 49) <|
 .nil) <|
 .fin) <|
 .no) <|
 .no) <|
 .no) <|
 .no) <|
 .no) <|
 .q (.nil) <|
 .sk 3 (some 33) <|
 .q (.nil) <|
 .sk 4 (some 34) <|
 .q (.nil) <|
 .sk 5 (some 35) <|
 .q (.nil) <|
 .sk 6 (some 36) <|
 .q (.nil) <|
 .sk 7 (some 37) <|
 .q (.nil) <|
 .sk 8 (some 38) <|
 .q (.nil) <|
 .sk 9 (some 39) <|
 .q (.nil) <|
 .sk 10 (some 40) <|
 .q (.nil) <|
 .sk 11 (some 41) <|
 .q (.nil) <|
 .sk 12 (some 42) <|
 .q (.nil) <|
 .sk 13 (some 43) <|
 .q (.nil) <|
 .sk 14 (some 44) <|
 .q (.nil) <|
 .sk 15 (some 45) <|
 .q (.nil) <|
 .sk 16 (some 46) <|
 .q (.nil) <|
 .sk 17 (some 47) <|
 .q (.nil) <|
 .sk 18 (some 48) <|
 .q (.g 32 true (
 .op 19 (some 49) (.notb (.t 48)) <|
 .nil) 20 50 (.t 49) <|
 .nil) <|
 .fin
def Q24_8 : Sts := .op (some 7) (.mv (.c (.bool false))) <|
 .nil
def Q24_9 : Sts := .op (some 51) (.bin .add (.t 20) (.c (.int .i64 1))) <|
 .op (some 20) (.mv (.t 51)) <|
 .nil
def Q24_L10 : RCode := (.seq (.reg Q24_4) (.seq (.cond (.t 21) .skip (.exit 0)) (.seq (.block 1 (.seq (.reg Q24_5) (.seq (.reg Q24_6) (.seq (.any Q24_7) (.cond (.t 50) (.seq (.reg Q24_8) .ret) .skip))))) (.reg Q24_9))))
def Q24_10 : Sts := .op (some 7) (.mv (.c (.bool true))) <|
 .nil
def Q24 : RFun := ⟨52, [0, 1, 2, 3, 4, 7, 8, 9, 10, 18, 19, 20], (.seq (.reg Q24_0) (.seq (.seq (.reg Q24_1) (.cond (.t 13) (.seq (.any Q24_2) .ret) .skip)) (.seq (.seq (.reg Q24_3) (.block 0 (.loop Q24_L10))) (.seq (.reg Q24_10) .ret)))), [.tmp 7]⟩
theorem Q24_ok : compF Tryz.prog [0, 1, 2, 3, 4, 7, 8, 9, 10, 18, 19, 20] [15, 20, 31, 71, 88, 41, 76, 86, 65, 83, 81, 114, 117, 119, 122, 68, 100, 103, 104, 105, 137, 138, 64, 72, 96, 99, 158, 159, 132, 56, 93, 94, 130, 131, 155, 62, 23, 170] 116 = some Q24 := by kernel_rfl

/- slices.ContainsFunc[[]int,int] -/
def Q78_0 : Sts := .op (some 4) (.mv (.c (.bool false))) <|
 .nil
def Q78_1 : Sts := .op (some 5) (.mv (.t 0)) <|
 .op (some 6) (.mv (.t 1)) <|
 .op (some 7) (.call 140 [(.t 5), (.t 6)]) <|
 .op (some 8) (.bin .geq (.t 7) (.c (.int .i64 0))) <|
 .op (some 4) (.mv (.t 8)) <|
 .nil
def Q78 : RFun := ⟨9, [0, 1, 4], (.seq (.reg Q78_0) (.seq (.reg Q78_1) .ret)), [.tmp 4]⟩
theorem Q78_ok : compF Tryz.prog [0, 1, 4] [15, 20, 31, 71, 88, 41, 76, 86, 65, 83, 81, 114, 117, 119, 122, 68, 100, 103, 104, 105, 137, 138, 64, 72, 96, 99, 158, 159, 132, 56, 93, 94, 130, 131, 155, 62, 23, 170] 117 = some Q78 := by kernel_rfl

/- (lockless/axiom.program).merges$1$1$1 -/
def Q25_0 : Sts := .op (some 4) (.mv (.c (.bool false))) <|
 .nil
def Q25_1 : AT := .q (.op 0 (some 5) (.loadS (.t 1)) <|
 .op 1 (some 6) (.mv (.t 0)) <|
 .op 2 (some 7) (.iaddrS 6 (.t 5) (.t 6)) <|
 .op 3 (some 8) (.faddr 5 (.t 7)) <|
 .op 4 (some 9) (.loadI .i64 (.t 8)) <|
 .op 5 (some 10) (.loadS (.t 1)) <|
 .op 6 (some 11) (.loadI .i64 (.t 2)) <|
 .op 7 (some 12) (.iaddrS 6 (.t 10) (.t 11)) <|
 .op 8 (some 13) (.faddr 5 (.t 12)) <|
 .op 9 (some 14) (.loadI .i64 (.t 13)) <|
 .op 10 (some 15) (.bin .eql (.t 9) (.t 14)) <|
 .op 11 (some 4) (.mv (.t 15)) <|
 .nil) <|
 .fin
def Q25 : RFun := ⟨16, [0, 1, 2, 4], (.seq (.reg Q25_0) (.seq (.any Q25_1) .ret)), [.tmp 4]⟩
theorem Q25_ok : compF Tryz.prog [0, 1, 2, 4] [15, 20, 31, 71, 88, 41, 76, 86, 65, 83, 81, 114, 117, 119, 122, 68, 100, 103, 104, 105, 137, 138, 64, 72, 96, 99, 158, 159, 132, 56, 93, 94, 130, 131, 155, 62, 23, 170] 118 = some Q25 := by kernel_rfl

/- slices.Clip[[]int,int] -/
def Q72_0 : Sts := .op (some 2) (.mv (.c (.slice none 0 0))) <|
 .nil
def Q72_1 : Sts := .op (some 3) (.mv (.t 0)) <|
 .op (some 4) (.mv (.t 0)) <|
 .op (some 5) (.len (.t 4)) <|
 .op (some 6) (.mv (.t 0)) <|
 .op (some 7) (.len (.t 6)) <|
 .op (some 8) (.slS 1 (.t 3) none (some (.t 5)) (some (.t 7))) <|
 .op (some 2) (.mv (.t 8)) <|
 .nil
def Q72 : RFun := ⟨9, [0, 2], (.seq (.reg Q72_0) (.seq (.reg Q72_1) .ret)), [.tmp 2]⟩
theorem Q72_ok : compF Tryz.prog [0, 2] [15, 20, 31, 71, 88, 41, 76, 86, 65, 83, 81, 114, 117, 119, 122, 68, 100, 103, 104, 105, 137, 138, 64, 72, 96, 99, 158, 159, 132, 56, 93, 94, 130, 131, 155, 62, 23, 170] 119 = some Q72 := by kernel_rfl

/- slices.Concat[[]int,int] -/
def Q77_0 : Sts := .op (some 2) (.mv (.c (.slice none 0 0))) <|
 .nil
def Q77_1 : Sts := .op (some 3) (.mv (.c (.int .i64 0))) <|
 .nil
def Q77_2 : Sts := .op (some 9) (.mv (.t 0)) <|
 .op (some 10) (.len (.t 9)) <|
 .op (some 11) (.mv (.c (.int .i64 0))) <|
 .nil
def Q77_3 : Sts := .op (some 12) (.bin .lss (.t 11) (.t 10)) <|
 .nil
def Q77_4 : Sts := .op (some 13) (.iaddrS 1 (.t 9) (.t 11)) <|
 .op (some 14) (.loadS (.t 13)) <|
 .op (some 5) (.mv (.t 14)) <|
 .nil
def Q77_5 : Sts := .op (some 15) (.mv (.t 3)) <|
 .op (some 16) (.mv (.t 5)) <|
 .op (some 17) (.len (.t 16)) <|
 .op (some 18) (.bin .add (.t 15) (.t 17)) <|
 .op (some 3) (.mv (.t 18)) <|
 .nil
def Q77_6 : Sts := .op (some 19) (.mv (.t 3)) <|
 .op (some 20) (.bin .lss (.t 19) (.c (.int .i64 0))) <|
 .nil
def Q77_7 : Sts := .op (some 21) (.bad) <|
 .op none (.bad) <|
 .nil
def Q77_8 : Sts := .op (some 22) (.bin .add (.t 11) (.c (.int .i64 1))) <|
 .op (some 11) (.mv (.t 22)) <|
 .nil
def Q77_L9 : RCode := (.seq (.reg Q77_3) (.seq (.cond (.t 12) .skip (.exit 0)) (.seq (.block 1 (.seq (.reg Q77_4) (.seq (.reg Q77_5) (.seq (.reg Q77_6) (.cond (.t 20) (.reg Q77_7) .skip))))) (.reg Q77_8))))
def Q77_9 : Sts := .op (some 23) (.mv (.t 3)) <|
 .op (some 24) (.call 141 [(.c (.slice none 0 0)), (.t 23)]) <|
 .op (some 6) (.mv (.t 24)) <|
 .nil
def Q77_10 : Sts := .op (some 25) (.mv (.t 0)) <|
 .op (some 26) (.len (.t 25)) <|
 .op (some 27) (.mv (.c (.int .i64 0))) <|
 .nil
def Q77_11 : Sts := .op (some 28) (.bin .lss (.t 27) (.t 26)) <|
 .nil
def Q77_12 : Sts := .op (some 29) (.iaddrS 1 (.t 25) (.t 27)) <|
 .op (some 30) (.loadS (.t 29)) <|
 .op (some 8) (.mv (.t 30)) <|
 .nil
def Q77_13 : Sts := .op (some 31) (.mv (.t 6)) <|
 .op (some 32) (.mv (.t 8)) <|
 .op (some 33) (.append 3 1 8 [(.int .i64 0)] (.t 31) (.t 32)) <|
 .op (some 6) (.mv (.t 33)) <|
 .nil
def Q77_14 : Sts := .op (some 34) (.bin .add (.t 27) (.c (.int .i64 1))) <|
 .op (some 27) (.mv (.t 34)) <|
 .nil
def Q77_L15 : RCode := (.seq (.reg Q77_11) (.seq (.cond (.t 28) .skip (.exit 2)) (.seq (.block 3 (.seq (.reg Q77_12) (.reg Q77_13))) (.reg Q77_14))))
def Q77_15 : Sts := .op (some 35) (.mv (.t 6)) <|
 .op (some 2) (.mv (.t 35)) <|
 .nil
def Q77 : RFun := ⟨36, [0, 2, 3, 5, 6, 8, 9, 10, 11, 25, 26, 27], (.seq (.reg Q77_0) (.seq (.reg Q77_1) (.seq (.seq (.reg Q77_2) (.block 0 (.loop Q77_L9))) (.seq (.reg Q77_9) (.seq (.seq (.reg Q77_10) (.block 2 (.loop Q77_L15))) (.seq (.reg Q77_15) .ret)))))), [.tmp 2]⟩
theorem Q77_ok : compF Tryz.prog [0, 2, 3, 5, 6, 8, 9, 10, 11, 25, 26, 27] [15, 20, 31, 71, 88, 41, 76, 86, 65, 83, 81, 114, 117, 119, 122, 68, 100, 103, 104, 105, 137, 138, 64, 72, 96, 99, 158, 159, 132, 56, 93, 94, 130, 131, 155, 62, 23, 170] 120 = some Q77 := by kernel_rfl

/- (lockless/axiom.relation).put -/
def Q40_0 : AT := .q (.op 0 (some 6) (.mv (.t 0)) <|
 .op 1 (some 7) (.mv (.t 1)) <|
 .op 2 (some 8) (.iaddrS 1 (.t 6) (.t 7)) <|
 .op 3 (some 9) (.loadI .u32 (.t 8)) <|
 .op 4 (some 10) (.mv (.t 2)) <|
 .op 5 (some 11) (.bin .shl (.c (.int .u32 1)) (.t 10)) <|
 .op 6 (some 12) (.bin .or (.t 9) (.t 11)) <|
 .op 7 (some 13) (.iaddrS 1 (.t 6) (.t 7)) <|
 .nil) <|
 .s 8 none (.store 1 (.t 13) (.t 12)) true (
 .q (.nil) <|
 .fin) <|
 .no
def Q40 : RFun := ⟨14, [0, 1, 2], (.any Q40_0), []⟩
theorem Q40_ok : compF Tryz.prog [0, 1, 2] [15, 20, 31, 71, 88, 41, 76, 86, 65, 83, 81, 114, 117, 119, 122, 68, 100, 103, 104, 105, 137, 138, 64, 72, 96, 99, 158, 159, 132, 56, 93, 94, 130, 131, 155, 62, 23, 170] 121 = some Q40 := by kernel_rfl

/- (lockless/axiom.relation).circle -/
def Q37_0 : Sts := .op (some 2) (.mv (.c (.bool false))) <|
 .nil
def Q37_1 : Sts := .op (some 4) (.mv (.t 0)) <|
 .op (some 5) (.len (.t 4)) <|
 .op (some 6) (.mv (.c (.int .i64 0))) <|
 .nil
def Q37_2 : Sts := .op (some 7) (.bin .lss (.t 6) (.t 5)) <|
 .nil
def Q37_3 : Sts := .op (some 8) (.mv (.t 6)) <|
 .op (some 3) (.mv (.t 8)) <|
 .nil
def Q37_4 : Sts := .op (some 9) (.mv (.t 0)) <|
 .op (some 10) (.mv (.t 3)) <|
 .op (some 11) (.mv (.t 3)) <|
 .op (some 12) (.call 68 [(.t 9), (.t 10), (.t 11)]) <|
 .nil
def Q37_5 : Sts := .op (some 2) (.mv (.c (.bool true))) <|
 .nil
def Q37_6 : Sts := .op (some 13) (.bin .add (.t 6) (.c (.int .i64 1))) <|
 .op (some 6) (.mv (.t 13)) <|
 .nil
def Q37_L7 : RCode := (.seq (.reg Q37_2) (.seq (.cond (.t 7) .skip (.exit 0)) (.seq (.block 1 (.seq (.reg Q37_3) (.seq (.reg Q37_4) (.cond (.t 12) (.seq (.reg Q37_5) .ret) .skip)))) (.reg Q37_6))))
def Q37_7 : Sts := .op (some 2) (.mv (.c (.bool false))) <|
 .nil
def Q37 : RFun := ⟨14, [0, 2, 3, 5, 6], (.seq (.reg Q37_0) (.seq (.seq (.reg Q37_1) (.block 0 (.loop Q37_L7))) (.seq (.reg Q37_7) .ret))), [.tmp 2]⟩
theorem Q37_ok : compF Tryz.prog [0, 2, 3, 5, 6] [15, 20, 31, 71, 88, 41, 76, 86, 65, 83, 81, 114, 117, 119, 122, 68, 100, 103, 104, 105, 137, 138, 64, 72, 96, 99, 158, 159, 132, 56, 93, 94, 130, 131, 155, 62, 23, 170] 122 = some Q37 := by kernel_rfl

/- (lockless/axiom.program).communication -/
def Q10_0 : Sts := .op (some 3) (.box 45 (.t 1)) <|
 .op (some 4) (.mv (.c (.slice none 0 0))) <|
 .nil
def Q10_1 : Sts := .op (some 17) (.mv (.t 0)) <|
 .op (some 18) (.call 136 [(.t 17)]) <|
 .op (some 5) (.mv (.t 18)) <|
 .nil
def Q10_2 : Sts := .op (some 19) (.faddr 2 (.t 3)) <|
 .op (some 20) (.loadS (.t 19)) <|
 .op (some 21) (.len (.t 20)) <|
 .op (some 22) (.mv (.c (.int .i64 0))) <|
 .nil
def Q10_3 : Sts := .op (some 23) (.bin .lss (.t 22) (.t 21)) <|
 .nil
def Q10_4 : Sts := .op (some 24) (.iaddrS 1 (.t 20) (.t 22)) <|
 .op (some 25) (.loadS (.t 24)) <|
 .op (some 7) (.mv (.t 25)) <|
 .nil
def Q10_5 : Sts := .op (some 26) (.mv (.t 7)) <|
 .op (some 27) (.len (.t 26)) <|
 .op (some 28) (.mv (.c (.int .i64 0))) <|
 .nil
def Q10_6 : Sts := .op (some 29) (.bin .lss (.t 28) (.t 27)) <|
 .nil
def Q10_7 : Sts := .op (some 30) (.mv (.t 28)) <|
 .op (some 31) (.iaddrS 1 (.t 26) (.t 28)) <|
 .op (some 32) (.loadI .i64 (.t 31)) <|
 .op (some 8) (.mv (.t 30)) <|
 .op (some 9) (.mv (.t 32)) <|
 .nil
def Q10_8 : Sts := .op (some 33) (.mv (.t 7)) <|
 .op (some 34) (.mv (.t 8)) <|
 .op (some 35) (.bin .add (.t 34) (.c (.int .i64 1))) <|
 .op (some 36) (.slS 1 (.t 33) (some (.t 35)) none none) <|
 .op (some 37) (.len (.t 36)) <|
 .op (some 38) (.mv (.c (.int .i64 0))) <|
 .nil
def Q10_9 : Sts := .op (some 39) (.bin .lss (.t 38) (.t 37)) <|
 .nil
def Q10_10 : Sts := .op (some 40) (.iaddrS 1 (.t 36) (.t 38)) <|
 .op (some 41) (.loadI .i64 (.t 40)) <|
 .op (some 11) (.mv (.t 41)) <|
 .nil
def Q10_11 : Sts := .op (some 42) (.mv (.t 5)) <|
 .op (some 43) (.mv (.t 9)) <|
 .op (some 44) (.mv (.t 11)) <|
 .op (some 45) (.call 121 [(.t 42), (.t 43), (.t 44)]) <|
 .nil
def Q10_12 : Sts := .op (some 46) (.bin .add (.t 38) (.c (.int .i64 1))) <|
 .op (some 38) (.mv (.t 46)) <|
 .nil
def Q10_L13 : RCode := (.seq (.reg Q10_9) (.seq (.cond (.t 39) .skip (.exit 4)) (.seq (.block 5 (.seq (.reg Q10_10) (.reg Q10_11))) (.reg Q10_12))))
def Q10_13 : Sts := .op (some 47) (.bin .add (.t 28) (.c (.int .i64 1))) <|
 .op (some 28) (.mv (.t 47)) <|
 .nil
def Q10_L14 : RCode := (.seq (.reg Q10_6) (.seq (.cond (.t 29) .skip (.exit 2)) (.seq (.block 3 (.seq (.reg Q10_7) (.seq (.reg Q10_8) (.block 4 (.loop Q10_L13))))) (.reg Q10_13))))
def Q10_14 : Sts := .op (some 48) (.bin .add (.t 22) (.c (.int .i64 1))) <|
 .op (some 22) (.mv (.t 48)) <|
 .nil
def Q10_L15 : RCode := (.seq (.reg Q10_3) (.seq (.cond (.t 23) .skip (.exit 0)) (.seq (.block 1 (.seq (.reg Q10_4) (.seq (.reg Q10_5) (.block 2 (.loop Q10_L14))))) (.reg Q10_14))))
def Q10_15 : Sts := .op (some 49) (.faddr 0 (.t 3)) <|
 .op (some 50) (.loadS (.t 49)) <|
 .op (some 51) (.len (.t 50)) <|
 .op (some 52) (.mv (.c (.int .i64 0))) <|
 .nil
def Q10_16 : Sts := .op (some 53) (.bin .lss (.t 52) (.t 51)) <|
 .nil
def Q10_17 : Sts := .op (some 54) (.mv (.t 52)) <|
 .op (some 55) (.iaddrS 1 (.t 50) (.t 52)) <|
 .op (some 56) (.loadI .i64 (.t 55)) <|
 .op (some 12) (.mv (.t 54)) <|
 .op (some 13) (.mv (.t 56)) <|
 .nil
def Q10_18 : Sts := .op (some 57) (.mv (.t 0)) <|
 .op (some 58) (.mv (.t 12)) <|
 .op (some 59) (.iaddrS 6 (.t 57) (.t 58)) <|
 .op (some 60) (.loadA 6 (.t 59)) <|
 .op (some 61) (.call 86 [(.t 60)]) <|
 .op (some 62) (.notb (.t 61)) <|
 .nil
def Q10_19 : Sts := .op (some 63) (.mv (.t 13)) <|
 .op (some 64) (.bin .geq (.t 63) (.c (.int .i64 0))) <|
 .nil
def Q10_20 : Sts := .op (some 65) (.mv (.t 5)) <|
 .op (some 66) (.mv (.t 13)) <|
 .op (some 67) (.mv (.t 12)) <|
 .op (some 68) (.call 121 [(.t 65), (.t 66), (.t 67)]) <|
 .nil
def Q10_21 : Sts := .op (some 69) (.mv (.t 13)) <|
 .op (some 70) (.bin .eql (.t 69) (.c (.int .i64 (-1)))) <|
 .op (some 14) (.mv (.t 70)) <|
 .nil
def Q10_22 : AT := .q (.op 0 (some 71) (.faddr 2 (.t 3)) <|
 .op 1 (some 72) (.loadS (.t 71)) <|
 .op 2 (some 73) (.mv (.t 0)) <|
 .op 3 (some 74) (.mv (.t 12)) <|
 .op 4 (some 75) (.iaddrS 6 (.t 73) (.t 74)) <|
 .op 5 (some 76) (.faddr 0 (.t 75)) <|
 .op 6 (some 77) (.faddr 1 (.t 76)) <|
 .op 7 (some 78) (.loadI .i64 (.t 77)) <|
 .op 8 (some 79) (.iaddrS 1 (.t 72) (.t 78)) <|
 .op 9 (some 80) (.loadS (.t 79)) <|
 .op 10 (some 81) (.len (.t 80)) <|
 .op 11 (some 82) (.mv (.c (.int .i64 0))) <|
 .nil) <|
 .fin
def Q10_23 : Sts := .op (some 83) (.bin .lss (.t 82) (.t 81)) <|
 .nil
def Q10_24 : Sts := .op (some 84) (.iaddrS 1 (.t 80) (.t 82)) <|
 .op (some 85) (.loadI .i64 (.t 84)) <|
 .op (some 16) (.mv (.t 85)) <|
 .nil
def Q10_25 : Sts := .op (some 86) (.mv (.t 14)) <|
 .op (some 87) (.mv (.t 86)) <|
 .cnd 87 true (
 .op (some 88) (.mv (.t 16)) <|
 .op (some 89) (.mv (.t 12)) <|
 .op (some 90) (.bin .neq (.t 88) (.t 89)) <|
 .nil) 91 (.t 90) <|
 .nil
def Q10_26 : Sts := .op (some 92) (.mv (.t 5)) <|
 .op (some 93) (.mv (.t 12)) <|
 .op (some 94) (.mv (.t 16)) <|
 .op (some 95) (.call 121 [(.t 92), (.t 93), (.t 94)]) <|
 .nil
def Q10_27 : Sts := .op (some 96) (.mv (.t 14)) <|
 .op (some 97) (.mv (.t 96)) <|
 .cnd 97 false (
 .op (some 98) (.mv (.t 16)) <|
 .op (some 99) (.mv (.t 13)) <|
 .op (some 100) (.bin .eql (.t 98) (.t 99)) <|
 .nil) 101 (.t 100) <|
 .op (some 14) (.mv (.t 101)) <|
 .nil
def Q10_28 : Sts := .op (some 102) (.bin .add (.t 82) (.c (.int .i64 1))) <|
 .op (some 82) (.mv (.t 102)) <|
 .nil
def Q10_L29 : RCode := (.seq (.reg Q10_23) (.seq (.cond (.t 83) .skip (.exit 8)) (.seq (.block 9 (.seq (.reg Q10_24) (.seq (.seq (.reg Q10_25) (.cond (.t 91) (.reg Q10_26) .skip)) (.reg Q10_27)))) (.reg Q10_28))))
def Q10_29 : Sts := .op (some 103) (.bin .add (.t 52) (.c (.int .i64 1))) <|
 .op (some 52) (.mv (.t 103)) <|
 .nil
def Q10_L30 : RCode := (.seq (.reg Q10_16) (.seq (.cond (.t 53) .skip (.exit 6)) (.seq (.block 7 (.seq (.reg Q10_17) (.seq (.seq (.reg Q10_18) (.cond (.t 62) (.exit 7) .skip)) (.seq (.seq (.reg Q10_19) (.cond (.t 64) (.reg Q10_20) .skip)) (.seq (.reg Q10_21) (.seq (.any Q10_22) (.block 8 (.loop Q10_L29)))))))) (.reg Q10_29))))
def Q10_30 : Sts := .op (some 104) (.mv (.t 5)) <|
 .op (some 105) (.call 106 [(.t 104)]) <|
 .op (some 4) (.mv (.t 105)) <|
 .nil
def Q10 : RFun := ⟨106, [0, 1, 3, 4, 5, 7, 8, 9, 11, 12, 13, 14, 16, 20, 21, 22, 26, 27, 28, 36, 37, 38, 50, 51, 52, 80, 81, 82], (.seq (.reg Q10_0) (.seq (.reg Q10_1) (.seq (.seq (.reg Q10_2) (.block 0 (.loop Q10_L15))) (.seq (.seq (.reg Q10_15) (.block 6 (.loop Q10_L30))) (.seq (.reg Q10_30) .ret))))), [.tmp 4]⟩
theorem Q10_ok : compF Tryz.prog [0, 1, 3, 4, 5, 7, 8, 9, 11, 12, 13, 14, 16, 20, 21, 22, 26, 27, 28, 36, 37, 38, 50, 51, 52, 80, 81, 82] [15, 20, 31, 71, 88, 41, 76, 86, 65, 83, 81, 114, 117, 119, 122, 68, 100, 103, 104, 105, 137, 138, 64, 72, 96, 99, 158, 159, 132, 56, 93, 94, 130, 131, 155, 62, 23, 170] 123 = some Q10 := by kernel_rfl

/- slices.Clone[[]bool,bool] -/
def Q73_0 : Sts := .op (some 2) (.mv (.c (.slice none 0 0))) <|
 .nil
def Q73_1 : Sts := .op (some 3) (.mv (.t 0)) <|
 .op (some 4) (.eqS false (.t 3)) <|
 .nil
def Q73_2 : Sts := .op (some 2) (.mv (.c (.slice none 0 0))) <|
 .nil
def Q73_3 : Sts := .op (some 5) (.buildSl 4 0 [] []) <|
 .op (some 6) (.mv (.t 0)) <|
 .op (some 7) (.append 4 1 1 [(.bool false)] (.t 5) (.t 6)) <|
 .op (some 2) (.mv (.t 7)) <|
 .nil
def Q73 : RFun := ⟨8, [0, 2], (.seq (.reg Q73_0) (.seq (.seq (.reg Q73_1) (.cond (.t 4) (.seq (.reg Q73_2) .ret) .skip)) (.seq (.reg Q73_3) .ret))), [.tmp 2]⟩
theorem Q73_ok : compF Tryz.prog [0, 2] [15, 20, 31, 71, 88, 41, 76, 86, 65, 83, 81, 114, 117, 119, 122, 68, 100, 103, 104, 105, 137, 138, 64, 72, 96, 99, 158, 159, 132, 56, 93, 94, 130, 131, 155, 62, 23, 170] 124 = some Q73 := by kernel_rfl

/- cmp.Compare[int] -/
def Q41_0 : Sts := .op (some 4) (.mv (.c (.int .i64 0))) <|
 .nil
def Q41_1 : Sts := .op (some 7) (.mv (.t 0)) <|
 .op (some 8) (.call 152 [(.t 7)]) <|
 .op (some 5) (.mv (.t 8)) <|
 .nil
def Q41_2 : Sts := .op (some 9) (.mv (.t 1)) <|
 .op (some 10) (.call 152 [(.t 9)]) <|
 .op (some 6) (.mv (.t 10)) <|
 .nil
def Q41_3 : Sts := .op (some 11) (.mv (.t 5)) <|
 .nil
def Q41_4 : Sts := .op (some 12) (.mv (.t 6)) <|
 .nil
def Q41_5 : Sts := .op (some 4) (.mv (.c (.int .i64 0))) <|
 .nil
def Q41_6 : Sts := .op (some 4) (.mv (.c (.int .i64 (-1)))) <|
 .nil
def Q41_7 : Sts := .op (some 13) (.mv (.t 6)) <|
 .nil
def Q41_8 : Sts := .op (some 4) (.mv (.c (.int .i64 1))) <|
 .nil
def Q41_9 : Sts := .op (some 14) (.mv (.t 0)) <|
 .op (some 15) (.mv (.t 1)) <|
 .op (some 16) (.bin .lss (.t 14) (.t 15)) <|
 .nil
def Q41_10 : Sts := .op (some 4) (.mv (.c (.int .i64 (-1)))) <|
 .nil
def Q41_11 : Sts := .op (some 17) (.mv (.t 0)) <|
 .op (some 18) (.mv (.t 1)) <|
 .op (some 19) (.bin .gtr (.t 17) (.t 18)) <|
 .nil
def Q41_12 : Sts := .op (some 4) (.mv (.c (.int .i64 1))) <|
 .nil
def Q41_13 : Sts := .op (some 4) (.mv (.c (.int .i64 0))) <|
 .nil
def Q41 : RFun := ⟨20, [0, 1, 4, 5, 6], (.seq (.reg Q41_0) (.seq (.reg Q41_1) (.seq (.reg Q41_2) (.seq (.seq (.reg Q41_3) (.cond (.t 11) (.seq (.seq (.reg Q41_4) (.cond (.t 12) (.seq (.reg Q41_5) .ret) .skip)) (.seq (.reg Q41_6) .ret)) .skip)) (.seq (.seq (.reg Q41_7) (.cond (.t 13) (.seq (.reg Q41_8) .ret) .skip)) (.seq (.seq (.reg Q41_9) (.cond (.t 16) (.seq (.reg Q41_10) .ret) .skip)) (.seq (.seq (.reg Q41_11) (.cond (.t 19) (.seq (.reg Q41_12) .ret) .skip)) (.seq (.reg Q41_13) .ret)))))))), [.tmp 4]⟩
theorem Q41_ok : compF Tryz.prog [0, 1, 4, 5, 6] [15, 20, 31, 71, 88, 41, 76, 86, 65, 83, 81, 114, 117, 119, 122, 68, 100, 103, 104, 105, 137, 138, 64, 72, 96, 99, 158, 159, 132, 56, 93, 94, 130, 131, 155, 62, 23, 170] 127 = some Q41 := by kernel_rfl

/- lockless/order.bits -/
def Q68_0 : Sts := .op (some 2) (.mv (.c (.int .i64 0))) <|
 .nil
def Q68_1 : Sts := .op (some 3) (.mv (.t 0)) <|
 .op (some 4) (.bin .eql (.t 3) (.c (.int .i64 4))) <|
 .nil
def Q68_2 : Sts := .op (some 2) (.mv (.c (.int .i64 7))) <|
 .nil
def Q68_3 : Sts := .op (some 5) (.mv (.t 0)) <|
 .op (some 2) (.mv (.t 5)) <|
 .nil
def Q68 : RFun := ⟨6, [0, 2], (.seq (.reg Q68_0) (.seq (.seq (.reg Q68_1) (.cond (.t 4) (.seq (.reg Q68_2) .ret) .skip)) (.seq (.reg Q68_3) .ret))), [.tmp 2]⟩
theorem Q68_ok : compF Tryz.prog [0, 2] [15, 20, 31, 71, 88, 41, 76, 86, 65, 83, 81, 114, 117, 119, 122, 68, 100, 103, 104, 105, 137, 138, 64, 72, 96, 99, 158, 159, 132, 56, 93, 94, 130, 131, 155, 62, 23, 170] 132 = some Q68 := by kernel_rfl

/- (lockless/axiom.program).relation -/
def Q31_0 : Sts := .op (some 2) (.mv (.c (.slice none 0 0))) <|
 .nil
def Q31_1 : Sts := .op (some 3) (.mv (.t 0)) <|
 .op (some 4) (.len (.t 3)) <|
 .op (some 5) (.makeSl 144 1 4 [(.int .u32 0)] (.t 4) (.t 4)) <|
 .op (some 2) (.mv (.t 5)) <|
 .nil
def Q31 : RFun := ⟨6, [0, 2], (.seq (.reg Q31_0) (.seq (.reg Q31_1) .ret)), [.tmp 2]⟩
theorem Q31_ok : compF Tryz.prog [0, 2] [15, 20, 31, 71, 88, 41, 76, 86, 65, 83, 81, 114, 117, 119, 122, 68, 100, 103, 104, 105, 137, 138, 64, 72, 96, 99, 158, 159, 132, 56, 93, 94, 130, 131, 155, 62, 23, 170] 136 = some Q31 := by kernel_rfl

/- (lockless/axiom.event).releases -/
def Q5_0 : Sts := .op (some 1) (.box 121 (.t 0)) <|
 .op (some 2) (.mv (.c (.bool false))) <|
 .nil
def Q5_1 : Sts := .op (some 6) (.faddr 0 (.t 1)) <|
 .op (some 7) (.faddr 4 (.t 6)) <|
 .op (some 8) (.loadI .i64 (.t 7)) <|
 .op (some 9) (.call 158 [(.t 8)]) <|
 .op (some 5) (.mv (.t 9)) <|
 .op (some 10) (.extract 0 (.t 5)) <|
 .op (some 11) (.extract 1 (.t 5)) <|
 .op (some 3) (.mv (.t 10)) <|
 .op (some 4) (.mv (.t 11)) <|
 .nil
def Q5_2 : Sts := .op (some 12) (.mv (.t 3)) <|
 .op (some 2) (.mv (.t 12)) <|
 .nil
def Q5 : RFun := ⟨13, [0, 1, 2, 3], (.seq (.reg Q5_0) (.seq (.reg Q5_1) (.seq (.reg Q5_2) .ret))), [.tmp 2]⟩
theorem Q5_ok : compF Tryz.prog [0, 1, 2, 3] [15, 20, 31, 71, 88, 41, 76, 86, 65, 83, 81, 114, 117, 119, 122, 68, 100, 103, 104, 105, 137, 138, 64, 72, 96, 99, 158, 159, 132, 56, 93, 94, 130, 131, 155, 62, 23, 170] 137 = some Q5 := by kernel_rfl

/- (lockless/axiom.event).acquires -/
def Q3_0 : Sts := .op (some 1) (.box 121 (.t 0)) <|
 .op (some 2) (.mv (.c (.bool false))) <|
 .nil
def Q3_1 : Sts := .op (some 6) (.faddr 0 (.t 1)) <|
 .op (some 7) (.faddr 4 (.t 6)) <|
 .op (some 8) (.loadI .i64 (.t 7)) <|
 .op (some 9) (.call 159 [(.t 8)]) <|
 .op (some 5) (.mv (.t 9)) <|
 .op (some 10) (.extract 0 (.t 5)) <|
 .op (some 11) (.extract 1 (.t 5)) <|
 .op (some 3) (.mv (.t 10)) <|
 .op (some 4) (.mv (.t 11)) <|
 .nil
def Q3_2 : Sts := .op (some 12) (.mv (.t 3)) <|
 .op (some 2) (.mv (.t 12)) <|
 .nil
def Q3 : RFun := ⟨13, [0, 1, 2, 3], (.seq (.reg Q3_0) (.seq (.reg Q3_1) (.seq (.reg Q3_2) .ret))), [.tmp 2]⟩
theorem Q3_ok : compF Tryz.prog [0, 1, 2, 3] [15, 20, 31, 71, 88, 41, 76, 86, 65, 83, 81, 114, 117, 119, 122, 68, 100, 103, 104, 105, 137, 138, 64, 72, 96, 99, 158, 159, 132, 56, 93, 94, 130, 131, 155, 62, 23, 170] 138 = some Q3 := by kernel_rfl

/- (lockless/axiom.program).writers$1 -/
def Q36_0 : Sts := .op (some 5) (.mv (.c (.bool false))) <|
 .nil
def Q36_1 : AT := .q (.op 0 (some 6) (.loadS (.t 1)) <|
 .op 1 (some 7) (.mv (.t 0)) <|
 .op 2 (some 8) (.iaddrS 6 (.t 6) (.t 7)) <|
 .op 3 (some 9) (.faddr 0 (.t 8)) <|
 .op 4 (some 10) (.faddr 0 (.t 9)) <|
 .op 5 (some 11) (.loadI .i64 (.t 10)) <|
 .op 6 (some 12) (.bin .neq (.t 11) (.c (.int .i64 5))) <|
 .op 7 (some 13) (.mv (.t 12)) <|
 .g 13 true (
 .op 8 (some 14) (.loadS (.t 2)) <|
 .op 9 (some 15) (.mv (.t 0)) <|
 .op 10 (some 16) (.iaddrS 1 (.t 14) (.t 15)) <|
 .op 11 (some 17) (.loadB (.t 16)) <|
 .nil) 12 18 (.t 17) <|
 .op 13 (some 19) (.mv (.t 18)) <|
 .g 19 true (
 .op 14 (some 20) (.loadS (.t 1)) <|
 .op 15 (some 21) (.mv (.t 0)) <|
 .op 16 (some 22) (.iaddrS 6 (.t 20) (.t 21)) <|
 .op 17 (some 23) (.faddr 0 (.t 22)) <|
 .op 18 (some 24) (.faddr 1 (.t 23)) <|
 .op 19 (some 25) (.loadI .i64 (.t 24)) <|
 .op 20 (some 26) (.loadI .i64 (.t 3)) <|
 .op 21 (some 27) (.bin .eql (.t 25) (.t 26)) <|
 .nil) 22 28 (.t 27) <|
 .op 23 (some 5) (.mv (.t 28)) <|
 .nil) <|
 .fin
def Q36 : RFun := ⟨29, [0, 1, 2, 3, 5], (.seq (.reg Q36_0) (.seq (.any Q36_1) .ret)), [.tmp 5]⟩
theorem Q36_ok : compF Tryz.prog [0, 1, 2, 3, 5] [15, 20, 31, 71, 88, 41, 76, 86, 65, 83, 81, 114, 117, 119, 122, 68, 100, 103, 104, 105, 137, 138, 64, 72, 96, 99, 158, 159, 132, 56, 93, 94, 130, 131, 155, 62, 23, 170] 139 = some Q36 := by kernel_rfl

/- slices.IndexFunc[[]int,int] -/
def Q83_0 : Sts := .op (some 4) (.mv (.c (.int .i64 0))) <|
 .nil
def Q83_1 : Sts := .op (some 6) (.mv (.t 0)) <|
 .op (some 7) (.len (.t 6)) <|
 .op (some 8) (.mv (.c (.int .i64 0))) <|
 .nil
def Q83_2 : Sts := .op (some 9) (.bin .lss (.t 8) (.t 7)) <|
 .nil
def Q83_3 : Sts := .op (some 10) (.mv (.t 8)) <|
 .op (some 5) (.mv (.t 10)) <|
 .nil
def Q83_4 : Sts := .op (some 11) (.mv (.t 1)) <|
 .op (some 12) (.mv (.t 0)) <|
 .op (some 13) (.mv (.t 5)) <|
 .op (some 14) (.iaddrS 1 (.t 12) (.t 13)) <|
 .op (some 15) (.loadI .i64 (.t 14)) <|
 .op (some 16) (.callv (.t 11) [(.t 15)]) <|
 .nil
def Q83_5 : Sts := .op (some 17) (.mv (.t 5)) <|
 .op (some 4) (.mv (.t 17)) <|
 .nil
def Q83_6 : Sts := .op (some 18) (.bin .add (.t 8) (.c (.int .i64 1))) <|
 .op (some 8) (.mv (.t 18)) <|
 .nil
def Q83_L7 : RCode := (.seq (.reg Q83_2) (.seq (.cond (.t 9) .skip (.exit 0)) (.seq (.block 1 (.seq (.reg Q83_3) (.seq (.reg Q83_4) (.cond (.t 16) (.seq (.reg Q83_5) .ret) .skip)))) (.reg Q83_6))))
def Q83_7 : Sts := .op (some 4) (.mv (.c (.int .i64 (-1)))) <|
 .nil
def Q83 : RFun := ⟨19, [0, 1, 4, 5, 7, 8], (.seq (.reg Q83_0) (.seq (.seq (.reg Q83_1) (.block 0 (.loop Q83_L7))) (.seq (.reg Q83_7) .ret))), [.tmp 4]⟩
theorem Q83_ok : compF Tryz.prog [0, 1, 4, 5, 7, 8] [15, 20, 31, 71, 88, 41, 76, 86, 65, 83, 81, 114, 117, 119, 122, 68, 100, 103, 104, 105, 137, 138, 64, 72, 96, 99, 158, 159, 132, 56, 93, 94, 130, 131, 155, 62, 23, 170] 140 = some Q83 := by kernel_rfl

/- slices.Grow[[]int,int] -/
def Q82_0 : Sts := .op (some 4) (.mv (.c (.slice none 0 0))) <|
 .nil
def Q82_1 : Sts := .op (some 5) (.mv (.t 1)) <|
 .op (some 6) (.bin .lss (.t 5) (.c (.int .i64 0))) <|
 .nil
def Q82_2 : Sts := .op (some 7) (.bad) <|
 .op none (.bad) <|
 .nil
def Q82_3 : Sts := .op (some 8) (.mv (.t 1)) <|
 .op (some 9) (.mv (.t 0)) <|
 .op (some 10) (.cap (.t 9)) <|
 .op (some 11) (.mv (.t 0)) <|
 .op (some 12) (.len (.t 11)) <|
 .op (some 13) (.bin .sub (.t 10) (.t 12)) <|
 .op (some 14) (.bin .sub (.t 8) (.t 13)) <|
 .op (some 1) (.mv (.t 14)) <|
 .nil
def Q82_4 : Sts := .op (some 15) (.mv (.t 1)) <|
 .op (some 16) (.bin .gtr (.t 15) (.c (.int .i64 0))) <|
 .nil
def Q82_5 : Sts := .op (some 17) (.mv (.t 0)) <|
 .op (some 18) (.mv (.t 0)) <|
 .op (some 19) (.cap (.t 18)) <|
 .op (some 20) (.slS 1 (.t 17) none (some (.t 19)) none) <|
 .op (some 21) (.mv (.t 1)) <|
 .op (some 22) (.appendZ 3 1 8 [(.int .i64 0)] (.t 20) (.t 21)) <|
 .op (some 23) (.mv (.t 0)) <|
 .op (some 24) (.len (.t 23)) <|
 .op (some 25) (.slS 1 (.t 22) none (some (.t 24)) none) <|
 .op (some 0) (.mv (.t 25)) <|
 .nil
def Q82_6 : Sts := .op (some 26) (.mv (.t 0)) <|
 .op (some 4) (.mv (.t 26)) <|
 .nil
def Q82 : RFun := ⟨27, [0, 1, 4], (.seq (.reg Q82_0) (.seq (.seq (.reg Q82_1) (.cond (.t 6) (.reg Q82_2) .skip)) (.seq (.seq (.reg Q82_3) (.seq (.reg Q82_4) (.cond (.t 16) (.reg Q82_5) .skip))) (.seq (.reg Q82_6) .ret)))), [.tmp 4]⟩
theorem Q82_ok : compF Tryz.prog [0, 1, 4] [15, 20, 31, 71, 88, 41, 76, 86, 65, 83, 81, 114, 117, 119, 122, 68, 100, 103, 104, 105, 137, 138, 64, 72, 96, 99, 158, 159, 132, 56, 93, 94, 130, 131, 155, 62, 23, 170] 141 = some Q82 := by kernel_rfl

/- cmp.isNaN[int] -/
def Q42_0 : Sts := .op (some 2) (.mv (.c (.bool false))) <|
 .nil
def Q42_1 : Sts := .op (some 3) (.mv (.t 0)) <|
 .op (some 4) (.mv (.t 0)) <|
 .op (some 5) (.bin .neq (.t 3) (.t 4)) <|
 .op (some 2) (.mv (.t 5)) <|
 .nil
def Q42 : RFun := ⟨6, [0, 2], (.seq (.reg Q42_0) (.seq (.reg Q42_1) .ret)), [.tmp 2]⟩
theorem Q42_ok : compF Tryz.prog [0, 2] [15, 20, 31, 71, 88, 41, 76, 86, 65, 83, 81, 114, 117, 119, 122, 68, 100, 103, 104, 105, 137, 138, 64, 72, 96, 99, 158, 159, 132, 56, 93, 94, 130, 131, 155, 62, 23, 170] 152 = some Q42 := by kernel_rfl

/- lockless/order.Releases -/
def Q67_0 : Sts := .op (some 2) (.mv (.c (.bool false))) <|
 .op (some 3) (.mv (.c (.int .i64 0))) <|
 .nil
def Q67_1 : Sts := .op (some 4) (.mv (.t 0)) <|
 .op (some 5) (.call 96 [(.t 4)]) <|
 .op (some 6) (.notb (.t 5)) <|
 .nil
def Q67_2 : Sts := .op (some 2) (.mv (.c (.bool false))) <|
 .op (some 3) (.mv (.c (.int .i64 1))) <|
 .nil
def Q67_3 : Sts := .op (some 7) (.mv (.t 0)) <|
 .op (some 8) (.call 132 [(.t 7)]) <|
 .op (some 9) (.bin .and (.t 8) (.c (.int .i64 2))) <|
 .op (some 10) (.bin .neq (.t 9) (.c (.int .i64 0))) <|
 .op (some 2) (.mv (.t 10)) <|
 .op (some 3) (.mv (.c (.int .i64 0))) <|
 .nil
def Q67 : RFun := ⟨11, [0, 2, 3], (.seq (.reg Q67_0) (.seq (.seq (.reg Q67_1) (.cond (.t 6) (.seq (.reg Q67_2) .ret) .skip)) (.seq (.reg Q67_3) .ret))), [.tmp 2, .tmp 3]⟩
theorem Q67_ok : compF Tryz.prog [0, 2, 3] [15, 20, 31, 71, 88, 41, 76, 86, 65, 83, 81, 114, 117, 119, 122, 68, 100, 103, 104, 105, 137, 138, 64, 72, 96, 99, 158, 159, 132, 56, 93, 94, 130, 131, 155, 62, 23, 170] 158 = some Q67 := by kernel_rfl

/- lockless/order.Acquires -/
def Q63_0 : Sts := .op (some 2) (.mv (.c (.bool false))) <|
 .op (some 3) (.mv (.c (.int .i64 0))) <|
 .nil
def Q63_1 : Sts := .op (some 4) (.mv (.t 0)) <|
 .op (some 5) (.call 96 [(.t 4)]) <|
 .op (some 6) (.notb (.t 5)) <|
 .nil
def Q63_2 : Sts := .op (some 2) (.mv (.c (.bool false))) <|
 .op (some 3) (.mv (.c (.int .i64 1))) <|
 .nil
def Q63_3 : Sts := .op (some 7) (.mv (.t 0)) <|
 .op (some 8) (.call 132 [(.t 7)]) <|
 .op (some 9) (.bin .and (.t 8) (.c (.int .i64 1))) <|
 .op (some 10) (.bin .neq (.t 9) (.c (.int .i64 0))) <|
 .op (some 2) (.mv (.t 10)) <|
 .op (some 3) (.mv (.c (.int .i64 0))) <|
 .nil
def Q63 : RFun := ⟨11, [0, 2, 3], (.seq (.reg Q63_0) (.seq (.seq (.reg Q63_1) (.cond (.t 6) (.seq (.reg Q63_2) .ret) .skip)) (.seq (.reg Q63_3) .ret))), [.tmp 2, .tmp 3]⟩
theorem Q63_ok : compF Tryz.prog [0, 2, 3] [15, 20, 31, 71, 88, 41, 76, 86, 65, 83, 81, 114, 117, 119, 122, 68, 100, 103, 104, 105, 137, 138, 64, 72, 96, 99, 158, 159, 132, 56, 93, 94, 130, 131, 155, 62, 23, 170] 159 = some Q63 := by kernel_rfl

end Go.EV
