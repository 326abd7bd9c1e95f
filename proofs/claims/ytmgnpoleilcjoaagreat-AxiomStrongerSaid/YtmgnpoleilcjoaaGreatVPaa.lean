/- The calculus EV, part 1: heaps as relations, owned blocks, states, resolved code. The calculus EV, part 2: contexts, what an operation does, the resolved operations and their soundness. The calculus EV, part 3: the resolved operations, what each asks, and that this is enough. The calculus EV, part 4: an operation of the program, resolved; its soundness. The calculus EV, part 5: soundness of each resolved operation. The calculus EV, part 6: literals, append, make, slice expressions; soundness of all operations. The calculus EV, part 7: every resolved operation is sound. The calculus EV, part 8: the operations of a region in the order of the text, guards by '&&' and '||' taken together. The calculus EV, part 9: calls by contract. The calculus EV, part 10: a region that draws its order: one order serves all. The calculus EV, part 11: a region that draws its order, in symbols. The calculus EV, part 12: the tree of a region's orders, what it asks, and that this is enough. The calculus EV, part 13: code, todo lists, loops; functions and their contracts. -/
import Derived.AtR
import Derived.KernelRfl
import Derived.Laws.AppendOwn
import Derived.Lone
import Derived.RangeFuncRecord
import Derived.ChangeKeysEq
import Derived.Laws.Tables
import Derived.Laws.MakeOwn
import Derived.Lib.AppendZerosOnto
import Derived.Orders
set_option maxRecDepth 8000
set_option linter.unusedSimpArgs false
set_option linter.unusedVariables false
set_option linter.unusedSectionVars false
namespace Go.EV

/-- A read-only view of memory: which block holds what. -/
abbrev PHeap := Nat → Obj → Prop
/-- The blocks that are owned, with what they hold. -/
abbrev Own := List (Nat × Obj)

def PHeap.le (M M' : PHeap) : Prop := ∀ b o, M b o → M' b o
theorem PHeap.le_refl (M : PHeap) : M.le M := fun _ _ h => h
theorem PHeap.le_trans {A B C : PHeap} (h : A.le B) (k : B.le C) : A.le C := fun b o x => k b o (h b o x)
/-- A view and owned blocks, read together. -/
def PHeap.add (M : PHeap) (G : Own) : PHeap := fun b o => M b o ∨ (b, o) ∈ G
theorem PHeap.le_add (M : PHeap) (G : Own) : M.le (M.add G) := fun _ _ h => .inl h
/-- A row of cells that may be written. -/
abbrev Cl (T : TypeId) (cs : List Value) : Obj := .cells cs.toArray T (0, 0)

/-- The cells at a place. -/
def rd (H : PHeap) (b off n : Nat) (cs : List Value) : Prop :=
 ∃ c T fz, H b (.cells c T fz) ∧ off + n ≤ c.size ∧ cs = (c.toList.drop off).take n

theorem rd.mono {H H' : PHeap} (h : H.le H') {b off n : Nat} {cs : List Value} (k : rd H b off n cs) : rd H' b off n cs := by
 obtain ⟨c, T, fz, h1, h2, h3⟩ := k
 exact ⟨c, T, fz, h _ _ h1, h2, h3⟩

theorem rd.length {H : PHeap} {b off n : Nat} {cs : List Value} (k : rd H b off n cs) : cs.length = n := by
 obtain ⟨c, T, fz, h1, h2, h3⟩ := k
 subst h3
 simp
 omega

/-- The tape is the same, and no answer is taken back. -/
structure Tp (w w0 : World) : Prop where
 same : w.tape = w0.tape
 on : w0.drawn ≤ w.drawn
theorem Tp.refl (w : World) : Tp w w := ⟨rfl, Nat.le_refl _⟩
theorem Tp.trans {a b c : World} (h : Tp a b) (k : Tp b c) : Tp a c := ⟨h.same.trans k.same, Nat.le_trans k.on h.on⟩

/-- What is known of the world. -/
structure St (w0 : World) (F : List Nat) (M0 M : PHeap) (G : Own) (w : World) : Prop where
 os : w.os = w0.os
 tape : Tp w w0
 output : w.output = w0.output
 size : w0.heap.size ≤ w.heap.size
 frame : ∀ b, b < w0.heap.size → b ∉ F → w.heap[b]? = w0.heap[b]?
 agree : ∀ b o, M b o → w.heap[b]? = some o
 own : ∀ p, p ∈ G → w.heap[p.1]? = some p.2
 sep : ∀ p, p ∈ G → ∀ o, ¬ M p.1 o
 new : ∀ p, p ∈ G → p.1 ∈ F ∨ w0.heap.size ≤ p.1
 nodup : (G.map (·.1)).Nodup
 base : M0.le M
 fresh : ∀ b o, M b o → M0 b o ∨ b ∈ F ∨ w0.heap.size ≤ b

theorem St.lt {w0 w : World} {F : List Nat} {M0 M : PHeap} {G : Own} (h : St w0 F M0 M G w) {p : Nat × Obj} (hp : p ∈ G) : p.1 < w.heap.size :=
 (Array.getElem?_eq_some_iff.1 (h.own p hp)).1

theorem St.ltM {w0 w : World} {F : List Nat} {M0 M : PHeap} {G : Own} (h : St w0 F M0 M G w) {b : Nat} {o : Obj} (hp : M b o) : b < w.heap.size :=
 (Array.getElem?_eq_some_iff.1 (h.agree b o hp)).1

/-- Both, read together, are what the world holds. -/
theorem St.agreeAdd {w0 w : World} {F : List Nat} {M0 M : PHeap} {G : Own} (h : St w0 F M0 M G w) {b : Nat} {o : Obj} (hp : M.add G b o) : w.heap[b]? = some o := by
 rcases hp with hp | hp
 ·exact h.agree b o hp
 ·exact h.own _ hp

/-- Entering: the blocks that are handed in are owned, the rest is read. -/
theorem St.enter {w : World} {M : PHeap} {G : Own} (ag : ∀ b o, M b o → w.heap[b]? = some o) (own : ∀ p, p ∈ G → w.heap[p.1]? = some p.2)
  (sep : ∀ p, p ∈ G → ∀ o, ¬ M p.1 o) (nd : (G.map (·.1)).Nodup) : St w (G.map (·.1)) M M G w :=
 ⟨rfl, Tp.refl _, rfl, Nat.le_refl _, fun _ _ _ => rfl, ag, own, sep, fun p hp => .inl (List.mem_map.2 ⟨p, hp, rfl⟩), nd, PHeap.le_refl _, fun _ _ h => .inl h⟩

/-- Fewer owned blocks, less to read. -/
theorem St.weaken {w0 w : World} {F : List Nat} {M0 M : PHeap} {G G' : Own} (h : St w0 F M0 M G w) (hs : G'.Sublist G) : St w0 F M0 M G' w :=
 ⟨h.os, h.tape, h.output, h.size, h.frame, h.agree, fun p hp => h.own p (hs.subset hp), fun p hp => h.sep p (hs.subset hp), fun p hp => h.new p (hs.subset hp), h.nodup.sublist (hs.map _), h.base, h.fresh⟩

theorem St.perm {w0 w : World} {F : List Nat} {M0 M : PHeap} {G G' : Own} (h : St w0 F M0 M G w) (hs : G.Perm G') : St w0 F M0 M G' w :=
 ⟨h.os, h.tape, h.output, h.size, h.frame, h.agree, fun p hp => h.own p (hs.symm.subset hp), fun p hp => h.sep p (hs.symm.subset hp), fun p hp => h.new p (hs.symm.subset hp), ((hs.map _).nodup_iff).1 h.nodup, h.base, h.fresh⟩

/-- A new block. -/
theorem St.alloc {w0 w : World} {F : List Nat} {M0 M : PHeap} {G : Own} (h : St w0 F M0 M G w) (o : Obj) : St w0 F M0 M ((w.heap.size, o) :: G) (w.alloc o) := by
 have hold : ∀ k, k < w.heap.size → (w.alloc o).heap[k]? = w.heap[k]? := fun k hk => heap_alloc_old w o k hk
 refine ⟨h.os, ⟨h.tape.same, h.tape.on⟩, h.output, ?_, ?_, ?_, ?_, ?_, ?_, ?_, h.base, h.fresh⟩
 ·have := h.size; simp; omega
 ·intro b hb hf
  rw [hold b (Nat.lt_of_lt_of_le hb h.size)]
  exact h.frame b hb hf
 ·intro b o' hb
  rw [hold b (h.ltM hb)]
  exact h.agree b o' hb
 ·intro p hp
  rcases List.mem_cons.1 hp with rfl | hp
  ·exact heap_alloc_new w o
  ·rw [hold p.1 (h.lt hp)]
   exact h.own p hp
 ·intro p hp o' hm
  rcases List.mem_cons.1 hp with rfl | hp
  ·exact Nat.lt_irrefl _ (h.ltM hm)
  ·exact h.sep p hp o' hm
 ·intro p hp
  rcases List.mem_cons.1 hp with rfl | hp
  ·exact .inr h.size
  ·exact h.new p hp
 ·refine List.nodup_cons.2 ⟨?_, h.nodup⟩
  intro hm
  obtain ⟨p, hp, e⟩ := List.mem_map.1 hm
  have := h.lt hp
  simp at e
  omega

theorem St.drew {w0 w : World} {F : List Nat} {M0 M : PHeap} {G : Own} (h : St w0 F M0 M G w) (n : Nat) (hn : w.drawn ≤ n) : St w0 F M0 M G { w with drawn := n } :=
 ⟨h.os, ⟨h.tape.same, Nat.le_trans h.tape.on hn⟩, h.output, h.size, h.frame, h.agree, h.own, h.sep, h.new, h.nodup, h.base, h.fresh⟩

theorem set_mem {G : Own} {i : Nat} {b : Nat} {o o' : Obj} (hi : G[i]? = some (b, o)) (hn : (G.map (·.1)).Nodup) {p : Nat × Obj} (hp : p ∈ G.set i (b, o')) :
  p = (b, o') ∨ (p ∈ G ∧ p.1 ≠ b) := by
 obtain ⟨hlt, he⟩ := List.getElem?_eq_some_iff.1 hi
 obtain ⟨j, hj, hpj⟩ := List.getElem_of_mem hp
 by_cases h : j = i
 ·subst h
  simp at hpj
  exact .inl hpj.symm
 ·rw [List.getElem_set_ne (by omega)] at hpj
  have hj' : j < G.length := by simpa using hj
  refine .inr ⟨hpj ▸ List.getElem_mem _, ?_⟩
  intro e
  have h1 : (G.map (·.1))[j]'(by simpa using hj') = b := by simp [hpj, e]
  have h2 : (G.map (·.1))[i]'(by simpa using hlt) = b := by simp [he]
  have hp := List.pairwise_iff_getElem.1 hn
  rcases Nat.lt_or_gt_of_ne h with h' | h'
  ·exact hp j i (by simpa using hj') (by simpa using hlt) h' (h1.trans h2.symm)
  ·exact hp i j (by simpa using hlt) (by simpa using hj') h' (h2.trans h1.symm)

theorem map_fst_set (G : Own) (i b : Nat) (o o' : Obj) (hi : G[i]? = some (b, o)) : (G.set i (b, o')).map (·.1) = G.map (·.1) := by
 obtain ⟨hlt, he⟩ := List.getElem?_eq_some_iff.1 hi
 apply List.ext_getElem (by simp)
 intro j h1 h2
 simp only [List.getElem_map, List.getElem_set]
 split
 ·rename_i h
  subst h
  simp [he]
 ·rfl

/-- One owned block turned. -/
theorem St.put {w0 w w' : World} {F : List Nat} {M0 M : PHeap} {G : Own} (h : St w0 F M0 M G w) {i b : Nat} {o o' : Obj} (hi : G[i]? = some (b, o))
  (h1 : w'.os = w.os) (h2 : Tp w' w) (h3 : w'.output = w.output) (h4 : w'.heap.size = w.heap.size) (h5 : ∀ k, k ≠ b → w'.heap[k]? = w.heap[k]?) (h6 : w'.heap[b]? = some o') :
  St w0 F M0 M (G.set i (b, o')) w' := by
 have hmem : (b, o) ∈ G := List.mem_of_getElem? hi
 refine ⟨h1.trans h.os, h2.trans h.tape, h3.trans h.output, by rw [h4]; exact h.size, ?_, ?_, ?_, ?_, ?_, ?_, h.base, h.fresh⟩
 ·intro k hk hf
  rw [h5 k ?_]
  ·exact h.frame k hk hf
  ·rintro rfl
   rcases h.new _ hmem with h' | h'
   ·exact hf h'
   ·simp at h'; omega
 ·intro k o'' hk
  rw [h5 k ?_]
  ·exact h.agree k o'' hk
  ·rintro rfl
   exact h.sep _ hmem o'' hk
 ·intro p hp
  rcases set_mem hi h.nodup hp with rfl | ⟨hp, hne⟩
  ·exact h6
  ·rw [h5 _ hne]
   exact h.own p hp
 ·intro p hp
  rcases set_mem hi h.nodup hp with rfl | ⟨hp, _⟩
  ·exact h.sep (b, o) hmem
  ·exact h.sep p hp
 ·intro p hp
  rcases set_mem hi h.nodup hp with rfl | ⟨hp, _⟩
  ·exact h.new (b, o) hmem
  ·exact h.new p hp
 ·rw [map_fst_set G i b o o' hi]
  exact h.nodup

/-- Owned blocks are let go into what is read. -/
theorem St.freeze {w0 w : World} {F : List Nat} {M0 M : PHeap} {G G' : Own} (h : St w0 F M0 M (G ++ G') w) : St w0 F M0 (M.add G) G' w := by
 have hnd := h.nodup
 rw [List.map_append] at hnd
 obtain ⟨n1, n2, n3⟩ := List.nodup_append.1 hnd
 refine ⟨h.os, h.tape, h.output, h.size, h.frame, ?_, fun p hp => h.own p (by simp [hp]), ?_, fun p hp => h.new p (by simp [hp]), n2, PHeap.le_trans h.base (PHeap.le_add _ _), ?_⟩
 ·rintro b o (hb | hb)
  ·exact h.agree b o hb
  ·exact h.own (b, o) (by simp [hb])
 ·rintro p hp o (hb | hb)
  ·exact h.sep p (by simp [hp]) o hb
  ·exact n3 p.1 (List.mem_map.2 ⟨_, hb, rfl⟩) p.1 (List.mem_map.2 ⟨_, hp, rfl⟩) rfl
 ·rintro b o (hb | hb)
  ·exact h.fresh b o hb
  ·exact .inr (h.new (b, o) (by simp [hb]))

end Go.EV

namespace Go.EV

/-- A temporary or a constant. -/
inductive A where
 | t (i : Nat)
 | c (v : Value)

/-- What is known of the temporaries, the latest first. -/
abbrev Env := List (Nat × Value)

def get : Env → Nat → Option Value
 | [], _ => none
 | (j, v) :: ρ, i => if i = j then some v else get ρ i

def ev (ρ : Env) : A → Option Value
 | .t i => get ρ i
 | .c v => some v

def evs (ρ : Env) : List A → Option (List Value)
 | [] => some []
 | x :: l => match ev ρ x, evs ρ l with | some v, some vs => some (v :: vs) | _, _ => none

def evo (ρ : Env) : Option A → Option (Option Value)
 | none => some none
 | some x => (ev ρ x).map some

/-- A frame knows what the environment says. -/
def Fits (nt : Nat) (ρ : Env) (a : Act) : Prop := a.tmps.size = nt ∧ ∀ t v, get ρ t = some v → a.tmps[t]? = some v

/-- The activation in which a walk stands, and where it is to come. -/
structure Cx (P : Program) where
 b : Frame
 T : List Frame → Machine → Prop
 back : ∀ {cs : List Frame} {m m' : Machine}, step P m = .next m' → T cs m' → T cs m
 nt : Nat
 ds : List Deferred
 w0 : World
 F : List Nat
 M0 : PHeap

variable {P : Program}

abbrev Cx.St (C : Cx P) (M : PHeap) (G : Own) (w : World) : Prop := EV.St C.w0 C.F C.M0 M G w

/-- Whether a number is a function's with a body, to be entered by a call. -/
def isGo (P : Program) (f : FuncId) : Bool :=
 match P.funcs[f]? with
 | some fn => fn.body.isSome && fn.name != "runtime.NumGoroutine"
 | none => false

theorem callFunc_go {f : FuncId} (h : isGo P f = true) (args : Array Value) (w : World) : (callFunc f args).run P w = .ok (.enter f args) w := by
 unfold isGo at h
 cases hf : P.funcs[f]? with
 | none => simp [hf] at h
 | some fn =>
  simp only [hf, Bool.and_eq_true, bne_iff_ne, ne_eq] at h
  obtain ⟨h1, h2⟩ := h
  simp [callFunc, program, Sem.run, Bind.bind, Sem.bind, hf, h2, Pure.pure]
  intro h3
  simp [h3] at h1

/-- A round of a loop over a function: it comes back to who called yield with a value. -/
def Rounds (P : Program) (l : Nat) (f : FuncId) (tmps : Array Value) (asn bd : Code) (w : World) (X : Value → World → Prop) : Prop :=
 ∀ (c : Frame) (cs : List Frame), ∃ v w', X v w' ∧ Steps P (lone (Frame.round l f tmps asn bd .normal) (c :: cs) w) (lone (c.finish v) cs w')
theorem Rounds.mono {l : Nat} {f : FuncId} {tmps : Array Value} {asn bd : Code} {w : World} {X Y : Value → World → Prop} (h : Rounds P l f tmps asn bd w X) (hk : ∀ v w', X v w' → Y v w') : Rounds P l f tmps asn bd w Y :=
 fun c cs => let ⟨v, w', h1, h2⟩ := h c cs; ⟨v, w', hk v w' h1, h2⟩

/-- What an operation does in a state: it hands back a value (a call: what the callee hands back). -/
def Does (P : Program) (o : Oper) (ρ : Operand → Value) (w : World) (X : Value → World → Prop) : Prop :=
 (∃ v w', (execOp ρ o).run P w = .ok (.value v) w' ∧ X v w') ∨
 (∃ w', (execOp ρ o).run P w = .ok .skip w' ∧ X undef w') ∨
 (∃ f args w', (execOp ρ o).run P w = .ok (.enter f args) w' ∧ Calls P f args w' fun e w'' => ∃ v, e = .returned v ∧ X v w'') ∨
 (∃ l f tmps asn bd w', (execOp ρ o).run P w = .ok (.round l f tmps asn bd) w' ∧ Rounds P l f tmps asn bd w' X)

theorem Does.mono {o : Oper} {ρ : Operand → Value} {w : World} {X Y : Value → World → Prop} (h : Does P o ρ w X) (hk : ∀ v w', X v w' → Y v w') : Does P o ρ w Y := by
 rcases h with ⟨v, w', h1, h2⟩ | ⟨w', h1, h2⟩ | ⟨f, args, w', h1, h2⟩ | ⟨l, f, tmps, asn, bd, w', h1, h2⟩
 ·exact .inl ⟨v, w', h1, hk _ _ h2⟩
 ·exact .inr (.inl ⟨w', h1, hk _ _ h2⟩)
 ·refine .inr (.inr (.inl ⟨f, args, w', h1, ?_⟩))
  intro cs
  obtain ⟨e, w'', fr, ⟨v, he, hx⟩, hs, hr⟩ := h2 cs
  exact ⟨e, w'', fr, ⟨v, he, hk _ _ hx⟩, hs, hr⟩
 ·exact .inr (.inr (.inr ⟨l, f, tmps, asn, bd, w', h1, h2.mono hk⟩))

/-- One operation of a region is carried out. -/
theorem step_does (C : Cx P) {ops : Array Oper} {i : Nat} {rest : List Nat} {k : List Item} {o : Oper} {a : Act} {w : World} {cs : List Frame}
  (ho : ops[i]? = some o) (hw : Region.wanted o (yielded ops a.tmps) = true) (hd : ∀ c, o.op ≠ .defer c)
  (h : Does P o a.eval w fun v w' => C.T cs (lone (C.b.atR (a.put o.dst v) (.inRegion ops rest :: k)) cs w')) :
  C.T cs (lone (C.b.atR a (.inRegion ops (i :: rest) :: k)) cs w) := by
 have hg := stepGR_op (P := P) (b := C.b) (a := a) (k := k) (cs := cs) (w := w) (rest := rest) ho hw
 rw [Oper.semAt_eq _ _ _ hd] at hg
 have hfin : ∀ v, (C.b.atR a (.inRegion ops (i :: rest) :: k)).finish v = C.b.atR (a.put o.dst v) (.inRegion ops rest :: k) := by
  intro v; rw [Frame.finish_atR, ho]; rfl
 have hback : ∀ (n : Nat) (m m' : Machine), runN P n m = .next m' → C.T cs m' → C.T cs m := by
  intro n
  induction n with
  | zero => intro m m' h1 h2; simp [runN] at h1; subst h1; exact h2
  | succ n ih =>
   intro m m' h1 h2
   simp only [runN] at h1
   cases hst : step P m with
   | next m1 => rw [hst] at h1; exact C.back hst (ih m1 m' h1 h2)
   | ended o w => rw [hst] at h1; simp at h1
 rcases h with ⟨v, w', h1, h2⟩ | ⟨w', h1, h2⟩ | ⟨f, args, w', h1, h2⟩ | ⟨l, f, tmps, asn, bd, w', h1, h2⟩
 ·refine C.back (step_lone_go ?_) h2
  rw [hg, ← hfin]; simp [stepG.apply, h1]
 ·refine C.back (step_lone_go ?_) h2
  rw [hg, ← hfin]; simp [stepG.apply, h1]
 ·obtain ⟨e, w'', fr, ⟨v, he, hx⟩, hs, hfn, hl⟩ := h2 (C.b.atR a (.inRegion ops (i :: rest) :: k) :: cs)
  subst he
  have henter : step P (lone (C.b.atR a (.inRegion ops (i :: rest) :: k)) cs w) =
    .next (lone (Frame.enter P f args .normal) (C.b.atR a (.inRegion ops (i :: rest) :: k) :: cs) w') :=
   step_lone_go (by rw [hg]; simp [stepG.apply, h1, Frame.atR])
  refine C.back henter ?_
  obtain ⟨n, hn⟩ := hs
  refine hback n _ _ hn (C.back (step_leave_returned hl) ?_)
  rw [hfin]; exact hx
 ·obtain ⟨v, w'', hx, hs⟩ := h2 (C.b.atR a (.inRegion ops (i :: rest) :: k)) cs
  have henter : step P (lone (C.b.atR a (.inRegion ops (i :: rest) :: k)) cs w) =
    .next (lone (Frame.round l f tmps asn bd .normal) (C.b.atR a (.inRegion ops (i :: rest) :: k) :: cs) w') :=
   step_lone_go (by rw [hg]; simp [stepG.apply, h1, Frame.atR])
  refine C.back henter ?_
  obtain ⟨n, hn⟩ := hs
  refine hback n _ _ hn ?_
  rw [hfin]; exact hx

/-- A frame behind a temporary's new value. -/
theorem Fits.put {nt : Nat} {ρ : Env} {a : Act} (h : Fits nt ρ a) (d : Nat) (hd : d < nt) (v : Value) : Fits nt ((d, v) :: ρ) (a.put (some d) v) := by
 refine ⟨by simp [Act.put, h.1], ?_⟩
 intro t u hu
 simp only [get] at hu
 simp only [Act.put]
 split at hu
 ·rename_i e
  subst e
  injection hu with hu
  subst hu
  simp [h.1, hd]
 ·rename_i e
  rw [Array.getElem?_setIfInBounds]
  rw [if_neg (by omega)]
  exact h.2 t u hu

theorem put_defers (a : Act) (d : Option Nat) (v : Value) : (a.put d v).defers = a.defers := by cases d <;> rfl

theorem Fits.sub {nt : Nat} {ρ ρ' : Env} {a : Act} (h : Fits nt ρ a) (hs : ∀ t v, get ρ' t = some v → get ρ t = some v) : Fits nt ρ' a := ⟨h.1, fun t v ht => h.2 t v (hs t v ht)⟩

/-- An operand, resolved. -/
def cA : Operand → Option A
 | .tmp t => some (.t t)
 | .const v => some (.c v)
 | .func f => some (.c (.func (.func f) #[] #[]))
 | .global _ => none

theorem eval_cA {nt : Nat} {ρ : Env} {a : Act} (h : Fits nt ρ a) {x : Operand} {y : A} (hx : cA x = some y) {v : Value} (hv : ev ρ y = some v) : a.eval x = v := by
 cases x with
 | tmp t =>
  simp [cA] at hx; subst hx
  have := h.2 t v hv
  simp [Act.eval, Array.getD_eq_getD_getElem?, this]
 | const u => simp [cA] at hx; subst hx; simpa [ev, Act.eval] using hv
 | func f => simp [cA] at hx; subst hx; simpa [ev, Act.eval] using hv
 | global g => simp [cA] at hx

def cAs (l : List Operand) : Option (List A) := l.mapM cA

theorem eval_cAs {nt : Nat} {ρ : Env} {a : Act} (h : Fits nt ρ a) : ∀ {l : List Operand} {m : List A}, cAs l = some m → ∀ {vs : List Value}, evs ρ m = some vs → l.map a.eval = vs
 | [], m, hl, vs, hv => by simp [cAs] at hl; subst hl; simp [evs] at hv; subst hv; rfl
 | x :: l, m, hl, vs, hv => by
  simp only [cAs, List.mapM_cons] at hl
  cases h1 : cA x with
  | none => simp [h1] at hl
  | some y =>
   cases h2 : l.mapM cA with
   | none => simp [h1, h2] at hl
   | some ys =>
    simp [h1, h2] at hl
    subst hl
    simp only [evs] at hv
    cases h3 : ev ρ y with
    | none => simp [h3] at hv
    | some v =>
     cases h4 : evs ρ ys with
     | none => simp [h3, h4] at hv
     | some us =>
      simp [h3, h4] at hv
      subst hv
      simp only [List.map_cons]
      rw [eval_cA h h1 h3, eval_cAs h h2 h4]

end Go.EV

namespace Go.EV

inductive LK where
 | i | b | s
 deriving DecidableEq

inductive ROp where
 | mv (x : A)
 | pick (c a b : A)
 | bin (op : BinOp) (x y : A)
 | eqb (neg : Bool) (x y : A)
 | eqp (neg : Bool) (x : A)
 | notb (x : A)
 | conv (k : IntKind) (x : A)
 | faddr (off : Nat) (x : A)
 | iaddrA (n sz : Nat) (x i : A)
 | iaddrS (sz : Nat) (x i : A)
 | nilck (x : A)
 | extract (k : Nat) (x : A)
 | fieldA (off sz : Nat) (x : A)
 | field1 (off : Nat) (x : A)
 | len (x : A)
 | lenT (x : A)
 | loadA (sz : Nat) (x : A)
 | loadI (k : IntKind) (x : A)
 | loadB (x : A)
 | loadS (x : A)
 | loadX (x : A)
 | store (sz : Nat) (x v : A)
 | box (T : Nat) (x : A)
 | alloc (T : Nat) (cs : List Value)
 | build (zero : List Value) (parts : List (Nat × Nat × A))
 | buildSl (T n : Nat) (zero : List Value) (parts : List (Nat × Nat × A))
 | mkfn (f : FuncId) (first caps : List A)
 | append (T sz by_ : Nat) (zero : List Value) (x y : A)
 | makeSl (T sz by_ : Nat) (zero : List Value) (x y : A)
 | slS (sz : Nat) (x : A) (lo hi mx : Option A)
 | slA (n sz : Nat) (x : A) (lo hi : Option A)
 | maxi (x y : A)
 | mini (x y : A)
 | eqS (neg : Bool) (x : A)
 | eqA (neg : Bool) (ks : List LK) (x y : A)
 | idx1 (n : Nat) (x i : A)
 | idxA (n sz : Nat) (x i : A)
 | cap (x : A)
 | copyO (sz : Nat) (x y : A)
 | appendZ (T sz by_ : Nat) (zero : List Value) (x y : A)
 | clearS (z : Value) (x : A)
 | ext (f : FuncId) (args : List A)
 | bad
 | call (f : FuncId) (args : List A)
 | callv (x : A) (args : List A)
 | raw (o : Oper)

/-- Two plain cells alike. -/
def eqLeaf : LK → Value → Value → Option Bool
 | .i, .int k a, .int k' b => if k = k' then some (decide (a = b)) else none
 | .b, .bool a, .bool b => some (a == b)
 | .s, .string a, .string b => some (a.toList == b.toList)
 | _, _, _ => none

def eqL : List LK → List Value → List Value → Option Bool
 | [], [], [] => some true
 | k :: ks, x :: xs, y :: ys => match eqLeaf k x y, eqL ks xs ys with | some a, some b => some (a && b) | _, _ => none
 | _, _, _ => none

/-- Whatever is there is handed on. -/
def onv {α : Type} (o : Option α) (k : α → Prop) : Prop :=
 match o with
 | some a => k a
 | none => False

theorem onv_some {α : Type} (a : α) (k : α → Prop) : onv (some a) k = k a := rfl
theorem onv_none {α : Type} (k : α → Prop) : onv none k = False := rfl
theorem onv_iff {α : Type} {o : Option α} {k : α → Prop} : onv o k ↔ ∃ a, o = some a ∧ k a := by cases o <;> simp [onv]

def intV (op : BinOp) (k : IntKind) (x y : Int) : Option Value :=
 match op with
 | .add => some (.int k (k.wrap (x + y)))
 | .sub => some (.int k (k.wrap (x - y)))
 | .mul => some (.int k (k.wrap (x * y)))
 | .quo => if y = 0 then none else some (.int k (k.wrap (x.tdiv y)))
 | .rem => if y = 0 then none else some (.int k (x.tmod y))
 | .and => some (.int k (k.wrap (BitVec.ofInt k.bits x &&& BitVec.ofInt k.bits y).toNat))
 | .or => some (.int k (k.wrap (BitVec.ofInt k.bits x ||| BitVec.ofInt k.bits y).toNat))
 | .xor => some (.int k (k.wrap (BitVec.ofInt k.bits x ^^^ BitVec.ofInt k.bits y).toNat))
 | .andNot => some (.int k (k.wrap (BitVec.ofInt k.bits x &&& ~~~BitVec.ofInt k.bits y).toNat))
 | .eql => some (.bool (decide (x = y)))
 | .neq => some (.bool (!decide (x = y)))
 | .lss => some (.bool (decide (x < y)))
 | .leq => some (.bool (decide (x ≤ y)))
 | .gtr => some (.bool (decide (y < x)))
 | .geq => some (.bool (decide (y ≤ x)))
 | _ => none

def shV (op : BinOp) (k : IntKind) (x y : Int) : Option Value :=
 if y < 0 then none else
 match op with
 | .shl => some (.int k (k.wrap (x * 2 ^ (min y.toNat k.bits))))
 | .shr => some (.int k (x.fdiv (2 ^ (min y.toNat k.bits))))
 | _ => none

def strV (op : BinOp) (x y : ByteArray) : Option Value :=
 match op with
 | .eql => some (.bool (x.toList == y.toList))
 | .neq => some (.bool !(x.toList == y.toList))
 | _ => none

def binV (op : BinOp) : Value → Value → Option Value
 | .int k x, .int k' y => if op = .shl ∨ op = .shr then shV op k x y else if k = k' then intV op k x y else none
 | .string x, .string y => strV op x y
 | _, _ => none

abbrev pv (b off : Nat) : Value := .pointer (some ⟨b, off, none⟩)

def ptr? : Value → Option (Nat × Nat)
 | .pointer (some ⟨b, off, none⟩) => some (b, off)
 | _ => none

def adr? : Addr → Option (Nat × Nat)
 | ⟨b, off, none⟩ => some (b, off)
 | _ => none

def sl? : Value → Option (Option Addr × Nat × Nat)
 | .slice a n c => some (a, n, c)
 | _ => none

def int? : Value → Option Int
 | .int _ n => some n
 | _ => none

def bool? : Value → Option Bool
 | .bool b => some b
 | _ => none

def agg? : Value → Option (List Value)
 | .agg cs => some cs.toList
 | _ => none

def tup? : Value → Option (List Value)
 | .tuple cs => some cs.toList
 | _ => none

def fn? : Value → Option (FuncId × Array Value × Array Value)
 | .func (.func f) first caps => some (f, first, caps)
 | _ => none

/-- A piece of a list, written over. -/
def splice (cs : List Value) (off : Nat) (vs : List Value) : List Value := cs.take off ++ vs ++ cs.drop (off + vs.length)

def ok1 (l : List Value) : Prop := ∀ v ∈ l, v.oneCell' = true

def evp (ρ : Env) : List (Nat × Nat × A) → Option (List (Nat × Nat × Value))
 | [] => some []
 | (o, s, x) :: l => match ev ρ x, evp ρ l with | some v, some vs => some ((o, s, v) :: vs) | _, _ => none

def fillL : List Value → List (Nat × Nat × Value) → Option (List Value)
 | cs, [] => some cs
 | cs, (off, sz, v) :: r => if v.cells.size = sz ∧ off + sz ≤ cs.length then fillL (splice cs off v.cells.toList) r else none

/-- A slice that is owned: nil, or the head of a block. -/
abbrev Vec := Option (Nat × Nat × List Value)
def oad : Vec → Option Addr
 | none => none
 | some (b, _, _) => some ⟨b, 0, none⟩
def ocap : Vec → Nat
 | none => 0
 | some (_, cap, _) => cap
abbrev osv (o : Vec) (n : Nat) : Value := .slice (oad o) n (ocap o)
theorem oad_none : oad none = none := rfl
theorem oad_some (b c : Nat) (l : List Value) : oad (some (b, c, l)) = some ⟨b, 0, none⟩ := rfl
theorem ocap_none : ocap none = 0 := rfl
theorem ocap_some (b c : Nat) (l : List Value) : ocap (some (b, c, l)) = c := rfl
def osg (T : TypeId) : Vec → List Value → Own
 | none, _ => []
 | some (b, _, sp), xs => [(b, Cl T (xs ++ sp))]
def osok (sz : Nat) : Vec → Nat → List Value → Prop
 | none, n, xs => n = 0 ∧ xs = []
 | some (_, cap, sp), n, xs => xs.length = n * sz ∧ (xs ++ sp).length = cap * sz ∧ n ≤ cap ∧ cap ≤ maxLen

/-- A slice's cells. -/
def rdS (H : PHeap) (sz : Nat) (a : Option Addr) (n : Nat) (cs : List Value) : Prop :=
 (n * sz = 0 ∧ cs = []) ∨ ∃ b off, a = some ⟨b, off, none⟩ ∧ rd H b off (n * sz) cs

/-- What an append asks, the owned row ahead. -/
def appW0 (ρ : Env) (M : PHeap) (G : Own) (K : Value → PHeap → Own → Prop) (T sz by_ : Nat) (x y : A) : Prop :=  onv (ev ρ x) fun x => onv (ev ρ y) fun y => onv (sl? y) fun s => ∃ news, rdS (M.add G) sz s.1 s.2.1 news ∧ ok1 news ∧
   ((∃ o n xs G', x = osv o n ∧ osok sz o n xs ∧ G.Perm (osg T o xs ++ G') ∧ n + s.2.1 ≤ maxLen ∧ (n + s.2.1) * by_ ≤ 140737488355328 ∧
     ∀ o', osok sz o' (n + s.2.1) (xs ++ news) → (o'.isNone = true ↔ o.isNone = true ∧ s.2.1 = 0) → K (osv o' (n + s.2.1)) M (osg T o' (xs ++ news) ++ G')) ∨
    (∃ a n c xs, x = .slice a n c ∧ rdS (M.add G) sz a n xs ∧ 0 < s.2.1 ∧ c < n + s.2.1 ∧ n + s.2.1 ≤ maxLen ∧ (n + s.2.1) * by_ ≤ 140737488355328 ∧
     ∀ b cap sp, osok sz (some (b, cap, sp)) (n + s.2.1) (xs ++ news) → K (osv (some (b, cap, sp)) (n + s.2.1)) M (osg T (some (b, cap, sp)) (xs ++ news) ++ G)))

/-- A call. -/
def CallW {P : Program} (C : Cx P) (f : FuncId) (args : Array Value) (M : PHeap) (G : Own) (K : Value → PHeap → Own → Prop) : Prop :=
 isGo P f = true ∧ ∀ w, C.St M G w → Calls P f args w fun e w' => ∃ v, e = .returned v ∧ ∃ M' G', C.St M' G' w' ∧ K v M' G'

def yield? : Value → Option Nat
 | .func (.yield l) first _ => if first.size = 0 then some l else none
 | _ => none

/-- A call of yield: a round of the loop over a function. -/
def YieldW {P : Program} (C : Cx P) (l : Nat) (args : Array Value) (M : PHeap) (G : Own) (K : Value → PHeap → Own → Prop) : Prop :=
 ∀ w, C.St M G w → ∃ r : Loop, w.heap[l]? = some (.loop r) ∧ args.size = r.params.size ∧
  Rounds P l r.fn ((r.params.zip args).foldl (fun tmps (t, a) => tmps.setIfInBounds t a) r.tmps) r.assign r.body w fun v w' => ∃ M' G', C.St M' G' w' ∧ K v M' G'

/-- What an operation asks. -/
def opW {P : Program} (C : Cx P) (ρ : Env) (M : PHeap) (G : Own) (K : Value → PHeap → Own → Prop) : ROp → Prop
 | .mv x => onv (ev ρ x) fun v => K v M G
 | .pick c a b => onv (ev ρ c) fun c => onv (bool? c) fun c => onv (if c then ev ρ a else ev ρ b) fun v => K v M G
 | .bin op x y => onv (ev ρ x) fun x => onv (ev ρ y) fun y => onv (binV op x y) fun v => K v M G
 | .eqb neg x y => onv (ev ρ x) fun x => onv (ev ρ y) fun y => onv (bool? x) fun x => onv (bool? y) fun y => K (.bool (xor neg (x == y))) M G
 | .eqp neg x => onv (ev ρ x) fun x => match x with | .pointer a => K (.bool (xor neg a.isNone)) M G | _ => False
 | .notb x => onv (ev ρ x) fun x => onv (bool? x) fun b => K (.bool !b) M G
 | .conv k x => onv (ev ρ x) fun x => onv (int? x) fun n => K (.int k (k.wrap n)) M G
 | .faddr off x => onv (ev ρ x) fun x => onv (ptr? x) fun p => K (pv p.1 (p.2 + off)) M G
 | .iaddrA n sz x i => onv (ev ρ x) fun x => onv (ev ρ i) fun i => onv (ptr? x) fun p => onv (int? i) fun j => 0 ≤ j ∧ j < (n : Int) ∧ K (pv p.1 (p.2 + j.toNat * sz)) M G
 | .iaddrS sz x i => onv (ev ρ x) fun x => onv (ev ρ i) fun i => onv (sl? x) fun s => onv (int? i) fun j =>
   onv s.1 fun ad => onv (adr? ad) fun p => 0 ≤ j ∧ j < (s.2.1 : Int) ∧ K (pv p.1 (p.2 + j.toNat * sz)) M G
 | .nilck x => onv (ev ρ x) fun x => onv (ptr? x) fun _ => K x M G
 | .extract k x => onv (ev ρ x) fun x => onv (tup? x) fun l => onv l[k]? fun v => K v M G
 | .fieldA off sz x => onv (ev ρ x) fun x => onv (agg? x) fun l => K (.agg ((l.drop off).take sz).toArray) M G
 | .field1 off x => onv (ev ρ x) fun x => onv (agg? x) fun l => onv l[off]? fun v => K v M G
 | .len x => onv (ev ρ x) fun x => onv (sl? x) fun s => K (.int .i64 s.2.1) M G
 | .lenT x => onv (ev ρ x) fun x => match x with | .string s => K (.int .i64 s.size) M G | _ => False
 | .loadA sz x => onv (ev ρ x) fun x => onv (ptr? x) fun p => ∃ cs, rd (M.add G) p.1 p.2 sz cs ∧ K (.agg cs.toArray) M G
 | .loadI k x => onv (ev ρ x) fun x => onv (ptr? x) fun p => ∃ n, rd (M.add G) p.1 p.2 1 [.int k n] ∧ K (.int k n) M G
 | .loadB x => onv (ev ρ x) fun x => onv (ptr? x) fun p => ∃ b, rd (M.add G) p.1 p.2 1 [.bool b] ∧ K (.bool b) M G
 | .loadS x => onv (ev ρ x) fun x => onv (ptr? x) fun p => ∃ a n c, rd (M.add G) p.1 p.2 1 [.slice a n c] ∧ K (.slice a n c) M G
 | .loadX x => onv (ev ρ x) fun x => onv (ptr? x) fun p => ∃ v, rd (M.add G) p.1 p.2 1 [v] ∧ K v M G
 | .store sz x v => onv (ev ρ x) fun x => onv (ev ρ v) fun u => onv (ptr? x) fun p =>
   ∃ T cs Ga Gb, G = Ga ++ (p.1, Cl T cs) :: Gb ∧ p.2 + sz ≤ cs.length ∧ u.cells.size = sz ∧ ok1 u.cells.toList ∧ K undef M (Ga ++ (p.1, Cl T (splice cs p.2 u.cells.toList)) :: Gb)
 | .box T x => onv (ev ρ x) fun u => ∀ b, K (pv b 0) M ((b, Cl T u.cells.toList) :: G)
 | .alloc T cs => ∀ b, K (pv b 0) M ((b, Cl T cs) :: G)
 | .build zero parts => onv (evp ρ parts) fun ps => onv (fillL zero ps) fun cs => K (.agg cs.toArray) M G
 | .buildSl T n zero parts => onv (evp ρ parts) fun ps => onv (fillL zero ps) fun cs => ∀ b, K (.slice (some ⟨b, 0, none⟩) n n) M ((b, Cl T cs) :: G)
 | .mkfn f first caps => onv (evs ρ first) fun fs => onv (evs ρ caps) fun cs => K (.func (.func f) fs.toArray cs.toArray) M G
 | .append T sz by_ _ x y => onv (ev ρ x) fun x => onv (ev ρ y) fun y => onv (sl? y) fun s => ∃ news, rdS (M.add G) sz s.1 s.2.1 news ∧ ok1 news ∧
   ((∃ o n xs G', x = osv o n ∧ osok sz o n xs ∧ G.Perm (osg T o xs ++ G') ∧ n + s.2.1 ≤ maxLen ∧ (n + s.2.1) * by_ ≤ 140737488355328 ∧
     ∀ o', osok sz o' (n + s.2.1) (xs ++ news) → (o'.isNone = true ↔ o.isNone = true ∧ s.2.1 = 0) → K (osv o' (n + s.2.1)) M (G' ++ osg T o' (xs ++ news))) ∨
    (∃ a n c xs, x = .slice a n c ∧ rdS (M.add G) sz a n xs ∧ 0 < s.2.1 ∧ c < n + s.2.1 ∧ n + s.2.1 ≤ maxLen ∧ (n + s.2.1) * by_ ≤ 140737488355328 ∧
     ∀ b cap sp, osok sz (some (b, cap, sp)) (n + s.2.1) (xs ++ news) → K (osv (some (b, cap, sp)) (n + s.2.1)) M (G ++ osg T (some (b, cap, sp)) (xs ++ news))))
 | .makeSl T sz by_ zero x y => onv (ev ρ x) fun x => onv (ev ρ y) fun y => onv (int? x) fun n => onv (int? y) fun c =>
   0 ≤ n ∧ n ≤ c ∧ c ≤ 140737488355328 ∧ c * by_ ≤ 140737488355328 ∧ ∀ b, K (.slice (some ⟨b, 0, none⟩) n.toNat c.toNat) M ((b, Cl T (List.replicate c.toNat zero).flatten) :: G)
 | .slS sz x lo hi mx => onv (ev ρ x) fun x => onv (evo ρ lo) fun lo => onv (evo ρ hi) fun hi => onv (evo ρ mx) fun mx => onv (sl? x) fun s =>
   ∃ l h m : Nat, (match lo with | none => l = 0 | some v => int? v = some (l : Int)) ∧ (match hi with | none => h = s.2.1 | some v => int? v = some (h : Int)) ∧ (match mx with | none => m = s.2.2 | some v => int? v = some (m : Int)) ∧
    l ≤ h ∧ h ≤ m ∧ m ≤ s.2.2 ∧ (hi.isSome = true ∨ mx.isNone = true) ∧ K (.slice (if m = l then s.1 else s.1.map (·.add (l * sz))) (h - l) (m - l)) M G
 | .slA n sz x lo hi => onv (ev ρ x) fun x => onv (evo ρ lo) fun lo => onv (evo ρ hi) fun hi => onv (ptr? x) fun p =>
   ∃ l h : Nat, (match lo with | none => l = 0 | some v => int? v = some (l : Int)) ∧ (match hi with | none => h = n | some v => int? v = some (h : Int)) ∧
    l ≤ h ∧ h ≤ n ∧ K (.slice (some ⟨p.1, if n = l then p.2 else p.2 + l * sz, none⟩) (h - l) (n - l)) M G
 | .maxi x y => onv (ev ρ x) fun x => onv (ev ρ y) fun y => match x, y with | .int k a, .int _ b => K (.int k (if b > a then b else a)) M G | _, _ => False
 | .mini x y => onv (ev ρ x) fun x => onv (ev ρ y) fun y => match x, y with | .int k a, .int _ b => K (.int k (if b < a then b else a)) M G | _, _ => False
 | .eqS neg x => onv (ev ρ x) fun x => onv (sl? x) fun s => K (.bool (xor neg s.1.isNone)) M G
 | .eqA neg ks x y => onv (ev ρ x) fun x => onv (ev ρ y) fun y => onv (agg? x) fun xs => onv (agg? y) fun ys => onv (eqL ks xs ys) fun r => K (.bool (xor neg r)) M G
 | .idx1 n x i => onv (ev ρ x) fun x => onv (ev ρ i) fun i => onv (agg? x) fun l => onv (int? i) fun j => 0 ≤ j ∧ j < (n : Int) ∧ onv l[j.toNat]? fun v => K v M G
 | .idxA n sz x i => onv (ev ρ x) fun x => onv (ev ρ i) fun i => onv (agg? x) fun l => onv (int? i) fun j => 0 ≤ j ∧ j < (n : Int) ∧ K (.agg ((l.drop (j.toNat * sz)).take sz).toArray) M G
 | .cap x => onv (ev ρ x) fun x => onv (sl? x) fun s => K (.int .i64 s.2.2) M G
 | .copyO sz x y => onv (ev ρ x) fun x => onv (ev ρ y) fun y => onv (sl? x) fun d => onv (sl? y) fun s => ∃ news, rdS (M.add G) sz s.1 s.2.1 news ∧ ok1 (news.take (min s.2.1 d.2.1 * sz)) ∧
   ((min s.2.1 d.2.1 * sz = 0 ∧ K (.int .i64 (min s.2.1 d.2.1 : Nat)) M G) ∨
    ∃ b off T cs Ga Gb, d.1 = some ⟨b, off, none⟩ ∧ G = Ga ++ (b, Cl T cs) :: Gb ∧ off + min s.2.1 d.2.1 * sz ≤ cs.length ∧ K (.int .i64 (min s.2.1 d.2.1 : Nat)) M (Ga ++ (b, Cl T (splice cs off (news.take (min s.2.1 d.2.1 * sz)))) :: Gb))
 | .appendZ T sz by_ zero x y => onv (ev ρ x) fun x => onv (ev ρ y) fun y => onv (sl? x) fun s => onv (int? y) fun j => ∃ xs, rdS (M.add G) sz s.1 s.2.1 xs ∧ 0 < j ∧ s.2.2 < s.2.1 + j.toNat ∧ s.2.1 + j.toNat ≤ maxLen ∧ (s.2.1 + j.toNat) * by_ ≤ 140737488355328 ∧
   ∀ b cap sp, osok sz (some (b, cap, sp)) (s.2.1 + j.toNat) (xs ++ (List.replicate j.toNat zero).flatten) → K (osv (some (b, cap, sp)) (s.2.1 + j.toNat)) M (G ++ osg T (some (b, cap, sp)) (xs ++ (List.replicate j.toNat zero).flatten))
 | .clearS z x => onv (ev ρ x) fun x => onv (sl? x) fun s => (s.2.1 = 0 ∧ K (.tuple #[]) M G) ∨
   ∃ b off T cs Ga Gb, s.1 = some ⟨b, off, none⟩ ∧ 0 < s.2.1 ∧ G = Ga ++ (b, Cl T cs) :: Gb ∧ off + s.2.1 ≤ cs.length ∧ K (.tuple #[]) M (Ga ++ (b, Cl T (splice cs off (List.replicate s.2.1 z))) :: Gb)
 | .ext f args => onv (evs ρ args) fun vs => ∃ v, (∀ w, C.St M G w → ∃ w', (callFunc f vs.toArray).run P w = .ok (.value v) w' ∧ w'.os = w.os ∧ Tp w' w ∧ w'.output = w.output ∧ w'.heap = w.heap) ∧ K v M G
 | .bad => False
 | .call f args => onv (evs ρ args) fun vs => CallW C f vs.toArray M G K
 | .callv x args => onv (ev ρ x) fun fv => match yield? fv with
  | some l => onv (evs ρ args) fun vs => YieldW C l vs.toArray M G K
  | none => onv (fn? fv) fun g => onv (evs ρ args) fun vs => CallW C g.1 (g.2.1 ++ vs.toArray ++ g.2.2) M G K
 | .raw o => ∃ v, (∀ a, Fits C.nt ρ a → ∀ w, C.St M G w → (execOp a.eval o).run P w = .ok (.value v) w) ∧ K v M G

end Go.EV

namespace Go.EV
variable {P : Program}

def aggT (P : Program) (t : TypeId) : Option Bool :=
 match P.underlying t with
 | some (.struct _) | some (.array ..) => some true
 | some _ => some false
 | none => none

theorem run_isAgg {t : TypeId} {b : Bool} (h : aggT P t = some b) (w : World) : (isAgg t).run P w = .ok b w := by
 unfold aggT at h
 cases hu : P.underlying t with
 | none => simp [hu] at h
 | some d =>
  simp only [hu] at h
  simp only [isAgg, underlying, program, Bind.bind, Sem.bind, Sem.run, hu, Pure.pure]
  cases d <;> simp_all [Sem.run]

theorem run_sizeOf {t : TypeId} {n : Nat} (h : (P.info? t).map (·.size) = some n) (w : World) : (sizeOf t).run P w = .ok n w := by
 cases hi : P.info? t with
 | none => simp [hi] at h
 | some i =>
  simp [hi] at h
  simp [sizeOf, typeInfo, program, Bind.bind, Sem.bind, Sem.run, hi, Pure.pure, h]

theorem run_zero {t : TypeId} {v : Value} (h : (P.info? t).bind (·.zero) = some v) (w : World) : (zeroValue t).run P w = .ok v w := by
 cases hi : P.info? t with
 | none => simp [hi] at h
 | some i =>
  simp [hi] at h
  simp [zeroValue, typeInfo, program, Bind.bind, Sem.bind, Sem.run, hi, Pure.pure, h]

theorem run_bindOk {α β : Type} {s : Sem α} {f : α → Sem β} {w w' : World} {a : α} (h : s.run P w = .ok a w') : (s >>= f).run P w = (f a).run P w' := by
 show (Sem.bind s f).run P w = _
 rw [Sem.run_bind' P s f w, h]
 rfl

theorem run_load {a : Addr} {v : Value} {w : World} (h : w.cell? a = some v) : (load a).run P w = .ok v w := by
 simp [load, Sem.run, h]

theorem addr_add (b off n : Nat) : (⟨b, off, none⟩ : Addr).add n = ⟨b, off + n, none⟩ := by
 unfold Addr.add; split
 ·simp_all
 ·rfl

theorem cell_of_block {w : World} {b : Nat} {c : Array Value} {T : TypeId} {fz : Nat × Nat} (h : w.heap[b]? = some (.cells c T fz)) (off : Nat) : w.cell? ⟨b, off, none⟩ = c[off]? := by
 simp [World.cell?, h]

theorem run_loadCellsFrom {w : World} {b : Nat} {c : Array Value} {T : TypeId} {fz : Nat × Nat} (h : w.heap[b]? = some (.cells c T fz)) (off : Nat) :
  ∀ (n i : Nat) (acc : Array Value), off + i + n ≤ c.size → (loadCellsFrom ⟨b, off, none⟩ i n acc).run P w = .ok (acc ++ ((c.toList.drop (off + i)).take n).toArray) w
 | 0, i, acc, _ => by simp [loadCellsFrom, Pure.pure]
 | n + 1, i, acc, hn => by
  have hlt : off + i < c.size := by omega
  unfold loadCellsFrom
  rw [run_bindOk (run_load (v := c[off + i]) (by rw [addr_add, cell_of_block h]; exact Array.getElem?_eq_getElem hlt))]
  rw [run_loadCellsFrom h off n (i + 1) _ (by omega)]
  congr 1
  have hd : c.toList.drop (off + i) = c[off + i] :: c.toList.drop (off + (i + 1)) := by
   rw [List.drop_eq_getElem_cons (by simpa using hlt)]
   simp [Nat.add_assoc]
  rw [hd]
  simp

theorem run_loadCells {w : World} {H : PHeap} (ag : ∀ b o, H b o → w.heap[b]? = some o) {b off n : Nat} {cs : List Value} (h : rd H b off n cs) :
  (loadCells ⟨b, off, none⟩ n).run P w = .ok cs.toArray w := by
 obtain ⟨c, T, fz, h1, h2, h3⟩ := h
 have := run_loadCellsFrom (P := P) (ag _ _ h1) off n 0 #[] (by omega)
 subst h3
 simpa [loadCells] using this

theorem rd_one {w : World} {H : PHeap} (ag : ∀ b o, H b o → w.heap[b]? = some o) {b off : Nat} {v : Value} (h : rd H b off 1 [v]) : w.cell? ⟨b, off, none⟩ = some v := by
 obtain ⟨c, T, fz, h1, h2, h3⟩ := h
 rw [cell_of_block (ag _ _ h1)]
 have hlt : off < c.size := by omega
 rw [List.drop_eq_getElem_cons (by simpa using hlt)] at h3
 simp at h3
 rw [Array.getElem?_eq_getElem hlt, h3]

theorem run_storeCells {g o : Nat} {t : TypeId} {vs cur : List Value} {w : World} (hg : w.heap[g]? = some (Cl t cur)) (hf : o + vs.length ≤ cur.length) (h1 : ok1 vs) :
  ∃ w', (storeCells ⟨g, o, none⟩ vs).run P w = .ok () w' ∧ w'.os = w.os ∧ Tp w' w ∧ w'.output = w.output ∧ w'.heap.size = w.heap.size ∧ (∀ k, k ≠ g → w'.heap[k]? = w.heap[k]?) ∧ w'.heap[g]? = some (Cl t (splice cur o vs)) := by
 have := run_storeCells_at P g o t vs 0 cur.toArray w hg (by simpa using hf) h1
 simp only [Nat.add_zero] at this
 refine ⟨_, this, rfl, ⟨rfl, Nat.le_refl _⟩, rfl, by simp, fun k hk => setRow_other w g k _ hk, ?_⟩
 rw [setRow_heap w g cur.toArray _ t _ hg]
 simp [splice]

/-- An operation hands back a value in the world that it leaves. -/
theorem Does.value {o : Oper} {ρ : Operand → Value} {w w' : World} {X : Value → World → Prop} {v : Value} (h : (execOp ρ o).run P w = .ok (.value v) w') (hx : X v w') : Does P o ρ w X := .inl ⟨v, w', h, hx⟩
theorem Does.skip {o : Oper} {ρ : Operand → Value} {w w' : World} {X : Value → World → Prop} (h : (execOp ρ o).run P w = .ok .skip w') (hx : X undef w') : Does P o ρ w X := .inr (.inl ⟨w', h, hx⟩)

end Go.EV

namespace Go.EV
variable {P : Program}

def cAo : Option Operand → Option (Option A)
 | none => some none
 | some x => (cA x).map some

/-- The parts of a struct's literal, resolved. -/
def resPs (P : Program) (fs : Array Field) : List (Nat × Operand) → Option (List (Nat × Nat × A))
 | [] => some []
 | (i, x) :: l => match fs[i]? with
  | none => none
  | some f => match P.info? f.type, cA x, resPs P fs l with
   | some t, some x', some l' => some ((f.offset, t.size, x') :: l')
   | _, _, _ => none

/-- The parts of an array's or a slice's literal, resolved. -/
def resPa (sz : Nat) : List (Nat × Operand) → Option (List (Nat × Nat × A))
 | [] => some []
 | (i, x) :: l => match cA x, resPa sz l with
  | some x', some l' => some ((i * sz, sz, x') :: l')
  | _, _ => none

/-- A type of one plain cell. -/
def leafT (P : Program) (t : TypeId) : Option LK :=
 match P.underlying t with
 | some (.int _) => some .i
 | some .bool => some .b
 | some .string => some .s
 | _ => none

def leafs (P : Program) : Nat → List Field → Option (List LK)
 | _, [] => some []
 | i, f :: fs => if f.name ≠ "_" ∧ f.offset = i then match leafT P f.type, leafs P (i + 1) fs with | some k, some ks => some (k :: ks) | _, _ => none else none

/-- A struct or an array of plain cells: which. -/
def eqTy (P : Program) (t : TypeId) : Option (List LK) :=
 match P.underlying t with
 | some (.struct fs) => if (!P.stoodInHeld t && !P.eqGuardType P.depth t) = true then leafs P 0 fs.toList else none
 | some (.array n e) => if (decide ((P.info? e).map (·.size) = some 1) && !P.eqGuardType P.depth t) = true then (leafT P e).map (List.replicate n) else none
 | _ => none

/-- An operation of the program is what the resolved one says. -/
inductive Cmp (P : Program) (o : Oper) : ROp → Prop
 | mv {x : Operand} {x' : A} (h : o.op = .move x ∨ o.op = .assign x) (hx : cA x = some x') : Cmp P o (.mv x')
 | pick {c a b : Operand} {c' a' b' : A} (h : o.op = .pick c a b) (hc : cA c = some c') (ha : cA a = some a') (hb : cA b = some b') : Cmp P o (.pick c' a' b')
 | bin {op : BinOp} {t u : TypeId} {x y : Operand} {x' y' : A} (h : o.op = .binOp op t x y u) (hx : cA x = some x') (hy : cA y = some y') : Cmp P o (.bin op x' y')
 | eqb {neg : Bool} {t u : TypeId} {x y : Operand} {x' y' : A} (h : o.op = .binOp (if neg then .neq else .eql) t x y u) (hu : P.underlying t = some .bool) (hx : cA x = some x') (hy : cA y = some y') : Cmp P o (.eqb neg x' y')
 | eqp {neg : Bool} {t u e : TypeId} {x : Operand} {x' : A} (h : o.op = .binOp (if neg then .neq else .eql) t x (.const (.pointer none)) u) (hu : P.underlying t = some (.pointer e)) (hx : cA x = some x') : Cmp P o (.eqp neg x')
 | notb {t : TypeId} {x : Operand} {x' : A} (h : o.op = .unOp .not t x) (hx : cA x = some x') : Cmp P o (.notb x')
 | conv {src dst : TypeId} {x : Operand} {x' : A} {k : IntKind} {d : TypeDesc} (h : o.op = .convert src dst x) (hx : cA x = some x') (hs : P.underlying src = some d) (hd : P.underlying dst = some (.int k)) : Cmp P o (.conv k x')
 | faddr {s : TypeId} {x : Operand} {x' : A} {f n : Nat} {fs : Array Field} {fl : Field} (h : o.op = .fieldAddr s x f) (hx : cA x = some x') (hu : P.underlying s = some (.struct fs)) (hf : fs[f]? = some fl)
   (hs : (P.info? fl.type).map (·.size) = some (n + 1)) : Cmp P o (.faddr fl.offset x')
 | iaddrA {t e : TypeId} {x i : Operand} {x' i' : A} {n sz : Nat} (h : o.op = .indexAddr t x i) (hx : cA x = some x') (hi : cA i = some i') (hu : P.underlying t = some (.array n e)) (hs : (P.info? e).map (·.size) = some sz) : Cmp P o (.iaddrA n sz x' i')
 | iaddrS {t e : TypeId} {x i : Operand} {x' i' : A} {sz : Nat} (h : o.op = .indexAddr t x i) (hx : cA x = some x') (hi : cA i = some i') (hu : P.underlying t = some (.slice e)) (hs : (P.info? e).map (·.size) = some sz) : Cmp P o (.iaddrS sz x' i')
 | nilck {x : Operand} {x' : A} (h : o.op = .nilCheck x) (hx : cA x = some x') : Cmp P o (.nilck x')
 | extract {x : Operand} {x' : A} {k : Nat} (h : o.op = .extract x k) (hx : cA x = some x') : Cmp P o (.extract k x')
 | fieldA {s : TypeId} {x : Operand} {x' : A} {f sz : Nat} {fs : Array Field} {fl : Field} (h : o.op = .field s x f) (hx : cA x = some x') (hu : P.underlying s = some (.struct fs)) (hf : fs[f]? = some fl)
   (ha : aggT P fl.type = some true) (hs : (P.info? fl.type).map (·.size) = some sz) : Cmp P o (.fieldA fl.offset sz x')
 | field1 {s : TypeId} {x : Operand} {x' : A} {f : Nat} {fs : Array Field} {fl : Field} (h : o.op = .field s x f) (hx : cA x = some x') (hu : P.underlying s = some (.struct fs)) (hf : fs[f]? = some fl)
   (ha : aggT P fl.type = some false) : Cmp P o (.field1 fl.offset x')
 | len {t e : TypeId} {x : Operand} {x' : A} (h : o.op = .call { callee := .builtin .len, args := #[x], argTypes := #[t] }) (hx : cA x = some x') (hu : P.underlying t = some (.slice e)) : Cmp P o (.len x')
 | lenT {t : TypeId} {x : Operand} {x' : A} (h : o.op = .call { callee := .builtin .len, args := #[x], argTypes := #[t] }) (hx : cA x = some x') (hu : P.underlying t = some .string) : Cmp P o (.lenT x')
 | loadA {t : TypeId} {x : Operand} {x' : A} {sz : Nat} (h : o.op = .load t x) (hx : cA x = some x') (ha : aggT P t = some true) (hs : (P.info? t).map (·.size) = some sz) : Cmp P o (.loadA sz x')
 | loadI {k : IntKind} {t : TypeId} {x : Operand} {x' : A} (h : o.op = .load t x) (hx : cA x = some x') (ha : aggT P t = some false) : Cmp P o (.loadI k x')
 | loadB {t : TypeId} {x : Operand} {x' : A} (h : o.op = .load t x) (hx : cA x = some x') (ha : aggT P t = some false) : Cmp P o (.loadB x')
 | loadS {t : TypeId} {x : Operand} {x' : A} (h : o.op = .load t x) (hx : cA x = some x') (ha : aggT P t = some false) : Cmp P o (.loadS x')
 | loadX {t : TypeId} {x : Operand} {x' : A} (h : o.op = .load t x) (hx : cA x = some x') (ha : aggT P t = some false) : Cmp P o (.loadX x')
 | store {t : TypeId} {x v : Operand} {x' v' : A} {sz : Nat} (h : o.op = .store t x v) (hx : cA x = some x') (hv : cA v = some v') (hs : (P.info? t).map (·.size) = some sz) : Cmp P o (.store sz x' v')
 | box {T : TypeId} {x : Operand} {x' : A} (h : o.op = .box T x) (hx : cA x = some x') : Cmp P o (.box T x')
 | alloc {T : TypeId} {z : Value} (h : o.op = .alloc T) (hz : (P.info? T).bind (·.zero) = some z) : Cmp P o (.alloc T z.cells.toList)
 | mkfn {f : FuncId} {first caps : Array Operand} {first' caps' : List A} (h : o.op = .makeFunc (.func f) first caps) (hf : cAs first.toList = some first') (hc : cAs caps.toList = some caps') : Cmp P o (.mkfn f first' caps')
 | maxi {ts : Array TypeId} {x y : Operand} {x' y' : A} (h : o.op = .call { callee := .builtin .max, args := #[x, y], argTypes := ts }) (hx : cA x = some x') (hy : cA y = some y') : Cmp P o (.maxi x' y')
 | call {f : FuncId} {args : Array Operand} {ts : Array TypeId} {args' : List A} (h : o.op = .call { callee := .value (.func f), args := args, argTypes := ts }) (ha : cAs args.toList = some args') : Cmp P o (.call f args')
 | callv {x : Operand} {x' : A} {args : Array Operand} {ts : Array TypeId} {args' : List A} (h : o.op = .call { callee := .value x, args := args, argTypes := ts }) (hx : cA x = some x') (ha : cAs args.toList = some args') : Cmp P o (.callv x' args')
 | buildS {t : TypeId} {parts : Array (Nat × Operand)} {ps : List (Nat × Nat × A)} {z : Value} {fs : Array Field} (h : o.op = .build t parts) (hu : P.underlying t = some (.struct fs)) (hz : (P.info? t).bind (·.zero) = some z)
   (hp : resPs P fs parts.toList = some ps) (hall : (fs.all fun f => (P.info? f.type).isSome) = true) : Cmp P o (.build z.cells.toList ps)
 | buildA {t e : TypeId} {n sz : Nat} {parts : Array (Nat × Operand)} {ps : List (Nat × Nat × A)} {z : Value} (h : o.op = .build t parts) (hu : P.underlying t = some (.array n e)) (hz : (P.info? t).bind (·.zero) = some z)
   (hs : (P.info? e).map (·.size) = some sz) (hp : resPa sz parts.toList = some ps) : Cmp P o (.build z.cells.toList ps)
 | buildSl {t e : TypeId} {n sz : Nat} {parts : Array (Nat × Operand)} {ps : List (Nat × Nat × A)} {z : Value} (h : o.op = .buildSlice t n parts) (hu : P.underlying t = some (.slice e)) (hz : (P.info? e).bind (·.zero) = some z)
   (hs : (P.info? e).map (·.size) = some sz) (hzs : z.cells.size = sz) (hn : n * sz ≤ 2 ^ 24) (hp : resPa sz parts.toList = some ps) : Cmp P o (.buildSl e n (List.replicate n z.cells.toList).flatten ps)
 | append {t e : TypeId} {x y : Operand} {x' y' : A} {i : TypeInfo} {z : Value} (h : o.op = .call { callee := .builtin .append, args := #[x, y], argTypes := #[t, t] }) (hx : cA x = some x') (hy : cA y = some y')
   (hu : P.underlying t = some (.slice e)) (hi : P.info? e = some i) (hz : i.zero = some z) (hzs : z.cells.size = i.size) (hpos : 0 < i.size) : Cmp P o (.append e i.size i.bytes z.cells.toList x' y')
 | makeSl {t e : TypeId} {x y : Operand} {x' y' : A} {i : TypeInfo} {z : Value} (h : o.op = .makeSlice t x y) (hx : cA x = some x') (hy : cA y = some y')
   (hu : P.underlying t = some (.slice e)) (hi : P.info? e = some i) (hz : i.zero = some z) (hzs : z.cells.size = i.size) (hpos : 0 < i.size) : Cmp P o (.makeSl e i.size i.bytes z.cells.toList x' y')
 | slS {t e : TypeId} {x : Operand} {x' : A} {lo hi mx : Option Operand} {lo' hi' mx' : Option A} {sz : Nat} (h : o.op = .slice t x lo hi mx) (hx : cA x = some x') (hlo : cAo lo = some lo') (hhi : cAo hi = some hi') (hmx : cAo mx = some mx')
   (hu : P.underlying t = some (.slice e)) (hs : (P.info? e).map (·.size) = some sz) : Cmp P o (.slS sz x' lo' hi' mx')
 | slA {t e : TypeId} {x : Operand} {x' : A} {lo hi : Option Operand} {lo' hi' : Option A} {n sz : Nat} (h : o.op = .slice t x lo hi none) (hx : cA x = some x') (hlo : cAo lo = some lo') (hhi : cAo hi = some hi')
   (hu : P.underlying t = some (.array n e)) (hs : (P.info? e).map (·.size) = some sz) : Cmp P o (.slA n sz x' lo' hi')
 | raw : Cmp P o (.raw o)
 | bad : Cmp P o .bad
 | mini {ts : Array TypeId} {x y : Operand} {x' y' : A} (h : o.op = .call { callee := .builtin .min, args := #[x, y], argTypes := ts }) (hx : cA x = some x') (hy : cA y = some y') : Cmp P o (.mini x' y')
 | eqS {neg : Bool} {t u e : TypeId} {x : Operand} {x' : A} (h : o.op = .binOp (if neg then .neq else .eql) t x (.const (.slice none 0 0)) u) (hu : P.underlying t = some (.slice e)) (hx : cA x = some x') : Cmp P o (.eqS neg x')
 | eqA {neg : Bool} {t u : TypeId} {x y : Operand} {x' y' : A} {ks : List LK} (h : o.op = .binOp (if neg then .neq else .eql) t x y u) (he : eqTy P t = some ks) (hx : cA x = some x') (hy : cA y = some y') : Cmp P o (.eqA neg ks x' y')
 | idx1 {t e : TypeId} {x i : Operand} {x' i' : A} {n : Nat} (h : o.op = .index t x i) (hx : cA x = some x') (hi : cA i = some i') (hu : P.underlying t = some (.array n e)) (ha : aggT P e = some false) (hs : (P.info? e).map (·.size) = some 1) : Cmp P o (.idx1 n x' i')
 | idxA {t e : TypeId} {x i : Operand} {x' i' : A} {n sz : Nat} (h : o.op = .index t x i) (hx : cA x = some x') (hi : cA i = some i') (hu : P.underlying t = some (.array n e)) (ha : aggT P e = some true) (hs : (P.info? e).map (·.size) = some sz) : Cmp P o (.idxA n sz x' i')
 | cap {t e : TypeId} {x : Operand} {x' : A} (h : o.op = .call { callee := .builtin .cap, args := #[x], argTypes := #[t] }) (hx : cA x = some x') (hu : P.underlying t = some (.slice e)) : Cmp P o (.cap x')
 | copyO {t t' e : TypeId} {x y : Operand} {x' y' : A} {sz : Nat} (h : o.op = .call { callee := .builtin .copy, args := #[x, y], argTypes := #[t, t'] }) (hx : cA x = some x') (hy : cA y = some y') (hu : P.underlying t = some (.slice e)) (hs : (P.info? e).map (·.size) = some sz) : Cmp P o (.copyO sz x' y')
 | appendZ {t t' e : TypeId} {kn : IntKind} {x y : Operand} {x' y' : A} {i : TypeInfo} {z : Value} (h : o.op = .call { callee := .builtin .append, args := #[x, y], argTypes := #[t, t'] }) (hx : cA x = some x') (hy : cA y = some y')
   (hu : P.underlying t = some (.slice e)) (hu' : P.underlying t' = some (.int kn)) (hi : P.info? e = some i) (hz : i.zero = some z) (hzs : z.cells.size = i.size) (hpos : 0 < i.size) : Cmp P o (.appendZ e i.size i.bytes z.cells.toList x' y')
 | clearS {t e : TypeId} {x : Operand} {x' : A} {z z' : Value} (h : o.op = .call { callee := .builtin .clear, args := #[x], argTypes := #[t] }) (hx : cA x = some x') (hu : P.underlying t = some (.slice e))
   (hz : (P.info? e).bind (·.zero) = some z) (hzc : z.cells.toList = [z']) (h1 : z'.oneCell' = true) : Cmp P o (.clearS z' x')
 | ext {f : FuncId} {args : Array Operand} {ts : Array TypeId} {args' : List A} (h : o.op = .call { callee := .value (.func f), args := args, argTypes := ts }) (ha : cAs args.toList = some args') : Cmp P o (.ext f args')

section
variable {C : Cx P} {ρ : Env} {M : PHeap} {G : Own} {K : Value → PHeap → Own → Prop} {a : Act} {w : World} {o : Oper}

abbrev Goal (C : Cx P) (K : Value → PHeap → Own → Prop) (o : Oper) (a : Act) (w : World) : Prop :=
 Does P o a.eval w fun v w' => ∃ M' G', C.St M' G' w' ∧ K v M' G'

theorem run_doV {s : Sem Value} {v : Value} {w' : World} (h : s.run P w = .ok v w') : (do pure (Next.value (← s)) : Sem Next).run P w = .ok (.value v) w' := by
 rw [run_bindOk h]; rfl

theorem run_doU {s : Sem Unit} {w' : World} (h : s.run P w = .ok () w') : (do s; pure Next.skip : Sem Next).run P w = .ok .skip w' := by
 rw [run_bindOk h]; rfl

theorem run_underlying' {t : TypeId} {d : TypeDesc} (h : P.underlying t = some d) (w : World) : (underlying t).run P w = .ok d w := by
 simp [underlying, program, Bind.bind, Sem.bind, Sem.run, h, Pure.pure]

theorem sound_bin {op : BinOp} {x y v : Value} {t : TypeId} {X Y : Operand} (h : binV op x y = some v) :
  (do eqGuard op t X Y x y; binOp op t x y : Sem Value).run P w = .ok v w := by
 have hg : (eqGuard op t X Y x y).run P w = .ok () w := by
  unfold binV at h
  split at h
  ·simp [eqGuard, Pure.pure]
  ·simp [eqGuard, Pure.pure]
  ·cases h
 rw [run_bindOk hg]
 unfold binV at h
 split at h
 ·rename_i k a k' b
  split at h
  ·rename_i hs
   unfold shV at h
   split at h
   ·cases h
   ·rename_i hb
    rcases hs with rfl | rfl <;> simp at h <;> subst h <;> simp [binOp, Op.shift, hb, Pure.pure, Sem.run]
  ·rename_i hs
   split at h
   ·rename_i hk
    subst hk
    cases op <;> simp_all [intV, binOp, Op.intArith, Op.intDiv, Op.intBits, Op.intCmp, Pure.pure, Sem.run]
    all_goals (try (obtain ⟨h1, h2⟩ := h; simp [h1, ← h2, Sem.run]))
    all_goals (try (subst h; rfl))
    all_goals (try (subst h; simp [Sem.run, BEq.beq, bne]))
   ·cases h
 ·unfold strV at h
  cases op <;> simp_all [binOp, Op.stringOp, Pure.pure, Sem.run]
 ·cases h


theorem opW_pure {v : Value} (hr : (execOp a.eval o).run P w = .ok (.value v) w) (hs : C.St M G w) (hk : K v M G) : Goal C K o a w := Does.value hr ⟨M, G, hs, hk⟩

theorem opW_eqb {neg : Bool} {t u : TypeId} {x y : Operand} {b c : Bool} (h : o.op = .binOp (if neg then .neq else .eql) t x y u) (hu : P.underlying t = some .bool) (hx : a.eval x = .bool b) (hy : a.eval y = .bool c) :
  (execOp a.eval o).run P w = .ok (.value (.bool (xor neg (b == c)))) w := by
 have hd : ∀ (d : Nat) (w : World), (Op.equalIn (d + 1) t (.bool b) (.bool c)).run P w = .ok (b == c) w := by
  intro d w
  unfold Op.equalIn
  rw [run_bindOk (run_underlying' hu w)]
  rfl
 have he : ∀ w : World, (Op.equal t (.bool b) (.bool c)).run P w = .ok (b == c) w := fun w => hd 9999 w
 simp only [execOp, h, hx, hy]
 refine run_doV (v := .bool (xor neg (b == c))) ?_
 have hg : ∀ op, (eqGuard op t x y (.bool b) (.bool c)).run P w = .ok () w := by
  intro op; cases op <;> simp [eqGuard, Pure.pure]
 rw [run_bindOk (hg _)]
 cases neg
 ·show (do pure (Value.bool (← Op.equal t (.bool b) (.bool c))) : Sem Value).run P w = _
  rw [run_bindOk (he w)]; simp [Pure.pure, Sem.run]
 ·show (do pure (Value.bool (!(← Op.equal t (.bool b) (.bool c)))) : Sem Value).run P w = _
  rw [run_bindOk (he w)]; simp [Pure.pure, Sem.run]

theorem opW_eqp {neg : Bool} {t u e : TypeId} {x : Operand} {p : Option Addr} (h : o.op = .binOp (if neg then .neq else .eql) t x (.const (.pointer none)) u) (hu : P.underlying t = some (.pointer e)) (hx : a.eval x = .pointer p) :
  (execOp a.eval o).run P w = .ok (.value (.bool (xor neg p.isNone))) w := by
 have hd : ∀ (d : Nat) (w : World), (Op.equalIn (d + 1) t (.pointer p) (.pointer none)).run P w = .ok p.isNone w := by
  intro d w
  unfold Op.equalIn
  rw [run_bindOk (run_underlying' hu w)]
  cases p <;> rfl
 have he : ∀ w : World, (Op.equal t (.pointer p) (.pointer none)).run P w = .ok p.isNone w := fun w => hd 9999 w
 have hy : a.eval (.const (.pointer none)) = .pointer none := rfl
 simp only [execOp, h, hx, hy]
 refine run_doV (v := .bool (xor neg p.isNone)) ?_
 have hg : ∀ op, (eqGuard op t x (.const (.pointer none)) (.pointer p) (.pointer none)).run P w = .ok () w := by
  intro op; cases op <;> simp [eqGuard, Pure.pure]
 rw [run_bindOk (hg _)]
 cases neg
 ·show (do pure (Value.bool (← Op.equal t (.pointer p) (.pointer none))) : Sem Value).run P w = _
  rw [run_bindOk (he w)]; simp [Pure.pure, Sem.run]
 ·show (do pure (Value.bool (!(← Op.equal t (.pointer p) (.pointer none)))) : Sem Value).run P w = _
  rw [run_bindOk (he w)]; simp [Pure.pure, Sem.run]

theorem ptr?_some {v : Value} {p : Nat × Nat} (h : ptr? v = some p) : v = pv p.1 p.2 := by
 unfold ptr? at h
 split at h
 ·simp at h; subst h; rfl
 ·cases h

theorem adr?_some {ad : Addr} {p : Nat × Nat} (h : adr? ad = some p) : ad = ⟨p.1, p.2, none⟩ := by
 unfold adr? at h
 split at h
 ·simp at h; subst h; rfl
 ·cases h

theorem sl?_some {v : Value} {s : Option Addr × Nat × Nat} (h : sl? v = some s) : v = .slice s.1 s.2.1 s.2.2 := by
 unfold sl? at h
 split at h
 ·simp at h; subst h; rfl
 ·cases h

theorem int?_some {v : Value} {n : Int} (h : int? v = some n) : ∃ k, v = .int k n := by
 unfold int? at h
 split at h
 ·simp at h; subst h; exact ⟨_, rfl⟩
 ·cases h

theorem bool?_some {v : Value} {b : Bool} (h : bool? v = some b) : v = .bool b := by
 unfold bool? at h
 split at h
 ·simp at h; subst h; rfl
 ·cases h

theorem agg?_some {v : Value} {l : List Value} (h : agg? v = some l) : v = .agg l.toArray := by
 unfold agg? at h
 split at h
 ·simp at h; subst h; simp
 ·cases h

theorem tup?_some {v : Value} {l : List Value} (h : tup? v = some l) : v = .tuple l.toArray := by
 unfold tup? at h
 split at h
 ·simp at h; subst h; simp
 ·cases h

theorem fn?_some {v : Value} {g : FuncId × Array Value × Array Value} (h : fn? v = some g) : v = .func (.func g.1) g.2.1 g.2.2 := by
 unfold fn? at h
 split at h
 ·simp at h; subst h; rfl
 ·cases h

theorem run_fieldAt {s : TypeId} {f n b off : Nat} {fs : Array Field} {fl : Field} (hu : P.underlying s = some (.struct fs)) (hf : fs[f]? = some fl) (hs : (P.info? fl.type).map (·.size) = some (n + 1)) :
  (Instr.fieldAt s (pv b off) f).run P w = .ok (pv b (off + fl.offset)) w := by
 unfold Instr.fieldAt
 rw [run_bindOk (run_underlying' hu w)]
 simp only [hf]
 rw [run_bindOk (a := ⟨b, off, none⟩) (w' := w) rfl]
 have : (fieldPlace ⟨b, off, none⟩ fl).run P w = .ok ⟨b, off + fl.offset, none⟩ w := by
  unfold fieldPlace
  rw [run_bindOk (run_sizeOf hs w)]
  simp [addr_add, Pure.pure, Sem.run]
 rw [run_bindOk this]
 rfl

theorem run_indexAtA {t e : TypeId} {b off n sz : Nat} {k : IntKind} {j : Int} (hu : P.underlying t = some (.array n e)) (hs : (P.info? e).map (·.size) = some sz) (h0 : 0 ≤ j) (h1 : j < n) :
  (Instr.indexAt t (pv b off) (.int k j)).run P w = .ok (pv b (off + j.toNat * sz)) w := by
 unfold Instr.indexAt
 rw [run_bindOk (a := (k, j)) (w' := w) rfl]
 rw [run_bindOk (run_underlying' hu w)]
 dsimp only
 try rw [run_bindOk (a := (⟨b, off, none⟩ : Addr)) (w' := w) rfl]
 rw [run_bindOk (a := (some ⟨b, off, none⟩, n, e)) (w' := w) rfl]
 dsimp only
 rw [run_bindOk (run_underlying' hu w)]
 simp only [h0, h1, and_self, if_true]
 rw [run_bindOk (run_sizeOf hs w)]
 simp [addr_add, Pure.pure, Sem.run]

theorem run_indexAtS {t e : TypeId} {b off n c sz : Nat} {k : IntKind} {j : Int} (hu : P.underlying t = some (.slice e)) (hs : (P.info? e).map (·.size) = some sz) (h0 : 0 ≤ j) (h1 : j < n) :
  (Instr.indexAt t (.slice (some ⟨b, off, none⟩) n c) (.int k j)).run P w = .ok (pv b (off + j.toNat * sz)) w := by
 unfold Instr.indexAt
 rw [run_bindOk (a := (k, j)) (w' := w) rfl]
 rw [run_bindOk (run_underlying' hu w)]
 dsimp only
 try rw [run_bindOk (a := (⟨b, off, none⟩ : Addr)) (w' := w) rfl]
 rw [run_bindOk (a := (some ⟨b, off, none⟩, n, e)) (w' := w) rfl]
 dsimp only
 rw [run_bindOk (run_underlying' hu w)]
 simp only [h0, h1, and_self, if_true]
 rw [run_bindOk (run_sizeOf hs w)]
 simp [addr_add, Pure.pure, Sem.run]

theorem run_loadA {t : TypeId} {b off sz : Nat} {cs : List Value} (ha : aggT P t = some true) (hz : (P.info? t).map (·.size) = some sz) (ag : ∀ b o, (M.add G) b o → w.heap[b]? = some o) (h : rd (M.add G) b off sz cs) :
  (Instr.loadAt t (pv b off)).run P w = .ok (.agg cs.toArray) w := by
 unfold Instr.loadAt
 rw [run_bindOk (a := ⟨b, off, none⟩) (w' := w) rfl]
 unfold loadVar
 rw [run_bindOk (run_isAgg ha w)]
 simp only [if_true]
 rw [run_bindOk (run_sizeOf hz w), run_bindOk (run_loadCells ag h)]
 rfl

theorem run_load1 {t : TypeId} {b off : Nat} {v : Value} (ha : aggT P t = some false) (ag : ∀ b o, (M.add G) b o → w.heap[b]? = some o) (h : rd (M.add G) b off 1 [v]) :
  (Instr.loadAt t (pv b off)).run P w = .ok v w := by
 unfold Instr.loadAt
 rw [run_bindOk (a := ⟨b, off, none⟩) (w' := w) rfl]
 unfold loadVar
 rw [run_bindOk (run_isAgg ha w)]
 exact run_load (rd_one ag h)

theorem run_storeAt {t : TypeId} {b off sz : Nat} {u : Value} {T : TypeId} {cs : List Value} (hz : (P.info? t).map (·.size) = some sz) (hb : w.heap[b]? = some (Cl T cs)) (hl : off + sz ≤ cs.length) (hu : u.cells.size = sz) (h1 : ok1 u.cells.toList) :
  ∃ w', (Instr.storeAt t (pv b off) u).run P w = .ok () w' ∧ w'.os = w.os ∧ Tp w' w ∧ w'.output = w.output ∧ w'.heap.size = w.heap.size ∧ (∀ k, k ≠ b → w'.heap[k]? = w.heap[k]?) ∧ w'.heap[b]? = some (Cl T (splice cs off u.cells.toList)) := by
 obtain ⟨w', hr, h⟩ := run_storeCells (P := P) (vs := u.cells.toList) hb (o := off) (by simp [hu]; omega) h1
 refine ⟨w', ?_, h⟩
 unfold Instr.storeAt
 rw [run_bindOk (a := ⟨b, off, none⟩) (w' := w) rfl]
 unfold storeVar
 rw [run_bindOk (run_sizeOf hz w)]
 simp only [hu, ne_eq, not_true_eq_false, if_false]
 exact hr

theorem run_callF {f : FuncId} (h : isGo P f = true) {first args caps : Array Value} :
  (do let d ← Deferred.ofValue (.func (.func f) first caps) args; invoke d.target d.args : Sem Next).run P w = .ok (.enter f (first ++ args ++ caps)) w := by
 rw [run_bindOk (a := { target := .fn (.func f) caps, args := first ++ args }) (w' := w) rfl]
 exact callFunc_go h _ w

end
end Go.EV

namespace Go.EV
variable {P : Program}

theorem foldl_set (off : Nat) : ∀ (vs : List Value) (j : Nat) (cells : Array Value), off + j + vs.length ≤ cells.size →
  (((vs.zipIdx j).foldl (fun (cs : Array Value) (p : Value × Nat) => cs.setIfInBounds (off + p.2) p.1) cells).toList) = splice cells.toList (off + j) vs
 | [], j, cells, _ => by simp [splice]
 | v :: vs, j, cells, h => by
  simp only [List.zipIdx_cons, List.foldl_cons]
  rw [foldl_set off vs (j + 1) _ (by simp at h ⊢; omega)]
  have hlt : off + j < cells.toList.length := by simp at h ⊢; omega
  simp only [Array.toList_setIfInBounds, splice, List.length_cons]
  rw [List.take_set, List.drop_set, if_pos (by omega)]
  have e1 : off + (j + 1) + vs.length = off + j + (vs.length + 1) := by omega
  rw [e1]
  have e2 : (List.take (off + (j + 1)) cells.toList).set (off + j) v = List.take (off + j) cells.toList ++ [v] := by
   have : off + (j + 1) = (off + j) + 1 := by omega
   have h0 : min (off + j) cells.size = off + j := by simp at hlt; omega
   rw [this, List.take_succ_eq_append_getElem hlt, List.set_append_right _ _ (by simp; omega)]
   simp [h0]
  rw [e2]
  simp

theorem fill_fillL (place : Nat → Option (Nat × Nat)) : ∀ (l : List (Nat × Value)) (ps : List (Nat × Nat × Value)) (cells : Array Value) (out : List Value),
  l.map (fun p => (place p.1).map fun q => (q.1, q.2, p.2)) = ps.map some → fillL cells.toList ps = some out → Instr.fill place cells l = some out.toArray
 | [], ps, cells, out, hl, h => by
  cases ps with
  | nil => simp [fillL] at h; subst h; simp [Instr.fill]
  | cons p ps => simp at hl
 | (i, v) :: l, ps, cells, out, hl, h => by
  cases ps with
  | nil => simp at hl
  | cons p ps =>
   obtain ⟨off, sz, u⟩ := p
   simp only [List.map_cons, List.cons.injEq] at hl
   obtain ⟨h1, h2⟩ := hl
   cases hp : place i with
   | none => simp [hp] at h1
   | some q =>
    obtain ⟨q1, q2⟩ := q
    simp [hp] at h1
    obtain ⟨rfl, rfl, rfl⟩ := h1
    simp only [fillL] at h
    split at h
    ·rename_i hc
     obtain ⟨hc1, hc2⟩ := hc
     simp only [Instr.fill, hp]
     have hc2' : ¬ (q1 + v.cells.size > cells.size) := by rw [hc1]; simpa using hc2
     simp only [hc1, ne_eq, not_true_eq_false, decide_false, Bool.false_or]
     rw [if_neg (by rw [← hc1]; simpa using hc2')]
     refine fill_fillL place l ps _ out h2 ?_
     have := foldl_set q1 v.cells.toList 0 cells (by simp; rw [hc1]; simpa using hc2)
     have e : (v.cells.zipIdx.foldl (fun (cs : Array Value) (x : Value × Nat) => match x with | (c, j) => cs.setIfInBounds (q1 + j) c) cells) = ((v.cells.toList.zipIdx 0).foldl (fun (cs : Array Value) (p : Value × Nat) => cs.setIfInBounds (q1 + p.2) p.1) cells) := by
      rw [← Array.foldl_toList]
      simp
     rw [e, this]
     simpa using h
    ·cases h


section
variable {C : Cx P} {ρ : Env} {M : PHeap} {G : Own} {K : Value → PHeap → Own → Prop} {a : Act} {w : World} {o : Oper}

theorem resPs_eval {fs : Array Field} (hf : Fits C.nt ρ a) : ∀ {l : List (Nat × Operand)} {ps : List (Nat × Nat × A)}, resPs P fs l = some ps → ∀ {qs : List (Nat × Nat × Value)}, evp ρ ps = some qs →
  ∀ {places : List (Nat × Nat)}, fs.toList.mapM (fun f => (P.info? f.type).map fun i => (f.offset, i.size)) = some places →
  (l.map fun p => (p.1, a.eval p.2)).map (fun p => (places.toArray[p.1]?).map fun q => (q.1, q.2, p.2)) = qs.map some
 | [], ps, h, qs, hq, places, hp => by simp [resPs] at h; subst h; simp [evp] at hq; subst hq; rfl
 | (i, x) :: l, ps, h, qs, hq, places, hp => by
  simp only [resPs] at h
  cases h1 : fs[i]? with
  | none => simp [h1] at h
  | some f =>
   cases h2 : P.info? f.type with
   | none => simp [h1, h2] at h
   | some t =>
    cases h3 : cA x with
    | none => simp [h1, h2, h3] at h
    | some x' =>
     cases h4 : resPs P fs l with
     | none => simp [h1, h2, h3, h4] at h
     | some l' =>
      simp [h1, h2, h3, h4] at h
      subst h
      simp only [evp] at hq
      cases h5 : ev ρ x' with
      | none => simp [h5] at hq
      | some v =>
       cases h6 : evp ρ l' with
       | none => simp [h5, h6] at hq
       | some vs =>
        simp [h5, h6] at hq
        subst hq
        have hpl : places[i]? = some (f.offset, t.size) := by
         have hlen : ∀ (fl : List Field) (pl : List (Nat × Nat)), fl.mapM (fun f => (P.info? f.type).map fun i => (f.offset, i.size)) = some pl → ∀ (j : Nat) (g : Field), fl[j]? = some g → pl[j]? = (P.info? g.type).map fun i => (g.offset, i.size) := by
          intro fl
          induction fl with
          | nil => intro pl _ j g hg; simp at hg
          | cons f0 fl ih =>
           intro pl hpl j g hg
           simp only [List.mapM_cons, Option.bind_eq_bind, Option.pure_def] at hpl
           cases q1 : P.info? f0.type with
           | none => simp [q1] at hpl
           | some i0 =>
            cases q2 : fl.mapM (fun f => (P.info? f.type).map fun i => (f.offset, i.size)) with
            | none => simp [q1, q2] at hpl
            | some rest =>
             simp [q1, q2] at hpl
             subst hpl
             cases j with
             | zero => simp at hg; subst hg; simp [q1]
             | succ j => simp at hg; simpa using ih rest q2 j g hg
         have := hlen _ _ hp i f (by simpa using h1)
         rw [this, h2]; rfl
        simp only [List.map_cons, List.getElem?_toArray, hpl, Option.map_some]
        rw [eval_cA hf h3 h5, ← resPs_eval hf h4 h6 hp]
        simp

theorem resPa_eval {sz : Nat} (hf : Fits C.nt ρ a) : ∀ {l : List (Nat × Operand)} {ps : List (Nat × Nat × A)}, resPa sz l = some ps → ∀ {qs : List (Nat × Nat × Value)}, evp ρ ps = some qs →
  (l.map fun p => (p.1, a.eval p.2)).map (fun p => ((fun i => some (i * sz, sz)) p.1 : Option (Nat × Nat)).map fun q => (q.1, q.2, p.2)) = qs.map some
 | [], ps, h, qs, hq => by simp [resPa] at h; subst h; simp [evp] at hq; subst hq; rfl
 | (i, x) :: l, ps, h, qs, hq => by
  simp only [resPa] at h
  cases h3 : cA x with
  | none => simp [h3] at h
  | some x' =>
   cases h4 : resPa sz l with
   | none => simp [h3, h4] at h
   | some l' =>
    simp [h3, h4] at h
    subst h
    simp only [evp] at hq
    cases h5 : ev ρ x' with
    | none => simp [h5] at hq
    | some v =>
     cases h6 : evp ρ l' with
     | none => simp [h5, h6] at hq
     | some vs =>
      simp [h5, h6] at hq
      subst hq
      have := resPa_eval (sz := sz) hf h4 h6
      simp only [List.map_cons, Option.map_some, eval_cA hf h3 h5] at this ⊢
      rw [← this]

theorem run_buildS {t : TypeId} {parts : Array (Nat × Operand)} {ps : List (Nat × Nat × A)} {z : Value} {fs : Array Field} {qs : List (Nat × Nat × Value)} {cs : List Value} (hf : Fits C.nt ρ a) (hu : P.underlying t = some (.struct fs)) (hz : (P.info? t).bind (·.zero) = some z)
  (hp : resPs P fs parts.toList = some ps) (hall : (fs.all fun f => (P.info? f.type).isSome) = true) (he : evp ρ ps = some qs) (hl : fillL z.cells.toList qs = some cs) :
  (Instr.build t (parts.map fun (i, x) => (i, a.eval x))).run P w = .ok (.agg cs.toArray) w := by
 refine run_build w t _ _ ?_
 unfold Program.built
 cases hit : P.info? t with
 | none => simp [hit] at hz
 | some it =>
  simp [hit] at hz
  have hall' : ∀ f ∈ fs.toList, ∃ i, P.info? f.type = some i := by
   intro f hf'
   have := Array.all_eq_true'.1 hall f (by simpa using hf')
   exact Option.isSome_iff_exists.1 this
  have hm : ∃ places, fs.toList.mapM (fun f => (P.info? f.type).map fun i => (f.offset, i.size)) = some places := by
   revert hall'
   generalize fs.toList = fl
   intro hall'
   induction fl with
   | nil => exact ⟨[], by simp⟩
   | cons f0 fl ih =>
    obtain ⟨i0, h0⟩ := hall' f0 (by simp)
    obtain ⟨pl, hpl⟩ := ih (fun f hf' => hall' f (by simp [hf']))
    exact ⟨(f0.offset, i0.size) :: pl, by simp [List.mapM_cons, h0, hpl]⟩
  obtain ⟨places, hm⟩ := hm
  simp only [hu, hz, hm]
  refine fill_fillL _ _ qs _ _ ?_ hl
  have := resPs_eval hf hp he hm
  simpa using this

theorem run_buildA {t e : TypeId} {n sz : Nat} {parts : Array (Nat × Operand)} {ps : List (Nat × Nat × A)} {z : Value} {qs : List (Nat × Nat × Value)} {cs : List Value} (hf : Fits C.nt ρ a) (hu : P.underlying t = some (.array n e)) (hz : (P.info? t).bind (·.zero) = some z)
  (hs : (P.info? e).map (·.size) = some sz) (hp : resPa sz parts.toList = some ps) (he : evp ρ ps = some qs) (hl : fillL z.cells.toList qs = some cs) :
  (Instr.build t (parts.map fun (i, x) => (i, a.eval x))).run P w = .ok (.agg cs.toArray) w := by
 refine run_build w t _ _ ?_
 unfold Program.built
 cases hit : P.info? t with
 | none => simp [hit] at hz
 | some it =>
  simp [hit] at hz
  cases hie : P.info? e with
  | none => simp [hie] at hs
  | some ie =>
   simp [hie] at hs
   simp only [hu, hz, hie, hs]
   refine fill_fillL _ _ qs _ _ ?_ hl
   have := resPa_eval (sz := sz) hf hp he
   simpa using this


theorem cyc (z : Array Value) : ∀ n : Nat, ((Array.range (n * z.size)).map fun i => z[i % z.size]!).toList = (List.replicate n z.toList).flatten
 | 0 => by simp
 | n + 1 => by
  have ih := cyc z n
  simp only [Array.toList_map, Array.toList_range] at ih ⊢
  rw [Nat.add_mul, Nat.one_mul, List.range_add, List.map_append, ih, List.replicate_succ', List.flatten_append]
  congr 1
  simp only [List.map_map, List.flatten_cons, List.flatten_nil, List.append_nil]
  apply List.ext_getElem (by simp)
  intro j h1 h2
  have h3 : j < z.size := by simpa using h2
  have h4 : (n * z.size + j) % z.size = j := by
   rw [Nat.add_comm, Nat.mul_comm, Nat.add_mul_mod_self_left, Nat.mod_eq_of_lt h3]
  simp [h4, h3]

theorem run_buildSl {t e : TypeId} {n sz : Nat} {parts : Array (Nat × Operand)} {ps : List (Nat × Nat × A)} {z : Value} {qs : List (Nat × Nat × Value)} {cs : List Value} (hf : Fits C.nt ρ a) (hu : P.underlying t = some (.slice e)) (hz : (P.info? e).bind (·.zero) = some z)
  (hs : (P.info? e).map (·.size) = some sz) (hzs : z.cells.size = sz) (hn : n * sz ≤ 2 ^ 24) (hp : resPa sz parts.toList = some ps) (he : evp ρ ps = some qs) (hl : fillL (List.replicate n z.cells.toList).flatten qs = some cs) :
  (Instr.buildSlice t n (parts.map fun (i, x) => (i, a.eval x))).run P w = .ok (.slice (some ⟨w.heap.size, 0, none⟩) n n) (w.alloc (Cl e cs)) := by
 have hfill : Instr.fill (fun i => some (i * sz, sz)) ((Array.range (n * sz)).map (z.cells[· % z.cells.size]!)) ((parts.map fun (i, x) => (i, a.eval x)).toList) = some cs.toArray := by
  refine fill_fillL _ _ qs _ _ ?_ ?_
  ·have := resPa_eval (sz := sz) hf hp he
   simpa using this
  ·have := cyc z.cells n
   rw [hzs] at this ⊢
   rw [this]; exact hl
 unfold Instr.buildSlice
 rw [run_bindOk (run_underlying' hu w)]
 dsimp only
 rw [run_bindOk (run_sizeOf hs w)]
 rw [if_neg (by omega)]
 have hzero : (if n * sz = 0 then pure #[] else do pure (← zeroValue e).cells : Sem (Array Value)).run P w = .ok (if n * sz = 0 then #[] else z.cells) w := by
  split
  ·rfl
  ·rw [run_bindOk (run_zero hz w)]; rfl
 by_cases h0 : n * sz = 0
 ·simp only [h0, if_true] at hzero ⊢
  rw [run_bindOk (a := #[]) (w' := w) rfl]
  have hfill' : Instr.fill (fun i => some (i * sz, sz)) ((Array.range 0).map ((#[] : Array Value)[· % (#[] : Array Value).size]!)) ((parts.map fun (i, x) => (i, a.eval x)).toList) = some cs.toArray := by
   rw [h0] at hfill
   rw [show (Array.range 0).map ((#[] : Array Value)[· % (#[] : Array Value).size]!) = (Array.range 0).map (z.cells[· % z.cells.size]!) from by apply Array.ext <;> simp]
   exact hfill
  simp only [hfill']
  rfl
 ·simp only [h0, if_false] at hzero ⊢
  rw [run_bindOk (run_zero hz w), run_bindOk (a := z.cells) (w' := w) rfl]
  simp only [hfill]
  rfl

theorem rdS_cells {H : PHeap} (ag : ∀ b o, H b o → w.heap[b]? = some o) {sz n : Nat} {ad : Addr} {cs : List Value} (h : rdS H sz (some ad) n cs) :
  cs.length = n * sz ∧ ∀ j u, cs[j]? = some u → w.cell? (ad.add j) = some u := by
 rcases h with ⟨h0, rfl⟩ | ⟨b, off, he, c, T, fz, h1, h2, h3⟩
 ·exact ⟨by simp [h0], fun j u hj => by simp at hj⟩
 ·simp at he; subst he
  refine ⟨by rw [h3]; simp; omega, ?_⟩
  intro j u hj
  rw [addr_add, cell_of_block (ag _ _ h1)]
  rw [h3, List.getElem?_take] at hj
  split at hj
  ·simpa using hj
  ·cases hj


theorem St_grow {w0 : World} {F : List Nat} {M0 : PHeap} (hs : EV.St w0 F M0 M G w) {R G' : Own} (hp : G.Perm (R ++ G')) (ob : Obj) : EV.St w0 F M0 M ((w.heap.size, ob) :: G') (w.drew.alloc ob) := by
 have h1 : EV.St w0 F M0 M G w.drew := hs.drew (w.drawn + 1) (Nat.le_succ _)
 have h2 := h1.alloc ob
 refine (h2.perm (List.Perm.cons _ hp)).weaken ?_
 exact List.Sublist.cons_cons _ (List.sublist_append_right _ _)

theorem toArr3 (a b : List Value) (c : Array Value) : a.toArray ++ b.toArray ++ c = (a ++ b ++ c.toList).toArray := by
 apply Array.ext'; simp

theorem len_zeroCells (z : Array Value) (n : Nat) : (Builtin.zeroCells z n).toList.length = n * z.size := by simp [Builtin.zeroCells]

theorem opW_append0 {t e : TypeId} {x y : Operand} {i : TypeInfo} {z : Value} {x' y' : A} (h : o.op = .call { callee := .builtin .append, args := #[x, y], argTypes := #[t, t] }) (hx : cA x = some x') (hy : cA y = some y')
  (hu : P.underlying t = some (.slice e)) (hi : P.info? e = some i) (hz : i.zero = some z) (hzs : z.cells.size = i.size) (hpos : 0 < i.size)
  (hf : Fits C.nt ρ a) (hs : C.St M G w) (hw : appW0 ρ M G K e i.size i.bytes x' y') : Goal C K o a w := by
 unfold appW0 at hw
 obtain ⟨vx, hvx, hw⟩ := onv_iff.1 hw
 obtain ⟨vy, hvy, hw⟩ := onv_iff.1 hw
 obtain ⟨s, hsl, news, hnews, hok, hw⟩ := onv_iff.1 hw
 obtain ⟨sa, m, sc⟩ := s
 have ey := sl?_some hsl
 dsimp only at ey hnews hw
 have evx := eval_cA hf hx hvx
 have evy := eval_cA hf hy hvy
 have ag : ∀ b ob, (M.add G) b ob → w.heap[b]? = some ob := fun b ob hb => hs.agreeAdd hb
 have key : ∀ v w', (Builtin.append_ #[t, t] o.type #[vx, vy]).run P w = .ok v w' → (∃ M' G', C.St M' G' w' ∧ K v M' G') → Goal C K o a w := by
  intro v w' hr hk
  refine Does.value (v := v) (w' := w') ?_ hk
  simp only [execOp, h]
  have hres : ∃ cs, (resolve a.eval { callee := .builtin .append, args := #[x, y], argTypes := #[t, t] } o.type).run P w = .ok { target := .builtin .append #[t, t] o.type cs, args := #[a.eval x, a.eval y] } w :=
   ⟨_, by simp [resolve, Pure.pure, Sem.run]; rfl⟩
  obtain ⟨cs, hres⟩ := hres
  rw [run_bindOk hres]
  rw [evx, evy]
  exact run_doV hr
 have none_src : sa = none → m = 0 ∧ news = [] := by
  intro e0
  subst e0
  rcases hnews with ⟨h0, hn⟩ | ⟨b, off, he, _⟩
  ·rcases Nat.mul_eq_zero.1 h0 with h1 | h1
   ·exact ⟨h1, hn⟩
   ·omega
  ·cases he
 rcases hw with ⟨ov, n, xs, G', rfl, hov, hp, hmax, hby, hk⟩ | ⟨xa, n, c, xs, rfl, hxs, hm, hc, hmax, hby, hk⟩
 ·cases hsa : sa with
  | none =>
   obtain ⟨rfl, rfl⟩ := none_src hsa
   subst hsa
   subst ey
   refine key (osv ov n) w ?_ ⟨M, osg e ov (xs ++ []) ++ G', ?_, ?_⟩
   ·cases ov with
    | none => simp [osok] at hov; simp [osv, oad, ocap, hov, Builtin.append_, run_underlying hu, sizeOf, typeInfo, hi, Builtin.lenOf, Builtin.firstCells, loadCells, loadCellsFrom]
    | some p =>
     obtain ⟨g, cap, sp⟩ := p
     simp only [osok] at hov
     simp [osv, oad, ocap, Builtin.append_, run_underlying hu, sizeOf, typeInfo, hi, Builtin.lenOf, Builtin.firstCells, hov.2.2.1, storeCells]
   ·simpa using hs.perm hp
   ·exact hk ov (by simpa using hov) (by simp)
  | some ad =>
   subst hsa
   subst ey
   obtain ⟨hnl, hnc⟩ := rdS_cells ag hnews
   cases ov with
   | none =>
    simp only [osok] at hov
    obtain ⟨rfl, rfl⟩ := hov
    by_cases hm : m = 0
    ·subst hm
     have hn0 : news = [] := List.eq_nil_of_length_eq_zero (by simpa using hnl)
     subst hn0
     refine key (.slice none 0 0) w ?_ ⟨M, G', by simpa [osg] using hs.perm hp, ?_⟩
     ·simp [osv, oad, ocap, Builtin.append_, run_underlying hu, sizeOf, typeInfo, hi, Builtin.lenOf, Builtin.firstCells, loadCells, loadCellsFrom]
     ·have := hk none (by simp [osok]) (by simp)
      simpa [osv, oad, ocap, osg] using this
    ·have hr := run_append_nil (P := P) w t o.type e i z hu hi hz ad m sc news hnl hnc (by omega) (by simp [maxLen] at hmax; omega) (by simp at hby; omega)
     refine key _ _ hr ⟨M, _, St_grow hs hp _, ?_⟩
     have hge : m ≤ grownCap w m 0 e := grownCap_ge w m 0 e
     have hcm := grownCap_le_maxLen w m 0 e (by simpa using hmax)
     have hlen : (news ++ (Builtin.zeroCells z.cells (grownCap w m 0 e - m)).toList).length = grownCap w m 0 e * i.size := by
      rw [List.length_append, hnl, len_zeroCells, hzs, ← Nat.add_mul]; congr 1; omega
     have := hk (some (w.heap.size, grownCap w m 0 e, (Builtin.zeroCells z.cells (grownCap w m 0 e - m)).toList)) (by
      simp only [osok, Nat.zero_add, List.nil_append]
      exact ⟨hnl, hlen, hge, hcm⟩) (by simp [hm])
     simp only [osv, oad, ocap, osg, Nat.zero_add, List.nil_append, List.singleton_append] at this
     rw [show news.toArray ++ Builtin.zeroCells z.cells (grownCap w m 0 e - m) = (news ++ (Builtin.zeroCells z.cells (grownCap w m 0 e - m)).toList).toArray from by apply Array.ext'; simp]
     exact this
   | some p =>
    obtain ⟨g, cap, sp⟩ := p
    simp only [osok] at hov
    obtain ⟨h1, h2, h3, h4⟩ := hov
    simp only [osg, List.singleton_append] at hp
    have hs' := hs.perm hp
    have hg : w.heap[g]? = some (Cl e (xs ++ sp)) := hs'.own (g, _) (by simp)
    by_cases hroom : n + m ≤ cap
    ·have hfit : n * i.size + news.length ≤ (xs ++ sp).toArray.size := by
      simp only [List.size_toArray]
      rw [h2, hnl, ← Nat.add_mul]; exact Nat.mul_le_mul_right _ hroom
     have hr := run_append_room (P := P) w t o.type e i hu hi g n cap (xs ++ sp).toArray hg ad m sc news hnl hnc hok hroom hfit
     have hcont : ((xs ++ sp).toArray.toList.take (n * i.size) ++ news ++ (xs ++ sp).toArray.toList.drop (n * i.size + news.length)) = (xs ++ news) ++ sp.drop news.length := by
      simp only [← h1, List.take_left, List.append_assoc]
      rw [List.drop_append]
      simp
     rw [hcont] at hr
     have hput := hs'.put (w' := w.setRow g ((xs ++ news) ++ sp.drop news.length).toArray) (i := 0) (b := g) (o := Cl e (xs ++ sp)) (o' := Cl e ((xs ++ news) ++ sp.drop news.length)) rfl rfl ⟨rfl, Nat.le_refl _⟩ rfl (by simp) (fun k hk => setRow_other w g k _ hk) (setRow_heap w g _ _ e _ hg)
     refine key _ _ hr ⟨M, _, hput, ?_⟩
     have hsl2 : news.length ≤ sp.length := by
      simp only [List.length_append] at h2
      have : (n + m) * i.size ≤ cap * i.size := Nat.mul_le_mul_right _ hroom
      rw [Nat.add_mul] at this
      omega
     have := hk (some (g, cap, sp.drop news.length)) (by
      simp only [osok]
      refine ⟨by rw [List.length_append, h1, hnl, Nat.add_mul], ?_, hroom, h4⟩
      simp only [List.length_append, List.length_drop] at h2 ⊢
      omega) (by simp)
     simpa [osv, oad, ocap, osg] using this
    ·have hfitc : Builtin.nextslicecap (n + m) cap * i.bytes ≤ 281474976710656 := growslice_fits (by omega) hby
     have holds : ∀ j v, xs[j]? = some v → w.cell? ((⟨g, 0, none⟩ : Addr).add j) = some v := by
      intro j v hj
      rw [addr_add, cell_of_block hg]
      obtain ⟨hlt, he⟩ := List.getElem?_eq_some_iff.1 hj
      simp [List.getElem?_append_left hlt, hj]
     have hr := run_append_grow (P := P) w t o.type e i z hu hi hz ⟨g, 0, none⟩ n cap xs h1 holds ad m sc news hnl hnc (by omega) (by simp [maxLen] at hmax; omega) hfitc
     refine key _ _ hr ⟨M, _, St_grow hs (R := [(g, Cl e (xs ++ sp))]) (by simpa using hp) _, ?_⟩
     have hge : n + m ≤ grownCap w (n + m) cap e := grownCap_ge w (n + m) cap e
     have hcm := grownCap_le_maxLen w (n + m) cap e hmax
     have := hk (some (w.heap.size, grownCap w (n + m) cap e, (Builtin.zeroCells z.cells (grownCap w (n + m) cap e - (n + m))).toList)) (by
      simp only [osok]
      refine ⟨by rw [List.length_append, h1, hnl, Nat.add_mul], ?_, hge, hcm⟩
      simp only [List.length_append, h1, hnl, len_zeroCells, hzs, ← Nat.add_mul]; congr 1; omega) (by simp)
     simp only [osv, oad, ocap, osg, List.singleton_append] at this
     rw [toArr3]
     exact this
 ·cases hsa : sa with
  | none => obtain ⟨h0, _⟩ := none_src hsa; omega
  | some ad =>
   subst hsa
   subst ey
   obtain ⟨hnl, hnc⟩ := rdS_cells ag hnews
   have hfitc : Builtin.nextslicecap (n + m) c * i.bytes ≤ 281474976710656 := growslice_fits (by omega) hby
   cases hxa : xa with
   | none =>
    subst hxa
    have hn0 : n = 0 ∧ xs = [] := by
     rcases hxs with ⟨h0, hn⟩ | ⟨b, off, he, _⟩
     ·rcases Nat.mul_eq_zero.1 h0 with h1 | h1
      ·exact ⟨h1, hn⟩
      ·omega
     ·cases he
    obtain ⟨rfl, rfl⟩ := hn0
    -- a nil slice of no room
    have hf' := run_firstCells_some (P := P) w.drew i.size m ad m sc news hnl (by simpa using hnc)
    have hr : (Builtin.append_ #[t, t] o.type #[.slice none 0 c, .slice (some ad) m sc]).run P w =
      .ok (.slice (some ⟨w.heap.size, 0, none⟩) m (grownCap w m c e)) (w.drew.alloc (.cells (news.toArray ++ Builtin.zeroCells z.cells (grownCap w m c e - m)) e)) := by
     have q1 : ¬ m ≤ c := by omega
     have q2 : ¬ (9223372036854775807 < (m : Int)) := by simp [maxLen] at hmax; omega
     have q3 : ¬ (281474976710656 < Builtin.nextslicecap m c * i.bytes) := by simp at hfitc; omega
     simp [Builtin.append_, run_underlying hu, sizeOf, typeInfo, zeroValue, hi, hz, Builtin.lenOf, q1, q2, q3, Question.forced, run_firstCells_none, hf', newRow, grownCap]
    refine key _ _ hr ⟨M, _, St_grow hs (R := []) (List.Perm.refl _) _, ?_⟩
    have hge : m ≤ grownCap w m c e := grownCap_ge w m c e
    have hcm := grownCap_le_maxLen w m c e (by simpa using hmax)
    have := hk w.heap.size (grownCap w m c e) (Builtin.zeroCells z.cells (grownCap w m c e - m)).toList (by
     simp only [osok, Nat.zero_add, List.nil_append]
     refine ⟨hnl, ?_, hge, hcm⟩
     rw [List.length_append, hnl, len_zeroCells, hzs, ← Nat.add_mul]; congr 1; omega)
    simp only [osv, oad, ocap, osg, Nat.zero_add, List.nil_append, List.singleton_append] at this
    rw [show news.toArray ++ Builtin.zeroCells z.cells (grownCap w m c e - m) = (news ++ (Builtin.zeroCells z.cells (grownCap w m c e - m)).toList).toArray from by apply Array.ext'; simp]
    exact this
   | some xad =>
    subst hxa
    obtain ⟨hol, hoc⟩ := rdS_cells ag hxs
    have hr := run_append_grow (P := P) w t o.type e i z hu hi hz xad n c xs hol hoc ad m sc news hnl hnc (by omega) (by simp [maxLen] at hmax; omega) hfitc
    refine key _ _ hr ⟨M, _, St_grow hs (R := []) (List.Perm.refl _) _, ?_⟩
    have hge : n + m ≤ grownCap w (n + m) c e := grownCap_ge w (n + m) c e
    have hcm := grownCap_le_maxLen w (n + m) c e hmax
    have := hk w.heap.size (grownCap w (n + m) c e) (Builtin.zeroCells z.cells (grownCap w (n + m) c e - (n + m))).toList (by
     simp only [osok]
     refine ⟨by rw [List.length_append, hol, hnl, Nat.add_mul], ?_, hge, hcm⟩
     simp only [List.length_append, hol, hnl, len_zeroCells, hzs, ← Nat.add_mul]; congr 1; omega)
    simp only [osv, oad, ocap, osg, List.singleton_append] at this
    rw [toArr3]
    exact this


theorem run_bound {v : Value} {n y : Nat} {c : BoundsCode} (h : int? v = some (n : Int)) (hn : n ≤ y) (w : World) : (Instr.sliceBound v y c).run P w = .ok n w := by
 obtain ⟨k, rfl⟩ := int?_some h
 unfold Instr.sliceBound
 rw [run_bindOk (a := (k, (n : Int))) (w' := w) rfl]
 simp [hn, Pure.pure, Sem.run]

theorem run_bounds {isS : Bool} {len cap l h m : Nat} {lo hi mx : Option Value} (h1 : match lo with | none => l = 0 | some v => int? v = some (l : Int)) (h2 : match hi with | none => h = len | some v => int? v = some (h : Int))
  (h3 : match mx with | none => m = cap | some v => int? v = some (m : Int)) (hlh : l ≤ h) (hhm : h ≤ m) (hmc : m ≤ cap) (hx : hi.isSome = true ∨ mx.isNone = true) (w : World) :
  (Instr.sliceBounds isS len cap lo hi mx).run P w = .ok (l, h, m) w := by
 have e1 : (match mx with
  | some v => Instr.sliceBound v cap (if isS then .slice3Acap else .slice3Alen)
  | none => pure cap : Sem Nat).run P w = .ok m w := by
  cases mx with
  | none => simp at h3; subst h3; rfl
  | some v => exact run_bound h3 hmc w
 have e2 : (match hi, mx with
  | some v, some _ => Instr.sliceBound v m .slice3B
  | some v, none => Instr.sliceBound v m (if isS then .sliceAcap else .sliceAlen)
  | none, none => pure len
  | none, some _ => stuck "Slice: max without high" : Sem Nat).run P w = .ok h w := by
  cases hi with
  | none =>
   cases mx with
   | none => simp at h2; subst h2; rfl
   | some v => simp at hx
  | some v => cases mx with
   | none => exact run_bound h2 hhm w
   | some u => exact run_bound h2 hhm w
 have e3 : (match lo with
  | some v => Instr.sliceBound v h (if mx.isSome then .slice3C else .sliceB)
  | none => pure 0 : Sem Nat).run P w = .ok l w := by
  cases lo with
  | none => simp at h1; subst h1; rfl
  | some v => exact run_bound h1 hlh w
 unfold Instr.sliceBounds
 cases mx with
 | none =>
  cases hi with
  | none =>
   cases lo with
   | none => simp at h1 h2 h3; subst h1 h2 h3; rfl
   | some u =>
    dsimp only at e1 e2 e3 ⊢
    rw [run_bindOk e1]; (try dsimp only); rw [run_bindOk e2, run_bindOk e3]; rfl
  | some v =>
   cases lo with
   | none =>
    dsimp only at e1 e2 e3 ⊢
    rw [run_bindOk e1]; (try dsimp only); rw [run_bindOk e2, run_bindOk e3]; rfl
   | some u =>
    dsimp only at e1 e2 e3 ⊢
    rw [run_bindOk e1]; (try dsimp only); rw [run_bindOk e2, run_bindOk e3]; rfl
 | some x =>
  cases hi with
  | none => simp at hx
  | some v =>
   cases lo with
   | none =>
    dsimp only at e1 e2 e3 ⊢
    rw [run_bindOk e1]; (try dsimp only); rw [run_bindOk e2, run_bindOk e3]; rfl
   | some u =>
    dsimp only at e1 e2 e3 ⊢
    rw [run_bindOk e1]; (try dsimp only); rw [run_bindOk e2, run_bindOk e3]; rfl

theorem eval_cAo (hf : Fits C.nt ρ a) {x : Option Operand} {x' : Option A} (hx : cAo x = some x') {v : Option Value} (hv : evo ρ x' = some v) : x.map a.eval = v := by
 cases x with
 | none => simp [cAo] at hx; subst hx; simp [evo] at hv; subst hv; rfl
 | some y =>
  simp only [cAo] at hx
  cases hy : cA y with
  | none => simp [hy] at hx
  | some y' =>
   simp [hy] at hx; subst hx
   simp only [evo] at hv
   cases he : ev ρ y' with
   | none => simp [he] at hv
   | some u => simp [he] at hv; subst hv; simp [eval_cA hf hy he]

theorem opW_slS {t e : TypeId} {x : Operand} {x' : A} {lo hi mx : Option Operand} {lo' hi' mx' : Option A} {sz : Nat} (h : o.op = .slice t x lo hi mx) (hx : cA x = some x') (hlo : cAo lo = some lo') (hhi : cAo hi = some hi') (hmx : cAo mx = some mx')
  (hu : P.underlying t = some (.slice e)) (hsz : (P.info? e).map (·.size) = some sz) (hf : Fits C.nt ρ a) (hs : C.St M G w) (hw : opW C ρ M G K (.slS sz x' lo' hi' mx')) : Goal C K o a w := by
 simp only [opW] at hw
 obtain ⟨vx, hvx, hw⟩ := onv_iff.1 hw
 obtain ⟨vlo, hvlo, hw⟩ := onv_iff.1 hw
 obtain ⟨vhi, hvhi, hw⟩ := onv_iff.1 hw
 obtain ⟨vmx, hvmx, hw⟩ := onv_iff.1 hw
 obtain ⟨s, hsl, l, hh, m, h1, h2, h3, h4, h5, h6, h7, hk⟩ := onv_iff.1 hw
 obtain ⟨sa, n, c⟩ := s
 have ey := sl?_some hsl
 dsimp only at ey h2 h3 h6 hk
 subst ey
 refine Does.value (w' := w) ?_ ⟨M, G, hs, hk⟩
 simp only [execOp, h, eval_cA hf hx hvx, eval_cAo hf hlo hvlo, eval_cAo hf hhi hvhi, eval_cAo hf hmx hvmx]
 refine run_doV ?_
 unfold Instr.sliceAt
 rw [run_bindOk (run_underlying' hu w)]
 dsimp only
 unfold Instr.slice
 rw [run_bindOk (run_underlying' hu w)]
 dsimp only
 rw [run_bindOk (run_bounds h1 h2 h3 h4 h5 h6 h7 w)]
 dsimp only
 rw [run_bindOk (run_sizeOf hsz w)]
 rfl

theorem opW_slA {t e : TypeId} {x : Operand} {x' : A} {lo hi : Option Operand} {lo' hi' : Option A} {n sz : Nat} (h : o.op = .slice t x lo hi none) (hx : cA x = some x') (hlo : cAo lo = some lo') (hhi : cAo hi = some hi')
  (hu : P.underlying t = some (.array n e)) (hsz : (P.info? e).map (·.size) = some sz) (hf : Fits C.nt ρ a) (hs : C.St M G w) (hw : opW C ρ M G K (.slA n sz x' lo' hi')) : Goal C K o a w := by
 simp only [opW] at hw
 obtain ⟨vx, hvx, hw⟩ := onv_iff.1 hw
 obtain ⟨vlo, hvlo, hw⟩ := onv_iff.1 hw
 obtain ⟨vhi, hvhi, hw⟩ := onv_iff.1 hw
 obtain ⟨p, hp, l, hh, h1, h2, h4, h5, hk⟩ := onv_iff.1 hw
 have ep := ptr?_some hp
 subst ep
 refine Does.value (w' := w) ?_ ⟨M, G, hs, hk⟩
 simp only [execOp, h, eval_cA hf hx hvx, eval_cAo hf hlo hvlo, eval_cAo hf hhi hvhi, Option.map_none]
 refine run_doV ?_
 unfold Instr.sliceAt
 rw [run_bindOk (run_underlying' hu w)]
 dsimp only
 rw [run_bindOk (a := ⟨p.1, p.2, none⟩) (w' := w) rfl]
 rw [run_bindOk (run_bounds (isS := false) (mx := none) (m := n) (cap := n) h1 h2 rfl h4 h5 (Nat.le_refl _) (.inr rfl) w)]
 dsimp only
 rw [run_bindOk (run_sizeOf hsz w)]
 by_cases hnl : n = l
 ·simp [hnl, Pure.pure, Sem.run]
 ·simp [hnl, addr_add, Pure.pure, Sem.run]

theorem opW_append {t e : TypeId} {x y : Operand} {i : TypeInfo} {z : Value} {x' y' : A} (h : o.op = .call { callee := .builtin .append, args := #[x, y], argTypes := #[t, t] }) (hx : cA x = some x') (hy : cA y = some y')
  (hu : P.underlying t = some (.slice e)) (hi : P.info? e = some i) (hz : i.zero = some z) (hzs : z.cells.size = i.size) (hpos : 0 < i.size)
  (hf : Fits C.nt ρ a) (hs : C.St M G w) (hw : opW C ρ M G K (.append e i.size i.bytes z.cells.toList x' y')) : Goal C K o a w := by
 have h0 : Goal C (fun v M G => ∃ G2, G.Perm G2 ∧ K v M G2) o a w := by
  refine opW_append0 h hx hy hu hi hz hzs hpos hf hs ?_
  simp only [opW] at hw
  unfold appW0
  obtain ⟨vx, hvx, hw⟩ := onv_iff.1 hw
  obtain ⟨vy, hvy, hw⟩ := onv_iff.1 hw
  obtain ⟨s, hsl, news, hnews, hok, hw⟩ := onv_iff.1 hw
  refine onv_iff.2 ⟨vx, hvx, onv_iff.2 ⟨vy, hvy, onv_iff.2 ⟨s, hsl, news, hnews, hok, ?_⟩⟩⟩
  rcases hw with ⟨ov, n, xs, G', e1, hov, hp, hmax, hby, hk⟩ | ⟨xa, n, c, xs, e1, hxs, hm, hc, hmax, hby, hk⟩
  ·exact .inl ⟨ov, n, xs, G', e1, hov, hp, hmax, hby, fun o' h1 h2 => ⟨_, List.perm_append_comm, hk o' h1 h2⟩⟩
  ·exact .inr ⟨xa, n, c, xs, e1, hxs, hm, hc, hmax, hby, fun b cap sp h1 => ⟨_, List.perm_append_comm, hk b cap sp h1⟩⟩
 refine Does.mono h0 ?_
 rintro v w' ⟨M', G', hs', G2, hp, hk⟩
 exact ⟨M', G2, hs'.perm hp, hk⟩

theorem opW_appendZ {t t' e : TypeId} {kn : IntKind} {x y : Operand} {i : TypeInfo} {z : Value} {x' y' : A} (h : o.op = .call { callee := .builtin .append, args := #[x, y], argTypes := #[t, t'] }) (hx : cA x = some x') (hy : cA y = some y')
  (hu : P.underlying t = some (.slice e)) (hu' : P.underlying t' = some (.int kn)) (hi : P.info? e = some i) (hz : i.zero = some z) (hzs : z.cells.size = i.size) (hpos : 0 < i.size)
  (hf : Fits C.nt ρ a) (hs : C.St M G w) (hw : opW C ρ M G K (.appendZ e i.size i.bytes z.cells.toList x' y')) : Goal C K o a w := by
 simp only [opW] at hw
 obtain ⟨vx, hvx, hw⟩ := onv_iff.1 hw
 obtain ⟨vy, hvy, hw⟩ := onv_iff.1 hw
 obtain ⟨s, hsl, hw⟩ := onv_iff.1 hw
 obtain ⟨j, hj, xs, hxs, hj0, hc, hmax, hby, hk⟩ := onv_iff.1 hw
 obtain ⟨xa, n, c⟩ := s
 have ex := sl?_some hsl
 obtain ⟨kq, ey⟩ := int?_some hj
 subst ex ey
 dsimp only at hxs hc hmax hby hk
 obtain ⟨m, rfl⟩ : ∃ m : Nat, j = m := ⟨j.toNat, by omega⟩
 simp only [Int.toNat_natCast] at hc hmax hby hk
 have evx := eval_cA hf hx hvx
 have evy := eval_cA hf hy hvy
 have ag : ∀ b ob, (M.add G) b ob → w.heap[b]? = some ob := fun b ob hb => hs.agreeAdd hb
 have key : ∀ v w', (Builtin.append_ #[t, t'] o.type #[.slice xa n c, .int kq m]).run P w = .ok v w' → (∃ M' G', C.St M' G' w' ∧ K v M' G') → Goal C K o a w := by
  intro v w' hr hk
  refine Does.value (v := v) (w' := w') ?_ hk
  simp only [execOp, h]
  have hres : ∃ cs, (resolve a.eval { callee := .builtin .append, args := #[x, y], argTypes := #[t, t'] } o.type).run P w = .ok { target := .builtin .append #[t, t'] o.type cs, args := #[a.eval x, a.eval y] } w :=
   ⟨_, by simp [resolve, Pure.pure, Sem.run]; rfl⟩
  obtain ⟨cs, hres⟩ := hres
  rw [run_bindOk hres]
  rw [evx, evy]
  exact run_doV hr
 have hfitc : Builtin.nextslicecap (n + m) c * i.bytes ≤ 281474976710656 := growslice_fits (by omega) hby
 have hmb : m * i.bytes ≤ 281474976710656 := by
  have : m * i.bytes ≤ (n + m) * i.bytes := Nat.mul_le_mul_right _ (by omega)
  omega
 have hxl : xs.length = n * i.size ∧ (Builtin.firstCells i.size n (.slice xa n c)).run P w.drew = .ok xs.toArray w.drew := by
  cases hxa : xa with
  | none =>
   subst hxa
   have hn0 : n = 0 ∧ xs = [] := by
    rcases hxs with ⟨h0, hn⟩ | ⟨b, off, he, _⟩
    ·rcases Nat.mul_eq_zero.1 h0 with h1 | h1
     ·exact ⟨h1, hn⟩
     ·omega
    ·cases he
   obtain ⟨rfl, rfl⟩ := hn0
   exact ⟨by simp, by simp [Builtin.firstCells, loadCells, loadCellsFrom]⟩
  | some xad =>
   subst hxa
   obtain ⟨hol, hoc⟩ := rdS_cells ag hxs
   exact ⟨hol, run_firstCells_some (P := P) w.drew i.size n xad n c xs hol (by simpa using hoc)⟩
 obtain ⟨hol, hold⟩ := hxl
 have hr := Lib.run_append_grow_zeros (P := P) w t t' o.type e i z kq kn hu hu' hi hz xa n c xs hold m (by omega) hpos hc (by simp [maxLen] at hmax; omega) hmb hfitc
 refine key _ _ hr ⟨M, _, (St_grow hs (R := []) (List.Perm.refl _) _).perm (List.perm_append_comm (l₁ := [_]) (l₂ := G)), ?_⟩
 have hge : n + m ≤ grownCap w (n + m) c e := grownCap_ge w (n + m) c e
 have hcm := grownCap_le_maxLen w (n + m) c e hmax
 have hzc : Builtin.zeroCells z.cells m = ((List.replicate m z.cells.toList).flatten).toArray := by
  apply Array.ext'
  rw [← cyc]
  rfl
 have := hk w.heap.size (grownCap w (n + m) c e) (Builtin.zeroCells z.cells (grownCap w (n + m) c e - (n + m))).toList (by
  simp only [osok]
  have hml : ((List.replicate m z.cells.toList).flatten).length = m * i.size := by simp [hzs]
  refine ⟨by rw [List.length_append, hol, hml, Nat.add_mul], ?_, hge, hcm⟩
  simp only [List.length_append, hol, hml, len_zeroCells, hzs, ← Nat.add_mul]; congr 1; omega)
 simp only [osv, oad, ocap, osg] at this
 rw [hzc, toArr3]
 exact this

theorem app_get (Ga Gb : Own) (p : Nat × Obj) : (Ga ++ p :: Gb)[Ga.length]? = some p := by simp
theorem app_set (Ga Gb : Own) (p q : Nat × Obj) : (Ga ++ p :: Gb).set Ga.length q = Ga ++ q :: Gb := by
 rw [List.set_append_right _ _ (Nat.le_refl _)]; simp

theorem opW_makeSl {t e : TypeId} {x y : Operand} {x' y' : A} {i : TypeInfo} {z : Value} (h : o.op = .makeSlice t x y) (hx : cA x = some x') (hy : cA y = some y')
  (hu : P.underlying t = some (.slice e)) (hi : P.info? e = some i) (hz : i.zero = some z) (hzs : z.cells.size = i.size) (hpos : 0 < i.size)
  (hf : Fits C.nt ρ a) (hs : C.St M G w) (hw : opW C ρ M G K (.makeSl e i.size i.bytes z.cells.toList x' y')) : Goal C K o a w := by
 simp only [opW] at hw
 obtain ⟨vx, hvx, hw⟩ := onv_iff.1 hw
 obtain ⟨vy, hvy, hw⟩ := onv_iff.1 hw
 obtain ⟨n, hn, hw⟩ := onv_iff.1 hw
 obtain ⟨c, hc, h0, hnc, hmax, hby, hk⟩ := onv_iff.1 hw
 obtain ⟨kx, rfl⟩ := int?_some hn
 obtain ⟨ky, rfl⟩ := int?_some hc
 have hr := run_make (P := P) w t e i z hu hi hz kx ky n c h0 hnc (by rw [Int.mul_comm]; omega) (by omega)
 refine Does.value (v := .slice (some ⟨w.heap.size, 0, none⟩) n.toNat c.toNat) (w' := w.alloc (.cells (madeCells z.cells (c.toNat * i.size)) e)) ?_ ⟨M, _, hs.alloc _, ?_⟩
 ·simp only [execOp, h, eval_cA hf hx hvx, eval_cA hf hy hvy]
  exact run_doV hr
 ·have := hk w.heap.size
  rw [← cyc z.cells c.toNat] at this
  have e1 : madeCells z.cells (c.toNat * i.size) = ((Array.range (c.toNat * z.cells.size)).map fun j => z.cells[j % z.cells.size]!) := by
   rw [hzs]; unfold madeCells
   by_cases h0 : c.toNat * i.size = 0
   ·simp [h0]
   ·simp [h0, hzs]
  rw [e1]
  exact this


/-! ### Comparisons of plain aggregates -/

theorem run_part1 {t : TypeId} {k : LK} (ht : leafT P t = some k) {xs : List Value} {off : Nat} {v : Value} (h : xs[off]? = some v) : (part t xs.toArray off).run P w = .ok v w := by
 have ha : aggT P t = some false := by
  unfold leafT at ht; unfold aggT
  cases hu : P.underlying t with
  | none => simp [hu] at ht
  | some d => rw [hu] at ht; cases d <;> simp_all
 unfold part
 rw [run_bindOk (run_isAgg ha w)]
 simp [h, Pure.pure, Sem.run]

theorem run_eqLeaf {t : TypeId} {k : LK} (ht : leafT P t = some k) {x y : Value} {r : Bool} (h : eqLeaf k x y = some r) (d : Nat) : (Op.equalIn (d + 1) t x y).run P w = .ok r w := by
 unfold leafT at ht
 split at ht
 ·rename_i k0 hu
  cases ht
  cases x <;> cases y <;> simp [eqLeaf] at h
  obtain ⟨rfl, h⟩ := h
  rw [run_equalIn_int w d t _ k0 _ _ hu, ← h]
  congr 1
 ·rename_i hu
  cases ht
  cases x <;> cases y <;> simp [eqLeaf] at h
  rw [run_equalIn_bool' w d t _ _ hu, h]
 ·rename_i hu
  cases ht
  cases x <;> cases y <;> simp [eqLeaf] at h
  rw [run_equalIn_string w d t _ _ hu, h]
 ·cases ht

theorem run_eqFieldsL (d : Nat) {xs ys : List Value} : ∀ (fs : List Field) (i : Nat) (ks : List LK) (r : Bool), leafs P i fs = some ks → eqL ks (xs.drop i) (ys.drop i) = some r → (Op.eqFields (d + 1) xs.toArray ys.toArray fs).run P w = .ok r w
 | [], i, ks, r, h1, h2 => by
  simp [leafs] at h1; subst h1
  cases hx : xs.drop i <;> cases hy : ys.drop i <;> simp [hx, hy, eqL] at h2
  subst h2
  simp [Op.eqFields, Pure.pure, Sem.run]
 | f :: fs, i, ks, r, h1, h2 => by
  simp only [leafs] at h1
  split at h1
  ·rename_i hc
   obtain ⟨hn, ho⟩ := hc
   split at h1
   ·rename_i k ks' hk hks
    cases h1
    cases hx : xs.drop i with
    | nil => simp [hx, eqL] at h2
    | cons x xs' =>
     cases hy : ys.drop i with
     | nil => simp [hx, hy, eqL] at h2
     | cons y ys' =>
      simp only [hx, hy, eqL] at h2
      split at h2
      ·rename_i a b ha hb
       cases h2
       have ex : xs[f.offset]? = some x := by
        have := congrArg (·[0]?) hx
        simpa [ho] using this
       have ey : ys[f.offset]? = some y := by
        have := congrArg (·[0]?) hy
        simpa [ho] using this
       have dx : xs.drop (i + 1) = xs' := by rw [← List.drop_drop, hx]; rfl
       have dy : ys.drop (i + 1) = ys' := by rw [← List.drop_drop, hy]; rfl
       unfold Op.eqFields
       rw [if_pos hn, run_bindOk (run_part1 hk ex), run_bindOk (run_part1 hk ey), run_bindOk (run_eqLeaf hk ha d)]
       cases a
       ·simp [Pure.pure, Sem.run]
       ·simp only [Bool.not_true, Bool.false_eq_true, if_false, Bool.true_and]
        exact run_eqFieldsL d fs (i + 1) ks' b hks (by rw [dx, dy]; exact hb)
      ·cases h2
   ·cases h1
  ·cases h1

theorem run_eqItemsL (d : Nat) {e : TypeId} {k : LK} (hk : leafT P e = some k) {xs ys : List Value} : ∀ (n i : Nat) (r : Bool), eqL (List.replicate n k) (xs.drop i) (ys.drop i) = some r → (Op.eqItems (d + 1) e 1 xs.toArray ys.toArray (List.range' i n)).run P w = .ok r w
 | 0, i, r, h2 => by
  cases hx : xs.drop i <;> cases hy : ys.drop i <;> simp [hx, hy, eqL] at h2
  subst h2
  simp [Op.eqItems, Pure.pure, Sem.run]
 | n + 1, i, r, h2 => by
  cases hx : xs.drop i with
  | nil => simp [hx, eqL, List.replicate_succ] at h2
  | cons x xs' =>
   cases hy : ys.drop i with
   | nil => simp [hx, hy, eqL, List.replicate_succ] at h2
   | cons y ys' =>
    simp only [hx, hy, eqL, List.replicate_succ] at h2
    split at h2
    ·rename_i a b ha hb
     cases h2
     have ex : xs[i * 1]? = some x := by
      have := congrArg (·[0]?) hx
      simpa using this
     have ey : ys[i * 1]? = some y := by
      have := congrArg (·[0]?) hy
      simpa using this
     have dx : xs.drop (i + 1) = xs' := by rw [← List.drop_drop, hx]; rfl
     have dy : ys.drop (i + 1) = ys' := by rw [← List.drop_drop, hy]; rfl
     rw [List.range'_succ]
     unfold Op.eqItems
     rw [run_bindOk (run_part1 hk ex), run_bindOk (run_part1 hk ey), run_bindOk (run_eqLeaf hk ha d)]
     cases a
     ·simp [Pure.pure, Sem.run]
     ·simp only [Bool.not_true, Bool.false_eq_true, if_false, Bool.true_and]
      exact run_eqItemsL d hk n (i + 1) b (by rw [dx, dy]; exact hb)
    ·cases h2

theorem run_eqTy {t : TypeId} {ks : List LK} (he : eqTy P t = some ks) {xs ys : List Value} {r : Bool} (h : eqL ks xs ys = some r) : (Op.equal t (.agg xs.toArray) (.agg ys.toArray)).run P w = .ok r w ∧ P.eqGuardType P.depth t = false := by
 have hd : Op.equal t (.agg xs.toArray) (.agg ys.toArray) = Op.equalIn (9998 + 1 + 1) t (.agg xs.toArray) (.agg ys.toArray) := rfl
 rw [hd]
 unfold eqTy at he
 split at he
 ·rename_i fs hu
  split at he
  ·rename_i hc
   simp only [Bool.and_eq_true, Bool.not_eq_true'] at hc
   refine ⟨?_, hc.2⟩
   have hfs : P.fieldsOf t = fs := by simp [Program.fieldsOf, hu]
   rw [run_equalIn_struct w _ t _ _ (by rw [hfs]; exact hu) hc.1, hfs]
   exact run_eqFieldsL 9998 fs.toList 0 ks r he (by simpa using h)
  ·cases he
 ·rename_i n e hu
  split at he
  ·rename_i hc
   simp only [Bool.and_eq_true, Bool.not_eq_true', decide_eq_true_eq] at hc
   refine ⟨?_, hc.2⟩
   cases hi : P.info? e with
   | none => simp [hi] at hc
   | some i =>
    cases hk : leafT P e with
    | none => simp [hk] at he
    | some k =>
     simp [hk] at he
     subst he
     rw [run_equalIn_array w _ _ _ hu hi]
     have hcl : P.cellsOf e = 1 := by
      have := hc.1
      simp [hi] at this
      simp [Program.cellsOf, hi, this]
     rw [hcl, List.range_eq_range']
     exact run_eqItemsL 9998 hk n 0 r (by simpa using h)
  ·cases he
 ·cases he

theorem opW_eqA {neg : Bool} {t u : TypeId} {x y : Operand} {ks : List LK} {xs ys : List Value} {r : Bool} (h : o.op = .binOp (if neg then .neq else .eql) t x y u) (he : eqTy P t = some ks) (hx : a.eval x = .agg xs.toArray) (hy : a.eval y = .agg ys.toArray) (hr : eqL ks xs ys = some r) :
  (execOp a.eval o).run P w = .ok (.value (.bool (xor neg r))) w := by
 obtain ⟨hq, hg0⟩ := run_eqTy (w := w) he hr
 simp only [execOp, h, hx, hy]
 refine run_doV (v := .bool (xor neg r)) ?_
 have hg : ∀ op, (eqGuard op t x y (.agg xs.toArray) (.agg ys.toArray)).run P w = .ok () w := fun op => run_eqGuard_agg w op t x y _ _ hg0
 rw [run_bindOk (hg _)]
 cases neg
 ·show (do pure (Value.bool (← Op.equal t (.agg xs.toArray) (.agg ys.toArray))) : Sem Value).run P w = _
  rw [run_bindOk hq]; simp [Pure.pure, Sem.run]
 ·show (do pure (Value.bool (!(← Op.equal t (.agg xs.toArray) (.agg ys.toArray)))) : Sem Value).run P w = _
  rw [run_bindOk hq]; simp [Pure.pure, Sem.run]

theorem opW_eqS {neg : Bool} {t u e : TypeId} {x : Operand} {p : Option Addr} {n c : Nat} (h : o.op = .binOp (if neg then .neq else .eql) t x (.const (.slice none 0 0)) u) (hu : P.underlying t = some (.slice e)) (hx : a.eval x = .slice p n c) :
  (execOp a.eval o).run P w = .ok (.value (.bool (xor neg p.isNone))) w := by
 have hd : ∀ (d : Nat) (w : World), (Op.equalIn (d + 1) t (.slice p n c) (.slice none 0 0)).run P w = .ok p.isNone w := by
  intro d w
  unfold Op.equalIn
  rw [run_bindOk (run_underlying' hu w)]
  cases p <;> rfl
 have he : ∀ w : World, (Op.equal t (.slice p n c) (.slice none 0 0)).run P w = .ok p.isNone w := fun w => hd 9999 w
 have hy : a.eval (.const (.slice none 0 0)) = .slice none 0 0 := rfl
 simp only [execOp, h, hx, hy]
 refine run_doV (v := .bool (xor neg p.isNone)) ?_
 have hg : ∀ op, (eqGuard op t x (.const (.slice none 0 0)) (.slice p n c) (.slice none 0 0)).run P w = .ok () w := by
  intro op; cases op <;> simp [eqGuard, Pure.pure]
 rw [run_bindOk (hg _)]
 cases neg
 ·show (do pure (Value.bool (← Op.equal t (.slice p n c) (.slice none 0 0))) : Sem Value).run P w = _
  rw [run_bindOk (he w)]; simp [Pure.pure, Sem.run]
 ·show (do pure (Value.bool (!(← Op.equal t (.slice p n c) (.slice none 0 0)))) : Sem Value).run P w = _
  rw [run_bindOk (he w)]; simp [Pure.pure, Sem.run]

theorem opW_idx1 {t e : TypeId} {x i : Operand} {n : Nat} {l : List Value} {k : IntKind} {j : Int} {v : Value} (h : o.op = .index t x i) (hu : P.underlying t = some (.array n e)) (ha : aggT P e = some false) (hs : (P.info? e).map (·.size) = some 1)
  (hx : a.eval x = .agg l.toArray) (hi : a.eval i = .int k j) (h0 : 0 ≤ j) (h1 : j < n) (hv : l[j.toNat]? = some v) : (execOp a.eval o).run P w = .ok (.value v) w := by
 simp only [execOp, h, hx, hi]
 refine run_doV ?_
 unfold Instr.index
 rw [run_bindOk (a := (k, j)) (w' := w) rfl]
 dsimp only
 rw [run_bindOk (run_underlying' hu w)]
 simp only [h0, h1, and_self, if_true]
 rw [run_bindOk (run_sizeOf hs w)]
 unfold part
 rw [run_bindOk (run_isAgg ha w)]
 simp [hv, Pure.pure, Sem.run]

theorem opW_idxA {t e : TypeId} {x i : Operand} {n sz : Nat} {l : List Value} {k : IntKind} {j : Int} (h : o.op = .index t x i) (hu : P.underlying t = some (.array n e)) (ha : aggT P e = some true) (hs : (P.info? e).map (·.size) = some sz)
  (hx : a.eval x = .agg l.toArray) (hi : a.eval i = .int k j) (h0 : 0 ≤ j) (h1 : j < n) : (execOp a.eval o).run P w = .ok (.value (.agg ((l.drop (j.toNat * sz)).take sz).toArray)) w := by
 simp only [execOp, h, hx, hi]
 refine run_doV ?_
 unfold Instr.index
 rw [run_bindOk (a := (k, j)) (w' := w) rfl]
 dsimp only
 rw [run_bindOk (run_underlying' hu w)]
 simp only [h0, h1, and_self, if_true]
 rw [run_bindOk (run_sizeOf hs w)]
 unfold part
 rw [run_bindOk (run_isAgg ha w)]
 simp only [if_true]
 rw [run_bindOk (run_sizeOf hs w)]
 simp [Pure.pure, Sem.run, List.extract]

theorem rd.pre {H : PHeap} {b off n m : Nat} {cs : List Value} (h : rd H b off n cs) (hm : m ≤ n) : rd H b off m (cs.take m) := by
 obtain ⟨c, T, fz, h1, h2, h3⟩ := h
 refine ⟨c, T, fz, h1, by omega, ?_⟩
 rw [h3, List.take_take, Nat.min_eq_left hm]

theorem zeroCells_one {z : Value} {cs : Array Value} (h : cs.toList = [z]) (n : Nat) : (Builtin.zeroCells cs n).toList = List.replicate n z := by
 obtain ⟨l⟩ := cs
 simp only at h
 subst h
 simp only [Builtin.zeroCells, List.size_toArray, List.length_singleton, Nat.mul_one, Nat.mod_one, Array.toList_map, Array.toList_range]
 apply List.ext_getElem
 ·simp
 ·intro i h1 h2; simp

theorem opW_clearS {t e : TypeId} {x : Operand} {x' : A} {z z' : Value} (h : o.op = .call { callee := .builtin .clear, args := #[x], argTypes := #[t] }) (hx : cA x = some x') (hu : P.underlying t = some (.slice e))
  (hz : (P.info? e).bind (·.zero) = some z) (hzc : z.cells.toList = [z']) (h1 : z'.oneCell' = true) (hf : Fits C.nt ρ a) (hs : C.St M G w) (hw : opW C ρ M G K (.clearS z' x')) : Goal C K o a w := by
 simp only [opW] at hw
 obtain ⟨vx, hvx, hw⟩ := onv_iff.1 hw
 obtain ⟨s, hsl, hfin⟩ := onv_iff.1 hw
 obtain ⟨sa, n, sc⟩ := s
 have ex := sl?_some hsl
 dsimp only at ex hfin
 have evx := eval_cA hf hx hvx
 subst ex
 have key : ∀ w', (Builtin.clear_ #[t] o.type #[.slice sa n sc]).run P w = .ok (.tuple #[]) w' → (∃ M' G', C.St M' G' w' ∧ K (.tuple #[]) M' G') → Goal C K o a w := by
  intro w' hr hk
  refine Does.value (v := .tuple #[]) (w' := w') ?_ hk
  simp only [execOp, h]
  have hres : ∃ cs, (resolve a.eval { callee := .builtin .clear, args := #[x], argTypes := #[t] } o.type).run P w = .ok { target := .builtin .clear #[t] o.type cs, args := #[a.eval x] } w :=
   ⟨_, by simp [resolve, Pure.pure, Sem.run]; rfl⟩
  obtain ⟨cs, hres⟩ := hres
  rw [run_bindOk hres, evx]
  exact run_doV hr
 rcases hfin with ⟨h0, hk⟩ | ⟨b, off, T, cs, Ga, Gb, rfl, hn, rfl, hl, hk⟩
 ·subst h0
  refine key w ?_ ⟨M, G, hs, hk⟩
  show (do let d ← underlying t; _ : Sem Value).run P w = _
  rw [run_bindOk (run_underlying' hu w)]
  cases sa <;> rfl
 ·have hi := app_get Ga Gb (b, Cl T cs)
  have hb : w.heap[b]? = some (Cl T cs) := hs.own (b, Cl T cs) (List.mem_of_getElem? hi)
  obtain ⟨w', hr, q1, q2, q3, q4, q5, q6⟩ := run_storeCells (P := P) (vs := List.replicate n z') hb (o := off) (by rw [List.length_replicate]; exact hl) (fun v hv => by rw [List.eq_of_mem_replicate hv]; exact h1)
  refine key w' ?_ ⟨M, _, hs.put hi q1 q2 q3 q4 q5 q6, ?_⟩
  ·show (do let d ← underlying t; _ : Sem Value).run P w = _
   rw [run_bindOk (run_underlying' hu w)]
   obtain ⟨m, rfl⟩ : ∃ m, n = m + 1 := ⟨n - 1, by omega⟩
   show (do storeCells ⟨b, off, none⟩ (Builtin.zeroCells (← zeroValue e).cells (m + 1)).toList; pure (.tuple #[]) : Sem Value).run P w = _
   have h2 : (do storeCells ⟨b, off, none⟩ (Builtin.zeroCells (← zeroValue e).cells (m + 1)).toList : Sem Unit).run P w = .ok () w' := by
    rw [run_bindOk (run_zero hz w), zeroCells_one hzc]; exact hr
   rw [run_bindOk (run_zero hz w), zeroCells_one hzc, run_bindOk hr]; rfl
  ·rw [app_set]; exact hk

theorem opW_copyO {t t' e : TypeId} {x y : Operand} {x' y' : A} {sz : Nat} (h : o.op = .call { callee := .builtin .copy, args := #[x, y], argTypes := #[t, t'] }) (hx : cA x = some x') (hy : cA y = some y')
  (hu : P.underlying t = some (.slice e)) (hsz : (P.info? e).map (·.size) = some sz) (hf : Fits C.nt ρ a) (hs : C.St M G w) (hw : opW C ρ M G K (.copyO sz x' y')) : Goal C K o a w := by
 simp only [opW] at hw
 obtain ⟨vx, hvx, hw⟩ := onv_iff.1 hw
 obtain ⟨vy, hvy, hw⟩ := onv_iff.1 hw
 obtain ⟨d, hd, hw⟩ := onv_iff.1 hw
 obtain ⟨s, hsl, news, hnews, hok, hfin⟩ := onv_iff.1 hw
 obtain ⟨da, dn, dc⟩ := d
 obtain ⟨sa, m, sc⟩ := s
 have ex := sl?_some hd
 have ey := sl?_some hsl
 dsimp only at ex ey hnews hfin
 have evx := eval_cA hf hx hvx
 have evy := eval_cA hf hy hvy
 have ag : ∀ b ob, (M.add G) b ob → w.heap[b]? = some ob := fun b ob hb => hs.agreeAdd hb
 have key : ∀ v w', (Builtin.copy_ #[t, t'] o.type #[vx, vy]).run P w = .ok v w' → (∃ M' G', C.St M' G' w' ∧ K v M' G') → Goal C K o a w := by
  intro v w' hr hk
  refine Does.value (v := v) (w' := w') ?_ hk
  simp only [execOp, h]
  have hres : ∃ cs, (resolve a.eval { callee := .builtin .copy, args := #[x, y], argTypes := #[t, t'] } o.type).run P w = .ok { target := .builtin .copy #[t, t'] o.type cs, args := #[a.eval x, a.eval y] } w :=
   ⟨_, by simp [resolve, Pure.pure, Sem.run]; rfl⟩
  obtain ⟨cs, hres⟩ := hres
  rw [run_bindOk hres, evx, evy]
  exact run_doV hr
 subst ex ey
 -- what is read
 have hread : ∃ cells : Array Value, (Builtin.firstCells sz (min m dn) (.slice sa m sc)).run P w = .ok cells w ∧ cells.toList = news.take (min m dn * sz) := by
  have hle : min m dn * sz ≤ m * sz := Nat.mul_le_mul_right _ (Nat.min_le_left _ _)
  cases sa with
  | none =>
   refine ⟨#[], rfl, ?_⟩
   rcases hnews with ⟨_, rfl⟩ | ⟨b, off, he, _⟩
   ·simp
   ·cases he
  | some ad =>
   rcases hnews with ⟨h0, rfl⟩ | ⟨b, off, he, hrd⟩
   ·refine ⟨#[], ?_, by simp⟩
    have : min m dn * sz = 0 := by omega
    simp [Builtin.firstCells, this, loadCells, loadCellsFrom, Pure.pure, Sem.run]
   ·cases he
    refine ⟨(news.take (min m dn * sz)).toArray, ?_, by simp⟩
    exact run_loadCells ag (hrd.pre hle)
 obtain ⟨cells, hr1, hc⟩ := hread
 have hrun : ∀ w', (match da with | some ad => storeCells ad cells.toList | none => pure () : Sem Unit).run P w = .ok () w' → (Builtin.copy_ #[t, t'] o.type #[.slice da dn dc, .slice sa m sc]).run P w = .ok (.int .i64 (min m dn : Nat)) w' := by
  intro w' hst
  show (do let d ← underlying t; _ : Sem Value).run P w = _
  rw [run_bindOk (run_underlying' hu w)]
  cases da with
  | none =>
   show (do let q ← sizeOf e; let cells ← Builtin.firstCells q (min m dn) (.slice sa m sc); pure (goInt (min m dn : Nat)) : Sem Value).run P w = _
   rw [run_bindOk (run_sizeOf hsz w), run_bindOk hr1]
   cases hst; rfl
  | some ad =>
   show (do let q ← sizeOf e; let cells ← Builtin.firstCells q (min m dn) (.slice sa m sc); storeCells ad cells.toList; pure (goInt (min m dn : Nat)) : Sem Value).run P w = _
   rw [run_bindOk (run_sizeOf hsz w), run_bindOk hr1]
   exact (run_bindOk hst).trans rfl
 rcases hfin with ⟨h0, hk⟩ | ⟨b, off, T, cs, Ga, Gb, rfl, rfl, hl, hk⟩
 ·have hcn : cells.toList = [] := by rw [hc, h0]; simp
  refine key _ w (hrun w ?_) ⟨M, G, hs, hk⟩
  cases da with
  | none => rfl
  | some ad => simp [hcn, storeCells, Pure.pure, Sem.run]
 ·have hi := app_get Ga Gb (b, Cl T cs)
  have hb : w.heap[b]? = some (Cl T cs) := hs.own (b, Cl T cs) (List.mem_of_getElem? hi)
  have hlen : (news.take (min m dn * sz)).length ≤ min m dn * sz := by simp; omega
  obtain ⟨w', hr, q1, q2, q3, q4, q5, q6⟩ := run_storeCells (P := P) (vs := cells.toList) hb (o := off) (by rw [hc]; omega) (by rw [hc]; exact fun v hv => hok v hv)
  refine key _ w' (hrun w' hr) ⟨M, _, hs.put hi q1 q2 q3 q4 q5 q6, ?_⟩
  rw [hc, app_set]; exact hk

end
end Go.EV

namespace Go.EV
variable {P : Program}
section
variable {C : Cx P} {ρ : Env} {M : PHeap} {G : Own} {K : Value → PHeap → Own → Prop} {a : Act} {w : World} {o : Oper} {r : ROp}

theorem eval_arr (hf : Fits C.nt ρ a) {l : Array Operand} {m : List A} (h : cAs l.toList = some m) {vs : List Value} (hv : evs ρ m = some vs) : l.map a.eval = vs.toArray := by
 rw [← eval_cAs hf h hv]
 apply Array.ext'
 simp

theorem opW_sound (hc : Cmp P o r) (hf : Fits C.nt ρ a) (hs : C.St M G w) (hw : opW C ρ M G K r) : Goal C K o a w := by
 have ag : ∀ b ob, (M.add G) b ob → w.heap[b]? = some ob := fun b ob hb => hs.agreeAdd hb
 cases hc with
 | mv h hx =>
  obtain ⟨v, hv, hk⟩ := onv_iff.1 hw
  refine opW_pure (v := v) ?_ hs hk
  rcases h with h | h <;> simp only [execOp, h, eval_cA hf hx hv] <;> rfl
 | pick h hc ha hb =>
  obtain ⟨vc, hvc, hw⟩ := onv_iff.1 hw
  obtain ⟨c, hcb, hw⟩ := onv_iff.1 hw
  obtain ⟨v, hv, hk⟩ := onv_iff.1 hw
  have := bool?_some hcb
  subst this
  refine opW_pure (v := v) ?_ hs hk
  simp only [execOp, h, eval_cA hf hc hvc]
  rw [run_bindOk (a := c) (w' := w) rfl]
  cases c with
  | true => simp at hv; simp [eval_cA hf ha hv, Pure.pure, Sem.run]
  | false => simp at hv; simp [eval_cA hf hb hv, Pure.pure, Sem.run]
 | bin h hx hy =>
  obtain ⟨x, hvx, hw⟩ := onv_iff.1 hw
  obtain ⟨y, hvy, hw⟩ := onv_iff.1 hw
  obtain ⟨v, hv, hk⟩ := onv_iff.1 hw
  refine opW_pure (v := v) ?_ hs hk
  simp only [execOp, h, eval_cA hf hx hvx, eval_cA hf hy hvy]
  exact run_doV (sound_bin hv)
 | eqb h hu hx hy =>
  obtain ⟨x, hvx, hw⟩ := onv_iff.1 hw
  obtain ⟨y, hvy, hw⟩ := onv_iff.1 hw
  obtain ⟨b, hb, hw⟩ := onv_iff.1 hw
  obtain ⟨c, hc, hk⟩ := onv_iff.1 hw
  have e1 := bool?_some hb
  have e2 := bool?_some hc
  subst e1 e2
  exact opW_pure (opW_eqb h hu (eval_cA hf hx hvx) (eval_cA hf hy hvy)) hs hk
 | eqp h hu hx =>
  obtain ⟨x, hvx, hw⟩ := onv_iff.1 hw
  cases x <;> try exact hw.elim
  exact opW_pure (opW_eqp h hu (eval_cA hf hx hvx)) hs hw
 | notb h hx =>
  obtain ⟨x, hvx, hw⟩ := onv_iff.1 hw
  obtain ⟨b, hb, hk⟩ := onv_iff.1 hw
  have e1 := bool?_some hb
  subst e1
  refine opW_pure (v := .bool !b) ?_ hs hk
  simp only [execOp, h, eval_cA hf hx hvx]
  rfl
 | @conv src dst x0 _ k d h hx hsr hd =>
  obtain ⟨x, hvx, hw⟩ := onv_iff.1 hw
  obtain ⟨n, hn, hk⟩ := onv_iff.1 hw
  cases x <;> try (simp [int?] at hn; done)
  rename_i k0 n0
  have e1 : n0 = n := by simpa [int?] using hn
  subst e1
  refine opW_pure (v := .int k (k.wrap n0)) ?_ hs hk
  simp only [execOp, h, eval_cA hf hx hvx]
  refine run_doV ?_
  unfold convert
  rw [run_bindOk (run_underlying' hsr w), run_bindOk (run_underlying' hd w)]
  rfl
 | faddr h hx hu hfl hsz =>
  obtain ⟨x, hvx, hw⟩ := onv_iff.1 hw
  obtain ⟨p, hp, hk⟩ := onv_iff.1 hw
  have e1 := ptr?_some hp
  subst e1
  refine opW_pure ?_ hs hk
  simp only [execOp, h, eval_cA hf hx hvx]
  exact run_doV (run_fieldAt hu hfl hsz)
 | iaddrA h hx hi hu hsz =>
  obtain ⟨x, hvx, hw⟩ := onv_iff.1 hw
  obtain ⟨i, hvi, hw⟩ := onv_iff.1 hw
  obtain ⟨p, hp, hw⟩ := onv_iff.1 hw
  obtain ⟨j, hj, h0, h1, hk⟩ := onv_iff.1 hw
  have e1 := ptr?_some hp
  obtain ⟨k, e2⟩ := int?_some hj
  subst e1 e2
  refine opW_pure ?_ hs hk
  simp only [execOp, h, eval_cA hf hx hvx, eval_cA hf hi hvi]
  exact run_doV (run_indexAtA hu hsz h0 h1)
 | iaddrS h hx hi hu hsz =>
  obtain ⟨x, hvx, hw⟩ := onv_iff.1 hw
  obtain ⟨i, hvi, hw⟩ := onv_iff.1 hw
  obtain ⟨s, hsl, hw⟩ := onv_iff.1 hw
  obtain ⟨j, hj, hw⟩ := onv_iff.1 hw
  obtain ⟨ad, hb, hw⟩ := onv_iff.1 hw
  obtain ⟨q, hq, h0, h1, hk⟩ := onv_iff.1 hw
  obtain ⟨sa, n, c⟩ := s
  have e1 := sl?_some hsl
  obtain ⟨k, e2⟩ := int?_some hj
  have e3 := adr?_some hq
  dsimp only at e1 hb h1
  subst e3 hb e1 e2
  refine opW_pure ?_ hs hk
  simp only [execOp, h, eval_cA hf hx hvx, eval_cA hf hi hvi]
  exact run_doV (run_indexAtS hu hsz h0 h1)
 | nilck h hx =>
  obtain ⟨x, hvx, hw⟩ := onv_iff.1 hw
  obtain ⟨p, hp, hk⟩ := onv_iff.1 hw
  have e1 := ptr?_some hp
  subst e1
  refine opW_pure (v := pv p.1 p.2) ?_ hs hk
  simp only [execOp, h, eval_cA hf hx hvx]
  rfl
 | extract h hx =>
  obtain ⟨x, hvx, hw⟩ := onv_iff.1 hw
  obtain ⟨l, hl, hw⟩ := onv_iff.1 hw
  obtain ⟨v, hv, hk⟩ := onv_iff.1 hw
  have e1 := tup?_some hl
  subst e1
  refine opW_pure (v := v) ?_ hs hk
  simp only [execOp, h, eval_cA hf hx hvx]
  refine run_doV ?_
  simp [Instr.extract, hv, Pure.pure, Sem.run]
 | fieldA h hx hu hfl ha hsz =>
  obtain ⟨x, hvx, hw⟩ := onv_iff.1 hw
  obtain ⟨l, hl, hk⟩ := onv_iff.1 hw
  have e1 := agg?_some hl
  subst e1
  refine opW_pure ?_ hs hk
  simp only [execOp, h, eval_cA hf hx hvx]
  refine run_doV ?_
  unfold Instr.field
  rw [run_bindOk (run_underlying' hu w)]
  simp only [hfl]
  rw [run_bindOk (a := l.toArray) (w' := w) rfl]
  unfold part
  rw [run_bindOk (run_isAgg ha w)]
  simp only [if_true]
  rw [run_bindOk (run_sizeOf hsz w)]
  simp [Pure.pure, Sem.run]
 | field1 h hx hu hfl ha =>
  obtain ⟨x, hvx, hw⟩ := onv_iff.1 hw
  obtain ⟨l, hl, hw⟩ := onv_iff.1 hw
  obtain ⟨v, hv, hk⟩ := onv_iff.1 hw
  have e1 := agg?_some hl
  subst e1
  refine opW_pure (v := v) ?_ hs hk
  simp only [execOp, h, eval_cA hf hx hvx]
  refine run_doV ?_
  unfold Instr.field
  rw [run_bindOk (run_underlying' hu w)]
  simp only [hfl]
  rw [run_bindOk (a := l.toArray) (w' := w) rfl]
  unfold part
  rw [run_bindOk (run_isAgg ha w)]
  simp [hv, Pure.pure, Sem.run]
 | @len t e x0 _ h hx hu =>
  obtain ⟨x, hvx, hw⟩ := onv_iff.1 hw
  obtain ⟨sl, hsl, hk⟩ := onv_iff.1 hw
  have e1 := sl?_some hsl
  subst e1
  refine opW_pure ?_ hs hk
  simp only [execOp, h]
  have hres : ∃ cs, (resolve a.eval { callee := .builtin .len, args := #[x0], argTypes := #[t] } o.type).run P w = .ok { target := .builtin .len #[t] o.type cs, args := #[a.eval x0] } w :=
   ⟨_, by simp [resolve, Pure.pure, Sem.run]; rfl⟩
  obtain ⟨cs, hres⟩ := hres
  rw [run_bindOk hres, eval_cA hf hx hvx]
  refine run_doV (v := .int .i64 sl.2.1) ?_
  show (do let d ← underlying t; _ : Sem Value).run P w = _
  rw [run_bindOk (run_underlying' hu w)]
  rfl
 | @lenT t x0 _ h hx hu =>
  obtain ⟨x, hvx, hw⟩ := onv_iff.1 hw
  cases x <;> try exact hw.elim
  refine opW_pure ?_ hs hw
  simp only [execOp, h]
  have hres : ∃ cs, (resolve a.eval { callee := .builtin .len, args := #[x0], argTypes := #[t] } o.type).run P w = .ok { target := .builtin .len #[t] o.type cs, args := #[a.eval x0] } w :=
   ⟨_, by simp [resolve, Pure.pure, Sem.run]; rfl⟩
  obtain ⟨cs, hres⟩ := hres
  rw [run_bindOk hres, eval_cA hf hx hvx]
  refine run_doV ?_
  show (do let d ← underlying t; _ : Sem Value).run P w = _
  rw [run_bindOk (run_underlying' hu w)]
  rfl
 | loadA h hx ha hsz =>
  obtain ⟨x, hvx, hw⟩ := onv_iff.1 hw
  obtain ⟨p, hp, cs, hr, hk⟩ := onv_iff.1 hw
  have e1 := ptr?_some hp
  subst e1
  refine opW_pure ?_ hs hk
  simp only [execOp, h, eval_cA hf hx hvx]
  exact run_doV (run_loadA ha hsz ag hr)
 | loadI h hx ha =>
  obtain ⟨x, hvx, hw⟩ := onv_iff.1 hw
  obtain ⟨p, hp, cs, hr, hk⟩ := onv_iff.1 hw
  have e1 := ptr?_some hp
  subst e1
  refine opW_pure ?_ hs hk
  simp only [execOp, h, eval_cA hf hx hvx]
  exact run_doV (run_load1 ha ag hr)
 | loadB h hx ha =>
  obtain ⟨x, hvx, hw⟩ := onv_iff.1 hw
  obtain ⟨p, hp, cs, hr, hk⟩ := onv_iff.1 hw
  have e1 := ptr?_some hp
  subst e1
  refine opW_pure ?_ hs hk
  simp only [execOp, h, eval_cA hf hx hvx]
  exact run_doV (run_load1 ha ag hr)
 | loadS h hx ha =>
  obtain ⟨x, hvx, hw⟩ := onv_iff.1 hw
  obtain ⟨p, hp, a', n, c, hr, hk⟩ := onv_iff.1 hw
  have e1 := ptr?_some hp
  subst e1
  refine opW_pure ?_ hs hk
  simp only [execOp, h, eval_cA hf hx hvx]
  exact run_doV (run_load1 ha ag hr)
 | loadX h hx ha =>
  obtain ⟨x, hvx, hw⟩ := onv_iff.1 hw
  obtain ⟨p, hp, cs, hr, hk⟩ := onv_iff.1 hw
  have e1 := ptr?_some hp
  subst e1
  refine opW_pure ?_ hs hk
  simp only [execOp, h, eval_cA hf hx hvx]
  exact run_doV (run_load1 ha ag hr)
 | store h hx hv hsz =>
  obtain ⟨x, hvx, hw⟩ := onv_iff.1 hw
  obtain ⟨u, hvu, hw⟩ := onv_iff.1 hw
  obtain ⟨p, hp, T, cs, Ga, Gb, e0, hl, hu, h1, hk⟩ := onv_iff.1 hw
  have e1 := ptr?_some hp
  subst e1 e0
  have hi := app_get Ga Gb (p.1, Cl T cs)
  have hb : w.heap[p.1]? = some (Cl T cs) := hs.own (p.1, Cl T cs) (List.mem_of_getElem? hi)
  obtain ⟨w', hr, q1, q2, q3, q4, q5, q6⟩ := run_storeAt (P := P) hsz hb hl hu h1
  refine Does.skip (w' := w') ?_ ⟨M, _, hs.put hi q1 q2 q3 q4 q5 q6, by rw [app_set]; exact hk⟩
  simp only [execOp, h, eval_cA hf hx hvx, eval_cA hf hv hvu]
  exact run_doU hr
 | box h hx =>
  obtain ⟨u, hvu, hk⟩ := onv_iff.1 hw
  refine Does.value (w' := w.alloc (Cl _ u.cells.toList)) ?_ ⟨M, _, hs.alloc _, hk w.heap.size⟩
  simp only [execOp, h, eval_cA hf hx hvu]
  rfl
 | alloc h hz =>
  refine Does.value (w' := w.alloc (Cl _ _)) ?_ ⟨M, _, hs.alloc _, hw w.heap.size⟩
  simp only [execOp, h]
  refine run_doV ?_
  unfold Instr.alloc
  rw [run_bindOk (run_zero hz w)]
  rfl
 | mkfn h hfi hca =>
  obtain ⟨fs, hfs, hw⟩ := onv_iff.1 hw
  obtain ⟨cs, hcs, hk⟩ := onv_iff.1 hw
  refine opW_pure ?_ hs hk
  simp only [execOp, h]
  refine run_doV ?_
  rw [eval_arr hf hfi hfs, eval_arr hf hca hcs]
  rfl
 | @maxi ts x0 y0 _ _ h hx hy =>
  obtain ⟨x, hvx, hw⟩ := onv_iff.1 hw
  obtain ⟨y, hvy, hw⟩ := onv_iff.1 hw
  have hres : ∃ cs, (resolve a.eval { callee := .builtin .max, args := #[x0, y0], argTypes := ts } o.type).run P w = .ok { target := .builtin .max ts o.type cs, args := #[a.eval x0, a.eval y0] } w :=
   ⟨_, by simp [resolve, Pure.pure, Sem.run]; rfl⟩
  obtain ⟨cs, hres⟩ := hres
  split at hw
  ·refine opW_pure ?_ hs hw
   simp only [execOp, h]
   rw [run_bindOk hres, eval_cA hf hx hvx, eval_cA hf hy hvy]
   rfl
  ·exact hw.elim
 | call h ha =>
  obtain ⟨vs, hvs, hgo, hcall⟩ := onv_iff.1 hw
  refine .inr (.inr (.inl ⟨_, vs.toArray, w, ?_, hcall w hs⟩))
  simp only [execOp, h]
  have := run_callF (P := P) (w := w) hgo (first := #[]) (args := vs.toArray) (caps := #[])
  simp only [Array.empty_append, Array.append_empty] at this
  rw [← this, ← eval_arr hf ha hvs]
  rfl
 | callv h hx ha =>
  obtain ⟨fv, hfv, hw⟩ := onv_iff.1 hw
  cases hy : yield? fv with
  | some l =>
   rw [hy] at hw
   obtain ⟨vs, hvs, hyw⟩ := onv_iff.1 hw
   obtain ⟨r, hl, hsz, hr⟩ := hyw w hs
   obtain ⟨first, caps, hfe, hf0⟩ : ∃ first caps, fv = .func (.yield l) first caps ∧ first.size = 0 := by
    unfold yield? at hy
    split at hy
    ·split at hy
     ·rename_i h0; cases hy; exact ⟨_, _, rfl, h0⟩
     ·cases hy
    ·cases hy
   have hfe0 : first = #[] := Array.size_eq_zero_iff.1 hf0
   subst hfe hfe0
   refine .inr (.inr (.inr ⟨l, _, _, _, _, w, ?_, hr⟩))
   simp only [execOp, h]
   have hres : (do let d ← Deferred.ofValue (.func (.yield l) #[] caps) vs.toArray; invoke d.target d.args : Sem Next).run P w = .ok (.round l r.fn ((r.params.zip vs.toArray).foldl (fun tmps (t, a) => tmps.setIfInBounds t a) r.tmps) r.assign r.body) w := by
    rw [run_bindOk (a := { target := .fn (.yield l) caps, args := #[] ++ vs.toArray }) (w' := w) rfl]
    rw [Array.empty_append]
    exact run_yield hl hsz
   rw [← hres, ← eval_arr hf ha hvs, ← eval_cA hf hx hfv]
   rfl
  | none =>
   rw [hy] at hw
   obtain ⟨g, hg, hw⟩ := onv_iff.1 hw
   obtain ⟨vs, hvs, hgo, hcall⟩ := onv_iff.1 hw
   have e0 := fn?_some hg
   subst e0
   refine .inr (.inr (.inl ⟨_, _, w, ?_, hcall w hs⟩))
   simp only [execOp, h]
   have := run_callF (P := P) (w := w) hgo (first := g.2.1) (args := vs.toArray) (caps := g.2.2)
   rw [← this, ← eval_arr hf ha hvs, ← eval_cA hf hx hfv]
   rfl
 | buildS h hu hz hp hall =>
  obtain ⟨qs, hqs, hw⟩ := onv_iff.1 hw
  obtain ⟨cs, hcs, hk⟩ := onv_iff.1 hw
  refine opW_pure ?_ hs hk
  simp only [execOp, h]
  exact run_doV (run_buildS hf hu hz hp hall hqs hcs)
 | buildA h hu hz hsz hp =>
  obtain ⟨qs, hqs, hw⟩ := onv_iff.1 hw
  obtain ⟨cs, hcs, hk⟩ := onv_iff.1 hw
  refine opW_pure ?_ hs hk
  simp only [execOp, h]
  exact run_doV (run_buildA hf hu hz hsz hp hqs hcs)
 | buildSl h hu hz hsz hzs hn hp =>
  obtain ⟨qs, hqs, hw⟩ := onv_iff.1 hw
  obtain ⟨cs, hcs, hk⟩ := onv_iff.1 hw
  refine Does.value (w' := w.alloc (Cl _ cs)) ?_ ⟨M, _, hs.alloc _, hk w.heap.size⟩
  simp only [execOp, h]
  exact run_doV (run_buildSl hf hu hz hsz hzs hn hp hqs hcs)
 | append h hx hy hu hi hz hzs hpos => exact opW_append h hx hy hu hi hz hzs hpos hf hs hw
 | makeSl h hx hy hu hi hz hzs hpos => exact opW_makeSl h hx hy hu hi hz hzs hpos hf hs hw
 | slS h hx hlo hhi hmx hu hsz => exact opW_slS h hx hlo hhi hmx hu hsz hf hs hw
 | slA h hx hlo hhi hu hsz => exact opW_slA h hx hlo hhi hu hsz hf hs hw
 | bad => exact hw.elim
 | @mini ts x0 y0 _ _ h hx hy =>
  obtain ⟨x, hvx, hw⟩ := onv_iff.1 hw
  obtain ⟨y, hvy, hw⟩ := onv_iff.1 hw
  have hres : ∃ cs, (resolve a.eval { callee := .builtin .min, args := #[x0, y0], argTypes := ts } o.type).run P w = .ok { target := .builtin .min ts o.type cs, args := #[a.eval x0, a.eval y0] } w :=
   ⟨_, by simp [resolve, Pure.pure, Sem.run]; rfl⟩
  obtain ⟨cs, hres⟩ := hres
  split at hw
  ·refine opW_pure ?_ hs hw
   simp only [execOp, h]
   rw [run_bindOk hres, eval_cA hf hx hvx, eval_cA hf hy hvy]
   rfl
  ·exact hw.elim
 | eqS h hu hx =>
  obtain ⟨x, hvx, hw⟩ := onv_iff.1 hw
  obtain ⟨sl, hsl, hk⟩ := onv_iff.1 hw
  have e1 := sl?_some hsl
  subst e1
  exact opW_pure (opW_eqS h hu (eval_cA hf hx hvx)) hs hk
 | eqA h he hx hy =>
  obtain ⟨x, hvx, hw⟩ := onv_iff.1 hw
  obtain ⟨y, hvy, hw⟩ := onv_iff.1 hw
  obtain ⟨xs, hxs, hw⟩ := onv_iff.1 hw
  obtain ⟨ys, hys, hw⟩ := onv_iff.1 hw
  obtain ⟨r, hr, hk⟩ := onv_iff.1 hw
  have e1 := agg?_some hxs
  have e2 := agg?_some hys
  subst e1 e2
  exact opW_pure (opW_eqA h he (eval_cA hf hx hvx) (eval_cA hf hy hvy) hr) hs hk
 | idx1 h hx hi hu ha hsz =>
  obtain ⟨x, hvx, hw⟩ := onv_iff.1 hw
  obtain ⟨i, hvi, hw⟩ := onv_iff.1 hw
  obtain ⟨l, hl, hw⟩ := onv_iff.1 hw
  obtain ⟨j, hj, h0, h1, hw⟩ := onv_iff.1 hw
  obtain ⟨v, hv, hk⟩ := onv_iff.1 hw
  have e1 := agg?_some hl
  obtain ⟨k, e2⟩ := int?_some hj
  subst e1 e2
  exact opW_pure (opW_idx1 h hu ha hsz (eval_cA hf hx hvx) (eval_cA hf hi hvi) h0 h1 hv) hs hk
 | idxA h hx hi hu ha hsz =>
  obtain ⟨x, hvx, hw⟩ := onv_iff.1 hw
  obtain ⟨i, hvi, hw⟩ := onv_iff.1 hw
  obtain ⟨l, hl, hw⟩ := onv_iff.1 hw
  obtain ⟨j, hj, h0, h1, hk⟩ := onv_iff.1 hw
  have e1 := agg?_some hl
  obtain ⟨k, e2⟩ := int?_some hj
  subst e1 e2
  exact opW_pure (opW_idxA h hu ha hsz (eval_cA hf hx hvx) (eval_cA hf hi hvi) h0 h1) hs hk
 | @cap t e x0 _ h hx hu =>
  obtain ⟨x, hvx, hw⟩ := onv_iff.1 hw
  obtain ⟨sl, hsl, hk⟩ := onv_iff.1 hw
  have e1 := sl?_some hsl
  subst e1
  refine opW_pure ?_ hs hk
  simp only [execOp, h]
  have hres : ∃ cs, (resolve a.eval { callee := .builtin .cap, args := #[x0], argTypes := #[t] } o.type).run P w = .ok { target := .builtin .cap #[t] o.type cs, args := #[a.eval x0] } w :=
   ⟨_, by simp [resolve, Pure.pure, Sem.run]; rfl⟩
  obtain ⟨cs, hres⟩ := hres
  rw [run_bindOk hres, eval_cA hf hx hvx]
  refine run_doV (v := .int .i64 sl.2.2) ?_
  show (do let d ← underlying t; _ : Sem Value).run P w = _
  rw [run_bindOk (run_underlying' hu w)]
  rfl
 | clearS h hx hu hz hzc h1 => exact opW_clearS h hx hu hz hzc h1 hf hs hw
 | copyO h hx hy hu hsz => exact opW_copyO h hx hy hu hsz hf hs hw
 | appendZ h hx hy hu hu' hi hz hzs hpos => exact opW_appendZ h hx hy hu hu' hi hz hzs hpos hf hs hw
 | @ext f args ts _ h ha =>
  obtain ⟨vs, hvs, v, hr, hk⟩ := onv_iff.1 hw
  obtain ⟨w', hr, q1, q2, q3, q4⟩ := hr w hs
  refine Does.value (v := v) (w' := w') ?_ ⟨M, G, ⟨q1.trans hs.os, q2.trans hs.tape, q3.trans hs.output, by rw [q4]; exact hs.size, by rw [q4]; exact hs.frame, by rw [q4]; exact hs.agree, by rw [q4]; exact hs.own, hs.sep, hs.new, hs.nodup, hs.base, hs.fresh⟩, hk⟩
  simp only [execOp, h]
  rw [← hr, ← eval_arr hf ha hvs]
  have hres : ∃ cs, (resolve a.eval { callee := .value (.func f), args := args, argTypes := ts } o.type).run P w = .ok { target := .fn (.func f) cs, args := args.map a.eval } w ∧ cs = #[] :=
   ⟨#[], by simp [resolve, Act.eval, Deferred.ofValue, Pure.pure, Sem.run], rfl⟩
  obtain ⟨cs, hres, rfl⟩ := hres
  rw [run_bindOk hres]
  simp [invoke]
 | raw =>
  obtain ⟨v, hr, hk⟩ := hw
  exact opW_pure (hr a hf w hs) hs hk

end
end Go.EV

namespace Go.EV
variable {P : Program}

inductive Sts where
 | nil
 | op (d : Option Nat) (r : ROp) (rest : Sts)
 | cnd (s : Nat) (want : Bool) (body : Sts) (d : Nat) (last : A) (rest : Sts)

def putE (d : Option Nat) (v : Value) (ρ : Env) : Env :=
 match d with
 | some d => (d, v) :: ρ
 | none => ρ

/-- A guarded piece: carried out if c is what is wanted; what follows goes on with the Bool of the whole. -/
def condW (c want : Bool) (M : PHeap) (G : Own) (A : (Bool → PHeap → Own → Prop) → Prop) (K : Bool → PHeap → Own → Prop) : Prop :=
 (c = want → A K) ∧ (c ≠ want → K c M G)

def wpS (C : Cx P) : Sts → Env → PHeap → Own → (Env → PHeap → Own → Prop) → Prop
 | .nil, ρ, M, G, K => K ρ M G
 | .op d r rest, ρ, M, G, K => opW C ρ M G (fun v M' G' => wpS C rest (putE d v ρ) M' G' K) r
 | .cnd s want body d last rest, ρ, M, G, K => onv (get ρ s) fun v => onv (bool? v) fun c =>
   condW c want M G (fun K' => wpS C body ρ M G fun ρ' M' G' => onv (ev ρ' last) fun u => onv (bool? u) fun e => K' e M' G') fun e M' G' => wpS C rest ((d, .bool e) :: ρ) M' G' K

/-- Both ways come together: the Bool of the whole, and nothing turned. -/
theorem condW.merge {c want : Bool} {M : PHeap} {G : Own} {A : (Bool → PHeap → Own → Prop) → Prop} {K : Bool → PHeap → Own → Prop} (e : Bool)
  (h : c = want → ∀ K' : Bool → PHeap → Own → Prop, K' e M G → A K') (hk : K (if want then c && e else c || e) M G) : condW c want M G A K := by
 refine ⟨fun hc => h hc K ?_, fun hc => ?_⟩
 ·subst hc; cases c <;> simpa using hk
 ·cases c <;> cases want <;> simp_all

inductive CmpS (P : Program) (ops : Array Oper) (nt : Nat) : Option (Nat × Bool) → Nat → Nat → Nat → Sts → Prop
 | nil {g : Option (Nat × Bool)} {i0 i : Nat} : CmpS P ops nt g i0 i i .nil
 | op {g : Option (Nat × Bool)} {i0 i j : Nat} {o : Oper} {r : ROp} {rest : Sts} (ho : ops[i]? = some o) (hg : o.guard = g) (hgi : ∀ p, g = some p → p.1 < i) (hc : Cmp P o r) (hd : ∀ c, o.op ≠ .defer c) (hdst : ∀ d, o.dst = some d → d < nt)
   (h : CmpS P ops nt g i0 (i + 1) j rest) : CmpS P ops nt g i0 i j (.op o.dst r rest)
 | cnd {g : Option (Nat × Bool)} {i0 i m j gi s d : Nat} {want : Bool} {og o : Oper} {body rest : Sts} {x : Operand} {last : A} (hgo : ops[gi]? = some og) (hgs : og.dst = some s) (hgi : gi < i) (hin : g.isSome = true → i0 ≤ gi ∧ og.guard = g)
   (hgi' : ∀ p, g = some p → p.1 < i) (hb : CmpS P ops nt (some (gi, want)) i i m body) (ho : ops[m]? = some o) (hg : o.guard = g) (hop : o.op = if want then .pick (.tmp s) x (.const (.bool false)) else .pick (.tmp s) (.const (.bool true)) x) (hx : cA x = some last) (hd : o.dst = some d) (hdn : d < nt)
   (h : CmpS P ops nt g i0 (m + 1) j rest) : CmpS P ops nt g i0 i j (.cnd s want body d last rest)

theorem CmpS.le {ops : Array Oper} {nt : Nat} {g : Option (Nat × Bool)} {i0 i j : Nat} {sts : Sts} (h : CmpS P ops nt g i0 i j sts) : i ≤ j := by
 induction h with
 | nil => exact Nat.le_refl _
 | op _ _ _ _ _ _ _ ih => omega
 | cnd _ _ _ _ _ _ _ _ _ _ _ _ _ ih1 ih2 => omega

theorem CmpS.guarded {ops : Array Oper} {nt : Nat} {g : Option (Nat × Bool)} {i0 i j : Nat} {sts : Sts} (h : CmpS P ops nt g i0 i j sts) : g ≠ none → ∀ (t : Nat) (o : Oper), i ≤ t → t < j → ops[t]? = some o → o.guard ≠ none := by
 induction h with
 | nil => intro _ t o h1 h2; omega
 | @op g i0 i j o r rest ho hg _ _ _ _ _ ih =>
  intro hn t o' h1 h2 hto
  by_cases e : t = i
  ·subst e; rw [ho] at hto; cases hto; rw [hg]; exact hn
  ·exact ih hn t o' (by omega) h2 hto
 | @cnd g i0 i m j gi s d want og o body rest x last _ _ _ _ _ hb ho hg _ _ _ _ h ih1 ih2 =>
  intro hn t o' h1 h2 hto
  by_cases h3 : t < m
  ·exact ih1 (by simp) t o' h1 h3 hto
  ·by_cases e : t = m
   ·subst e; rw [ho] at hto; cases hto; rw [hg]; exact hn
   ·exact ih2 hn t o' (by omega) h2 hto

/-- No two operations of a region write one temporary. -/
def OneDst (ops : Array Oper) : Prop := ∀ (t t' : Nat) (o o' : Oper) (d : Nat), ops[t]? = some o → ops[t']? = some o' → o.dst = some d → o'.dst = some d → t = t'

/-- The guard holds. -/
def GOK (ops : Array Oper) (g : Option (Nat × Bool)) (a : Act) : Prop :=
 ∀ gi want, g = some (gi, want) → ∃ og s, ops[gi]? = some og ∧ og.dst = some s ∧ a.tmps[s]? = some (.bool want)

/-- What is known is of the variables, or of what was written in this region. -/
def Dom (V : List Nat) (ops : Array Oper) (i : Nat) (ρ : Env) : Prop := ∀ t v, get ρ t = some v → t ∈ V ∨ ∃ u o, u < i ∧ ops[u]? = some o ∧ o.dst = some t

theorem Dom.mono {V : List Nat} {ops : Array Oper} {i j : Nat} {ρ : Env} (h : Dom V ops i ρ) (hij : i ≤ j) : Dom V ops j ρ := fun t v ht =>
 (h t v ht).imp id fun ⟨u, o, h1, h2, h3⟩ => ⟨u, o, by omega, h2, h3⟩

theorem wanted_ok {ops : Array Oper} {o : Oper} {g : Option (Nat × Bool)} {a : Act} (hg : o.guard = g) (h : GOK ops g a) : Region.wanted o (yielded ops a.tmps) = true := by
 unfold Region.wanted
 cases hgg : g with
 | none => rw [hg, hgg]
 | some p =>
  obtain ⟨gi, want⟩ := p
  obtain ⟨og, s, h1, h2, h3⟩ := h gi want hgg
  simp [hg, hgg, yielded, h1, h2, h3]

theorem not_wanted {ops : Array Oper} {o og : Oper} {a : Act} {gi s : Nat} {want : Bool} {v : Value} (hg : o.guard = some (gi, want)) (hgo : ops[gi]? = some og) (hgs : og.dst = some s) (hgv : a.tmps[s]? = some v) (hv : v ≠ .bool want) :
  Region.wanted o (yielded ops a.tmps) = false := by
 have hy : yielded ops a.tmps gi = (match v with | .bool b => some b | _ => none) := by
  simp only [yielded, hgo, Option.bind_some, hgs, hgv]
  cases v <;> rfl
 simp only [Region.wanted, hg, hy]
 cases v with
 | bool b =>
  have : b ≠ want := fun e => hv (by rw [e])
  simpa using this
 | _ => rfl

theorem put_other {a : Act} {d s : Nat} {v : Value} (h : d ≠ s) : (a.put (some d) v).tmps[s]? = a.tmps[s]? := by
 simp [Act.put, Array.getElem?_setIfInBounds, h]

theorem GOK.put {ops : Array Oper} (hod : OneDst ops) {g : Option (Nat × Bool)} {a : Act} {i : Nat} {o : Oper} (ho : ops[i]? = some o) (hgi : ∀ p, g = some p → p.1 < i) (h : GOK ops g a) (v : Value) : GOK ops g (a.put o.dst v) := by
 intro gi want hg
 obtain ⟨og, s, h1, h2, h3⟩ := h gi want hg
 refine ⟨og, s, h1, h2, ?_⟩
 cases hd : o.dst with
 | none => exact h3
 | some d =>
  rw [put_other ?_]
  ·exact h3
  ·rintro rfl
   have := hod i gi o og d ho h1 hd h2
   have := hgi _ hg
   simp at this; omega

theorem Dom.put {V : List Nat} {ops : Array Oper} {i : Nat} {ρ : Env} {o : Oper} (h : Dom V ops i ρ) (ho : ops[i]? = some o) (v : Value) : Dom V ops (i + 1) (putE o.dst v ρ) := by
 cases hd : o.dst with
 | none => exact h.mono (by omega)
 | some d =>
  intro t u ht
  simp only [putE, get] at ht
  split at ht
  ·rename_i e; subst e; exact .inr ⟨i, o, by omega, ho, hd⟩
  ·exact h.mono (Nat.le_succ i) t u ht

theorem Fits.putE {nt : Nat} {ρ : Env} {a : Act} (h : Fits nt ρ a) (d : Option Nat) (hd : ∀ e, d = some e → e < nt) (v : Value) : Fits nt (putE d v ρ) (a.put d v) := by
 cases d with
 | none => exact h
 | some d => exact h.put d (hd d rfl) v

theorem range'_cons {i j : Nat} (h : i < j) : List.range' i (j - i) = i :: List.range' (i + 1) (j - (i + 1)) := by
 have : j - i = (j - (i + 1)) + 1 := by omega
 rw [this, List.range'_succ]

theorem range'_split {i m j : Nat} (h1 : i ≤ m) (h2 : m ≤ j) : List.range' i (j - i) = List.range' i (m - i) ++ List.range' m (j - m) := by
 have := @List.range'_append i (m - i) (j - m) 1
 rw [Nat.one_mul] at this
 rw [show m = i + (m - i) from by omega] at this ⊢
 rw [show i + (m - i) - i = m - i from by omega] at *
 rw [this]
 congr 1
 omega

section
variable {C : Cx P} {ops : Array Oper} {k : List Item} {cs : List Frame}

/-- A guarded piece whose guard says no: everything in it is passed over. -/
theorem skipS (hod : OneDst ops) {g : Option (Nat × Bool)} {i0 i j : Nat} {sts : Sts} (h : CmpS P ops C.nt g i0 i j sts) :
  ∀ {a : Act} {w : World} {gi : Nat} {want : Bool} {og : Oper} {s : Nat} {v : Value} (_ : g = some (gi, want)) (_ : ops[gi]? = some og) (_ : og.dst = some s) (_ : a.tmps[s]? = some v) (_ : v ≠ .bool want) (_ : a.tmps.size = C.nt)
   (_ : i0 ≤ i) (_ : gi < i0) (_ : ∀ t o d, i0 ≤ t → t < i → ops[t]? = some o → o.dst = some d → a.tmps[d]? = some undef) {tail : List Nat}
   (_ : ∀ a' : Act, a'.tmps.size = C.nt → a'.defers = a.defers → (∀ e, (∀ t o, i ≤ t → t < j → ops[t]? = some o → o.dst ≠ some e) → a'.tmps[e]? = a.tmps[e]?) →
    (∀ t o e, i ≤ t → t < j → ops[t]? = some o → o.dst = some e → a'.tmps[e]? = some undef) → C.T cs (lone (C.b.atR a' (.inRegion ops tail :: k)) cs w)),
   C.T cs (lone (C.b.atR a (.inRegion ops (List.range' i (j - i) ++ tail) :: k)) cs w) := by
 induction h with
 | nil =>
  intro a w gi want og s v hg hgo hgs hgv hv hsz hi0 hgi0 hun tail hT
  simpa using hT a hsz rfl (fun e _ => rfl) (fun t o e h1 h2 => by omega)
 | @op g i0 i j o r rest ho hog hgi hc hd hdst h ih =>
  intro a w gi want og s v hg hgo hgs hgv hv hsz hi0 hgi0 hun tail hT
  have hle := h.le
  rw [range'_cons (by omega), List.cons_append]
  have hnw : Region.wanted o (yielded ops a.tmps) = false := not_wanted (hog.trans hg) hgo hgs hgv hv
  refine C.back (stepR_op_skip (by rw [ho]; exact hnw)) ?_
  rw [show (ops[i]?).bind (·.dst) = o.dst from by rw [ho]; rfl]
  have hs' : (a.put o.dst undef).tmps[s]? = some v := by
   cases hdd : o.dst with
   | none => exact hgv
   | some d =>
    rw [put_other ?_]
    ·exact hgv
    ·rintro rfl
     have := hod i gi o og d ho hgo hdd hgs
     omega
  have hsz' : (a.put o.dst undef).tmps.size = C.nt := by cases o.dst <;> simp [Act.put, hsz]
  have hself : ∀ e, o.dst = some e → (a.put o.dst undef).tmps[e]? = some undef := by
   intro e he
   have := hdst e he
   simp [Act.put, he, hsz, this]
  have hoth : ∀ t o' e, ops[t]? = some o' → o'.dst = some e → t ≠ i → (a.put o.dst undef).tmps[e]? = a.tmps[e]? := by
   intro t o' e hto hte hn
   cases hdd : o.dst with
   | none => rfl
   | some d =>
    rw [put_other ?_]
    rintro rfl
    exact hn (hod t i o' o d hto ho hte hdd)
  refine ih hg hgo hgs hs' hv hsz' (by omega) hgi0 ?_ ?_
  ·intro t o' d ht0 ht1 hto htd
   by_cases e : t = i
   ·subst e
    rw [ho] at hto; cases hto
    exact hself d htd
   ·rw [hoth t o' d hto htd e]
    exact hun t o' d ht0 (by omega) hto htd
  ·intro a' h1 h2 h3 h4
   refine hT a' h1 (h2.trans (put_defers _ _ _)) ?_ ?_
   ·intro e he
    rw [h3 e (fun t o' ht0 ht1 => he t o' (by omega) ht1)]
    cases hdd : o.dst with
    | none => rfl
    | some d =>
     rw [put_other ?_]
     rintro rfl
     exact he i o (Nat.le_refl _) (by omega) ho hdd
   ·intro t o' e ht0 ht1 hto hte
    by_cases et : t = i
    ·subst et
     rw [ho] at hto; cases hto
     rw [h3 e ?_]
     ·exact hself e hte
     ·intro t' o'' q1 q2 q3 q4
      have := hod t t' o o'' e ho q3 hte q4
      omega
    ·exact h4 t o' e (by omega) ht1 hto hte
 | @cnd g i0 i m j gj s' d want' og' o body rest x last hgo' hgs' hgi' hin hgi2 hb ho hog hop hx hdo hdn h ih1 ih2 =>
  intro a w gi want og s v hg hgo hgs hgv hv hsz hi0 hgi0 hun tail hT
  have hm1 := hb.le
  have hm2 := h.le
  obtain ⟨hin1, hin2⟩ := hin (by simp [hg])
  have hund : a.tmps[s']? = some undef := hun gj og' s' hin1 hgi' hgo' hgs'
  rw [range'_split (m := m) hm1 (by omega), range'_cons (i := m) (by omega), List.append_assoc, List.cons_append]
  refine ih1 rfl hgo' hgs' hund (by simp [undef]) hsz (Nat.le_refl _) (by omega) (fun t o' d' h1 h2 => by omega) ?_
  intro a1 z1 z2 z3 z4
  have keep : ∀ e t o', ops[t]? = some o' → o'.dst = some e → ¬ (i ≤ t ∧ t < m) → a1.tmps[e]? = a.tmps[e]? := by
   intro e t o' hto hte hn
   refine z3 e fun t' o'' h1 h2 h3 h4 => hn ?_
   have := hod t' t o'' o' e h3 hto h4 hte
   omega
  have hs1 : a1.tmps[s]? = some v := by rw [keep s gi og hgo hgs (by omega)]; exact hgv
  have hnw : Region.wanted o (yielded ops a1.tmps) = false := not_wanted (hog.trans hg) hgo hgs hs1 hv
  refine C.back (stepR_op_skip (by rw [ho]; exact hnw)) ?_
  rw [show (ops[m]?).bind (·.dst) = some d from by rw [ho]; exact hdo]
  have hne : ∀ t o' e, ops[t]? = some o' → o'.dst = some e → t ≠ m → d ≠ e := by
   intro t o' e hto hte hn e'
   subst e'
   exact hn (hod t m o' o d hto ho hte hdo)
  have hself : (a1.put (some d) undef).tmps[d]? = some undef := by simp [Act.put, z1, hdn]
  refine ih2 hg hgo hgs (by rw [put_other (hne gi og s hgo hgs (by omega))]; exact hs1) hv (by simp [Act.put, z1]) (by omega) hgi0 ?_ ?_
  ·intro t o' e ht0 ht1 hto hte
   by_cases em : t = m
   ·subst em
    rw [ho] at hto; cases hto
    rw [hdo] at hte; cases hte
    exact hself
   ·rw [put_other (hne t o' e hto hte em)]
    by_cases hin3 : i ≤ t
    ·exact z4 t o' e hin3 (by omega) hto hte
    ·rw [keep e t o' hto hte (by omega)]
     exact hun t o' e ht0 (by omega) hto hte
  ·intro a' h1 h2 h3 h4
   refine hT a' h1 (h2.trans ((put_defers _ _ _).trans z2)) ?_ ?_
   ·intro e he
    rw [h3 e (fun t o' ht0 ht1 => he t o' (by omega) ht1)]
    rw [put_other (fun e' => he m o hm1 (by omega) ho (by rw [hdo, e']))]
    exact z3 e fun t o' ht0 ht1 => he t o' ht0 (by omega)
   ·intro t o' e ht0 ht1 hto hte
    by_cases et : m + 1 ≤ t
    ·exact h4 t o' e et ht1 hto hte
    ·rw [h3 e ?_]
     ·by_cases em : t = m
      ·subst em
       rw [ho] at hto; cases hto
       rw [hdo] at hte; cases hte
       exact hself
      ·rw [put_other (hne t o' e hto hte em)]
       exact z4 t o' e ht0 (by omega) hto hte
     ·intro t' o'' q1 q2 q3 q4
      have := hod t t' o' o'' e hto q3 hte q4
      omega


/-- The operations of a region, in the order of the text. -/
theorem wpS_sound (hod : OneDst ops) {V : List Nat} {g : Option (Nat × Bool)} {i0 i j : Nat} {sts : Sts} (h : CmpS P ops C.nt g i0 i j sts) :
  ∀ {ρ : Env} {M : PHeap} {G : Own} {K : Env → PHeap → Own → Prop} {a : Act} {w : World} {tail : List Nat} (_ : GOK ops g a) (_ : Dom V ops i ρ) (_ : ∀ t o d, i ≤ t → t < j → ops[t]? = some o → o.dst = some d → o.guard ≠ none → d ∉ V)
   (_ : Fits C.nt ρ a) (_ : a.defers = C.ds) (_ : C.St M G w) (_ : wpS C sts ρ M G K)
   (_ : ∀ (a' : Act) (ρ' : Env) (M' : PHeap) (G' : Own) (w' : World), GOK ops g a' → Dom V ops j ρ' → Fits C.nt ρ' a' → a'.defers = C.ds → C.St M' G' w' → K ρ' M' G' →
    (∀ e, (∀ t o, i ≤ t → t < j → ops[t]? = some o → o.dst ≠ some e) → a'.tmps[e]? = a.tmps[e]?) → C.T cs (lone (C.b.atR a' (.inRegion ops tail :: k)) cs w')),
   C.T cs (lone (C.b.atR a (.inRegion ops (List.range' i (j - i) ++ tail) :: k)) cs w) := by
 induction h with
 | nil =>
  intro ρ M G K a w tail hg hd hV hf hds hs hw hT
  simpa using hT a ρ M G w hg hd hf hds hs hw (fun e _ => rfl)
 | @op g i0 i j o r rest ho hog hgi hc hdf hdst h ih =>
  intro ρ M G K a w tail hg hd hV hf hds hs hw hT
  rw [range'_cons (by have := h.le; omega), List.cons_append]
  refine step_does C ho (wanted_ok hog hg) hdf ?_
  refine (opW_sound hc hf hs hw).mono ?_
  rintro v w' ⟨M', G', hs', hw'⟩
  refine ih (hg.put hod ho hgi v) (hd.put ho v) (fun t o' d h1 h2 h3 h4 h5 => hV t o' d (by omega) h2 h3 h4 h5) (hf.putE o.dst hdst v) ((put_defers _ _ _).trans hds) hs' hw' ?_
  intro a' ρ' M'' G'' w'' q1 q2 q3 q4 q5 q6 q7
  refine hT a' ρ' M'' G'' w'' q1 q2 q3 q4 q5 q6 ?_
  intro e he
  rw [q7 e (fun t o' h1 h2 => he t o' (by omega) h2)]
  cases hdd : o.dst with
  | none => rfl
  | some d =>
   rw [put_other ?_]
   rintro rfl
   exact he i o (Nat.le_refl _) (by have := h.le; omega) ho hdd
 | @cnd g i0 i m j gi s d want og o body rest x last hgo hgs hgi hin hgi2 hb ho hog hop hx hdo hdn h ih1 ih2 =>
  intro ρ M G K a w tail hg hd hV hf hds hs hw hT
  have hm1 := hb.le
  have hm2 := h.le
  simp only [wpS] at hw
  obtain ⟨v, hv, hw⟩ := onv_iff.1 hw
  obtain ⟨c, hc, hyes, hno⟩ := onv_iff.1 hw
  have e0 := bool?_some hc
  subst e0
  have hsv : a.tmps[s]? = some (.bool c) := hf.2 s _ hv
  rw [range'_split (m := m) hm1 (by omega), range'_cons (i := m) (by omega), List.append_assoc, List.cons_append]
  -- behind the pick
  have pick : ∀ (a1 : Act) (e : Bool) (M1 : PHeap) (G1 : Own) (w1 : World), GOK ops g a1 → Fits C.nt ρ a1 → a1.defers = C.ds → C.St M1 G1 w1 → wpS C rest ((d, .bool e) :: ρ) M1 G1 K →
    (a1.tmps[s]? = some (.bool c)) → (c = want → a1.eval x = .bool e) → (c ≠ want → e = c) → (∀ e, (∀ t o, i ≤ t → t < m → ops[t]? = some o → o.dst ≠ some e) → a1.tmps[e]? = a.tmps[e]?) →
    C.T cs (lone (C.b.atR a1 (.inRegion ops (m :: (List.range' (m + 1) (j - (m + 1)) ++ tail)) :: k)) cs w1) := by
   intro a1 e M1 G1 w1 hg1 hf1 hd1 hs1 hw1 hsc h1 h2 hkeep
   refine step_does C ho (wanted_ok hog hg1) (by intro cc; rw [hop]; split <;> simp) ?_
   refine Does.value (v := .bool e) (w' := w1) ?_ ?_
   ·have hes : a1.eval (.tmp s) = .bool c := by simp [Act.eval, Array.getD_eq_getD_getElem?, hsc]
    cases want
    ·have hop' : o.op = .pick (.tmp s) (.const (.bool true)) x := by simpa using hop
     simp only [execOp, hop', hes]
     rw [run_bindOk (a := c) (w' := w1) rfl]
     cases c
     ·simp [h1 rfl, Pure.pure, Sem.run]
     ·simp [h2 (by simp), Act.eval, Pure.pure, Sem.run]
    ·have hop' : o.op = .pick (.tmp s) x (.const (.bool false)) := by simpa using hop
     simp only [execOp, hop', hes]
     rw [run_bindOk (a := c) (w' := w1) rfl]
     cases c
     ·simp [h2 (by simp), Act.eval, Pure.pure, Sem.run]
     ·simp [h1 rfl, Pure.pure, Sem.run]
   ·rw [hdo]
    have hdom : Dom V ops (m + 1) ((d, .bool e) :: ρ) := by
     have := (hd.mono hm1).put ho (.bool e)
     rwa [hdo] at this
    have hgg := hg1.put hod ho (fun p hp => by have := hgi2 p hp; omega) (.bool e)
    rw [hdo] at hgg
    refine ih2 hgg hdom (fun t o' d h1 h2 h3 h4 h5 => hV t o' d (by omega) h2 h3 h4 h5) (hf1.put d hdn _) (by rw [put_defers]; exact hd1) hs1 hw1 ?_
    intro a' ρ' M'' G'' w'' q1 q2 q3 q4 q5 q6 q7
    refine hT a' ρ' M'' G'' w'' q1 q2 q3 q4 q5 q6 ?_
    intro e' he
    rw [q7 e' (fun t o' h1 h2 => he t o' (by omega) h2)]
    rw [put_other (fun e'' => he m o hm1 (by omega) ho (by rw [hdo, e'']))]
    exact hkeep e' fun t o' ht0 ht1 => he t o' ht0 (by omega)
  have back : ∀ a1 : Act, a1.tmps.size = C.nt → (∀ e, (∀ t o, i ≤ t → t < m → ops[t]? = some o → o.dst ≠ some e) → a1.tmps[e]? = a.tmps[e]?) → GOK ops g a1 ∧ Fits C.nt ρ a1 ∧ a1.tmps[s]? = some (.bool c) := by
   intro a1 hsz hkeep
   have keep : ∀ e t o', ops[t]? = some o' → o'.dst = some e → ¬ (i ≤ t ∧ t < m) → a1.tmps[e]? = a.tmps[e]? := by
    intro e t o' hto hte hn
    refine hkeep e fun t' o'' h1 h2 h3 h4 => hn ?_
    have := hod t' t o'' o' e h3 hto h4 hte
    omega
   refine ⟨?_, ⟨hsz, ?_⟩, ?_⟩
   ·intro gk wk e
    obtain ⟨og', s', h1, h2, h3⟩ := hg gk wk e
    refine ⟨og', s', h1, h2, ?_⟩
    rw [keep s' gk og' h1 h2 (by have := hgi2 _ e; simp at this; omega)]
    exact h3
   ·intro t v ht
    rw [hkeep t ?_]
    ·exact hf.2 t v ht
    ·intro t' o' h1 h2 h3 h4
     rcases hd t v ht with h5 | ⟨u, ou, h5, h6, h7⟩
     ·exact hV t' o' t h1 (by omega) h3 h4 (hb.guarded (by simp) t' o' h1 h2 h3) h5
     ·have := hod t' u o' ou t h3 h6 h4 h7
      omega
   ·rw [keep s gi og hgo hgs (by omega)]; exact hsv
  by_cases hcw : c = want
  · -- carried out
   have hgok : GOK ops (some (gi, want)) a := by
    intro gi' want' e
    cases e
    exact ⟨og, s, hgo, hgs, by rw [← hcw]; exact hsv⟩
   refine ih1 hgok hd (fun t o' d h1 h2 h3 h4 h5 => hV t o' d h1 (by omega) h3 h4 h5) hf hds hs (hyes hcw) ?_
   intro a1 ρ1 M1 G1 w1 hg1 hd1 hf1 hds1 hs1 hk1 hkeep
   obtain ⟨u, hu, hk1⟩ := onv_iff.1 hk1
   obtain ⟨e, he, hk1⟩ := onv_iff.1 hk1
   have e1 := bool?_some he
   subst e1
   obtain ⟨b1, b2, b3⟩ := back a1 hf1.1 hkeep
   exact pick a1 e M1 G1 w1 b1 b2 hds1 hs1 hk1 b3 (fun _ => eval_cA hf1 hx hu) (fun h => absurd hcw h) hkeep
  · -- passed over
   refine skipS hod hb rfl hgo hgs hsv (by simpa using hcw) hf.1 (Nat.le_refl _) hgi (fun t o' d' h1 h2 => by omega) ?_
   intro a1 z1 z2 z3 z4
   obtain ⟨b1, b2, b3⟩ := back a1 z1 z3
   exact pick a1 c M G w b1 b2 (z2.trans hds) hs (hno hcw) b3 (fun h => absurd h hcw) (fun _ => rfl) z3

end
end Go.EV

namespace Go.EV
variable {P : Program}

/-- A contract: from whatever world in which M is read and G is owned, the call hands back a value and leaves M', G' of which Φ holds; nothing else turns. -/
def Con (P : Program) (f : FuncId) (args : Array Value) (M : PHeap) (G : Own) (Φ : Value → PHeap → Own → Prop) : Prop :=
 isGo P f = true ∧ ∀ w, EV.St w (G.map (·.1)) M M G w → Calls P f args w fun e w' => ∃ v, e = .returned v ∧ ∃ M' G', EV.St w (G.map (·.1)) M M' G' w' ∧ Φ v M' G'


theorem St.callA {w0 w w' : World} {F : List Nat} {M0 M M' : PHeap} {G1 G2 G1' : Own} (hs : St w0 F M0 M (G1 ++ G2) w) (h : St w (G1.map (·.1)) M M' G1' w') : St w0 F M0 M' (G1' ++ G2) w' := by
 have hnd := hs.nodup
 rw [List.map_append] at hnd
 obtain ⟨n1, n2, n3⟩ := List.nodup_append.1 hnd
 have g2lt : ∀ p ∈ G2, p.1 < w.heap.size := fun p hp => hs.lt (by simp [hp])
 have g2ne : ∀ p ∈ G2, p.1 ∉ G1.map (·.1) := fun p hp hm => n3 p.1 hm p.1 (List.mem_map.2 ⟨p, hp, rfl⟩) rfl
 refine ⟨h.os.trans hs.os, h.tape.trans hs.tape, h.output.trans hs.output, Nat.le_trans hs.size h.size, ?_, h.agree, ?_, ?_, ?_, ?_, PHeap.le_trans hs.base h.base, ?_⟩
 ·intro b hb hf
  rw [h.frame b (Nat.lt_of_lt_of_le hb hs.size) ?_]
  ·exact hs.frame b hb hf
  ·intro hm
   obtain ⟨p, hp, e⟩ := List.mem_map.1 hm
   rcases hs.new p (by simp [hp]) with h' | h'
   ·exact hf (e ▸ h')
   ·omega
 ·intro p hp
  rcases List.mem_append.1 hp with hp | hp
  ·exact h.own p hp
  ·rw [h.frame p.1 (g2lt p hp) (g2ne p hp)]
   exact hs.own p (by simp [hp])
 ·intro p hp o hm
  rcases List.mem_append.1 hp with hp | hp
  ·exact h.sep p hp o hm
  ·rcases h.fresh p.1 o hm with h' | h' | h'
   ·exact hs.sep p (by simp [hp]) o h'
   ·exact g2ne p hp h'
   ·have := g2lt p hp; omega
 ·intro p hp
  rcases List.mem_append.1 hp with hp | hp
  ·rcases h.new p hp with h' | h'
   ·obtain ⟨q, hq, e⟩ := List.mem_map.1 h'
    have := hs.new q (by simp [hq])
    rwa [e] at this
   ·exact .inr (Nat.le_trans hs.size h')
  ·exact hs.new p (by simp [hp])
 ·rw [List.map_append]
  refine List.nodup_append.2 ⟨h.nodup, n2, ?_⟩
  intro x hx y hy e
  subst e
  obtain ⟨p, hp, e1⟩ := List.mem_map.1 hx
  obtain ⟨q, hq, e2⟩ := List.mem_map.1 hy
  rcases h.new p hp with h' | h'
  ·exact g2ne q hq (by rw [e2, ← e1]; exact h')
  ·have := g2lt q hq; omega
 ·intro b o hm
  rcases h.fresh b o hm with h' | h' | h'
  ·exact hs.fresh b o h'
  ·obtain ⟨q, hq, e⟩ := List.mem_map.1 h'
   have := hs.new q (by simp [hq])
   rw [e] at this
   exact .inr this
  ·exact .inr (.inr (Nat.le_trans hs.size h'))

/-- The callee reads what the caller owns, too; what it leaves to be read is forgotten. -/
theorem St.callB {w0 w w' : World} {F : List Nat} {M0 M Mr M' : PHeap} {G1 G2 G1' : Own} (hs : St w0 F M0 M (G1 ++ G2) w) (h : St w (G1.map (·.1)) Mr M' G1' w') : St w0 F M0 M (G1' ++ G2) w' := by
 have hnd := hs.nodup
 rw [List.map_append] at hnd
 obtain ⟨n1, n2, n3⟩ := List.nodup_append.1 hnd
 have g2lt : ∀ p ∈ G2, p.1 < w.heap.size := fun p hp => hs.lt (by simp [hp])
 have g2ne : ∀ p ∈ G2, p.1 ∉ G1.map (·.1) := fun p hp hm => n3 p.1 hm p.1 (List.mem_map.2 ⟨p, hp, rfl⟩) rfl
 have mne : ∀ b o, M b o → b ∉ G1.map (·.1) := by
  intro b o hm hb
  obtain ⟨p, hp, e⟩ := List.mem_map.1 hb
  exact hs.sep p (by simp [hp]) o (e ▸ hm)
 refine ⟨h.os.trans hs.os, h.tape.trans hs.tape, h.output.trans hs.output, Nat.le_trans hs.size h.size, ?_, ?_, ?_, ?_, ?_, ?_, hs.base, hs.fresh⟩
 ·intro b hb hf
  rw [h.frame b (Nat.lt_of_lt_of_le hb hs.size) ?_]
  ·exact hs.frame b hb hf
  ·intro hm
   obtain ⟨p, hp, e⟩ := List.mem_map.1 hm
   rcases hs.new p (by simp [hp]) with h' | h'
   ·exact hf (e ▸ h')
   ·omega
 ·intro b o hm
  rw [h.frame b (hs.ltM hm) (mne b o hm)]
  exact hs.agree b o hm
 ·intro p hp
  rcases List.mem_append.1 hp with hp | hp
  ·exact h.own p hp
  ·rw [h.frame p.1 (g2lt p hp) (g2ne p hp)]
   exact hs.own p (by simp [hp])
 ·intro p hp o hm
  rcases List.mem_append.1 hp with hp | hp
  ·rcases h.new p hp with h' | h'
   ·exact mne p.1 o hm h'
   ·have := hs.ltM hm; omega
  ·exact hs.sep p (by simp [hp]) o hm
 ·intro p hp
  rcases List.mem_append.1 hp with hp | hp
  ·rcases h.new p hp with h' | h'
   ·obtain ⟨q, hq, e⟩ := List.mem_map.1 h'
    have := hs.new q (by simp [hq])
    rwa [e] at this
   ·exact .inr (Nat.le_trans hs.size h')
  ·exact hs.new p (by simp [hp])
 ·rw [List.map_append]
  refine List.nodup_append.2 ⟨h.nodup, n2, ?_⟩
  intro x hx y hy e
  subst e
  obtain ⟨p, hp, e1⟩ := List.mem_map.1 hx
  obtain ⟨q, hq, e2⟩ := List.mem_map.1 hy
  rcases h.new p hp with h' | h'
  ·exact g2ne q hq (by rw [e2, ← e1]; exact h')
  ·have := g2lt q hq; omega

section
variable {C : Cx P} {f : FuncId} {args : Array Value} {M : PHeap} {G G1 G2 : Own} {K : Value → PHeap → Own → Prop} {Φ : Value → PHeap → Own → Prop}

theorem Con.mono {Ψ : Value → PHeap → Own → Prop} (h : Con P f args M G Φ) (hk : ∀ v M' G', Φ v M' G' → Ψ v M' G') : Con P f args M G Ψ :=
 ⟨h.1, fun w hs cs => let ⟨e, w', fr, ⟨v, he, M', G', h1, h2⟩, r⟩ := h.2 w hs cs; ⟨e, w', fr, ⟨v, he, M', G', h1, hk _ _ _ h2⟩, r⟩⟩

theorem St.part {w0 w : World} {F : List Nat} {M0 Mr : PHeap} (hs : St w0 F M0 M (G1 ++ G2) w) (hMr : Mr.le (M.add G2)) : St w (G1.map (·.1)) Mr Mr G1 w := by
 have hnd := hs.nodup
 rw [List.map_append] at hnd
 obtain ⟨n1, n2, n3⟩ := List.nodup_append.1 hnd
 refine St.enter (fun b o hb => ?_) (fun p hp => hs.own p (by simp [hp])) (fun p hp o hm => ?_) n1
 ·rcases hMr b o hb with h | h
  ·exact hs.agree b o h
  ·exact hs.own (b, o) (by simp [h])
 ·rcases hMr _ o hm with h | h
  ·exact hs.sep p (by simp [hp]) o h
  ·exact n3 p.1 (List.mem_map.2 ⟨p, hp, rfl⟩) p.1 (List.mem_map.2 ⟨_, h, rfl⟩) rfl

theorem Con.callA (h : Con P f args M G1 Φ) (hG : G.Perm (G1 ++ G2)) (hk : ∀ v M' G', M.le M' → Φ v M' G' → K v M' (G2 ++ G')) : CallW C f args M G K := by
 refine ⟨h.1, fun w hs cs => ?_⟩
 have hs' := hs.perm hG
 obtain ⟨e, w', fr, ⟨v, he, M', G', h1, h2⟩, r⟩ := h.2 w (hs'.part (PHeap.le_add _ _)) cs
 exact ⟨e, w', fr, ⟨v, he, M', G2 ++ G', (hs'.callA h1).perm List.perm_append_comm, hk v M' G' h1.base h2⟩, r⟩

theorem Con.callB {Mr : PHeap} (h : Con P f args Mr G1 Φ) (hMr : Mr.le (M.add G2)) (hG : G.Perm (G1 ++ G2)) (hk : ∀ v M' G', Φ v M' G' → K v M (G2 ++ G')) : CallW C f args M G K := by
 refine ⟨h.1, fun w hs cs => ?_⟩
 have hs' := hs.perm hG
 obtain ⟨e, w', fr, ⟨v, he, M', G', h1, h2⟩, r⟩ := h.2 w (hs'.part hMr) cs
 exact ⟨e, w', fr, ⟨v, he, M, G2 ++ G', (hs'.callB h1).perm List.perm_append_comm, hk v M' G' h2⟩, r⟩

/-- A contract of a function that only reads: which value it hands back. -/
def ConQ (P : Program) (f : FuncId) (args : Array Value) (M : PHeap) (v : Value) : Prop := Con P f args M [] fun u _ _ => u = v

theorem ConQ.call {v : Value} (h : ConQ P f args (M.add G) v) (hk : K v M G) : CallW C f args M G K := by
 refine ⟨h.1, fun w hs cs => ?_⟩
 obtain ⟨e, w', fr, ⟨u, he, M', G', h1, h2⟩, r⟩ := h.2 w (St.part (G1 := []) (G2 := G) hs (PHeap.le_refl _)) cs
 subst h2
 refine ⟨e, w', fr, ⟨u, he, M, G, ?_, hk⟩, r⟩
 have := St.callB (G1 := []) (G2 := G) hs h1
 exact this.weaken (List.sublist_append_right _ _)

end
end Go.EV

namespace Go.EV
variable {P : Program}

/-- Only new blocks. -/
structure Ext (w w' : World) : Prop where
 os : w'.os = w.os
 tape : Tp w' w
 output : w'.output = w.output
 size : w.heap.size ≤ w'.heap.size
 block : ∀ k, k < w.heap.size → w'.heap[k]? = w.heap[k]?

theorem Ext.refl (w : World) : Ext w w := ⟨rfl, Tp.refl _, rfl, Nat.le_refl _, fun _ _ => rfl⟩

theorem St.ext {w0 w w' : World} {F : List Nat} {M0 M : PHeap} {G : Own} (h : St w0 F M0 M G w) (e : Ext w w') : St w0 F M0 M G w' :=
 ⟨e.os.trans h.os, e.tape.trans h.tape, e.output.trans h.output, Nat.le_trans h.size e.size,
  fun b hb hf => (e.block b (Nat.lt_of_lt_of_le hb h.size)).trans (h.frame b hb hf), fun b o hb => (e.block b (h.ltM hb)).trans (h.agree b o hb),
  fun p hp => (e.block p.1 (h.lt hp)).trans (h.own p hp), h.sep, h.new, h.nodup, h.base, h.fresh⟩

theorem St.kept {w0 w w' : World} {F : List Nat} {M0 M Mk : PHeap} {G Gk : Own} (hk : St w0 F M0 Mk Gk w) (h : St w0 F M0 M G w') (hM : Mk.le M) (hG : ∀ p ∈ Gk, p ∈ G) : St w0 F M0 Mk Gk w' :=
 ⟨h.os, h.tape, h.output, h.size, h.frame, fun b o hb => h.agree b o (hM b o hb), fun p hp => h.own p (hG p hp), hk.sep, hk.new, hk.nodup, hk.base, hk.fresh⟩

section
variable {C : Cx P} {ops : Array Oper}

def dep (ops : Array Oper) (i j : Nat) : Prop := ∃ o, ops[j]? = some o ∧ ∃ e ∈ o.after.toList, Region.binds .any e = true ∧ e.on = i

inductive Bef (ops : Array Oper) : Nat → Nat → Prop
 | one {i j : Nat} (h : dep ops i j) : Bef ops i j
 | step {i k j : Nat} (h : Bef ops i k) (hd : dep ops k j) : Bef ops i j

/-- Listed: those that have been carried out. -/
def Down (ops : Array Oper) (L : Nat → Bool) : Prop := ∀ i j, L j = true → dep ops i j → L i = true

theorem Down.bef {L : Nat → Bool} (h : Down ops L) {i j : Nat} (hb : Bef ops i j) (hj : ∀ k, dep ops k j → L k = true) : L i = true := by
 cases hb with
 | one hd => exact hj _ hd
 | step hb hd =>
  have h1 := hj _ hd
  clear hd hj
  induction hb with
  | one hd => exact h _ _ h1 hd
  | step hb hd ih => exact ih (h _ _ h1 hd)

/-- One operation hands back v, in whatever world of the kept ones, wherever what it looks at is as in av. -/
def QStep (C : Cx P) (Mk : PHeap) (Gk : Own) (ops : Array Oper) (o : Oper) (av : Act) (v : Value) : Prop :=
 ∀ (a : Act) (w : World), (∀ t ∈ o.looksAt ops, a.tmps[t]? = av.tmps[t]?) → C.St Mk Gk w →
  (Region.wanted o (yielded ops a.tmps) = true → Does P o a.eval w fun u w' => u = v ∧ Ext w w') ∧ (Region.wanted o (yielded ops a.tmps) = false → v = undef)


def setL (L : Nat → Bool) (i : Nat) : Nat → Bool := fun j => if j = i then true else L j

theorem setL_self {L : Nat → Bool} {i : Nat} : setL L i i = true := by simp [setL]
theorem setL_of {L : Nat → Bool} {i j : Nat} (h : L j = true) : setL L i j = true := by unfold setL; split; rfl; exact h
theorem setL_or {L : Nat → Bool} {i j : Nat} (h : setL L i j = true) : j = i ∨ L j = true := by unfold setL at h; split at h; exact .inl ‹_›; exact .inr h
theorem setL_false {L : Nat → Bool} {i j : Nat} (h : setL L i j = false) : j ≠ i ∧ L j = false := by unfold setL at h; split at h; cases h; exact ⟨‹_›, h⟩

/-- What the region's orders ask: D: what we took already; a quiet one may be taken ahead; where there is none, each of the others that may come must do. -/
def VT (C : Cx P) (ops : Array Oper) (K : Act → PHeap → Own → Prop) : Nat → (Nat → Bool) → PHeap → Own → Act → PHeap → Own → Prop
 | 0, D, _, _, av, M, G => (∀ i, i < ops.size → D i = true) ∧ K av M G
 | n + 1, D, Mk, Gk, av, M, G =>
  ((∀ i, i < ops.size → D i = true) ∧ K av M G) ∨
  (∃ q o v, ops[q]? = some o ∧ D q = false ∧ (∀ p, Bef ops p q → D p = true) ∧ QStep C Mk Gk ops o av v ∧ VT C ops K n (setL D q) Mk Gk (av.put o.dst v) M G) ∨
  ((∃ i, i < ops.size ∧ D i = false) ∧ ∀ i, i < ops.size → D i = false → (∀ p, Bef ops p i → D p = true) → ∃ o, ops[i]? = some o ∧ Region.wanted o (yielded ops av.tmps) = true ∧
   ∀ w, C.St M G w → Does P o av.eval w fun v w' => ∃ M' G' Mk' Gk', C.St M' G' w' ∧
    ((Mk' = Mk ∧ Gk' = Gk ∧ M.le M' ∧ ∀ p ∈ Gk, p ∈ G') ∨ (Mk' = M' ∧ Gk' = G' ∧ ∀ j, D j = true → Bef ops j i)) ∧ VT C ops K n (setL D i) Mk' Gk' (av.put o.dst v) M' G')

theorem VT.mono {C : Cx P} {ops : Array Oper} {K : Act → PHeap → Own → Prop} : ∀ {n m : Nat} {D : Nat → Bool} {Mk : PHeap} {Gk : Own} {av : Act} {M : PHeap} {G : Own}, n ≤ m → VT C ops K n D Mk Gk av M G → VT C ops K m D Mk Gk av M G
 | 0, 0, _, _, _, _, _, _, _, h => h
 | 0, m + 1, _, _, _, _, _, _, _, h => .inl h
 | n + 1, 0, _, _, _, _, _, _, hn, _ => by omega
 | n + 1, m + 1, _, _, _, _, _, _, hn, h => by
  rcases h with h | ⟨q, o, v, h1, h2, h3, h4, h5⟩ | ⟨h1, h2⟩
  ·exact .inl h
  ·exact .inr (.inl ⟨q, o, v, h1, h2, h3, h4, VT.mono (by omega) h5⟩)
  ·refine .inr (.inr ⟨h1, fun i hi hD hb => ?_⟩)
   obtain ⟨o, ho, hw, hdo⟩ := h2 i hi hD hb
   refine ⟨o, ho, hw, fun w hs => (hdo w hs).mono ?_⟩
   rintro v w' ⟨M', G', Mk', Gk', k1, k2, k3⟩
   exact ⟨M', G', Mk', Gk', k1, k2, VT.mono (by omega) k3⟩

/-- What is asked of a region, once. -/
structure Plan (ops : Array Oper) (nt : Nat) : Prop where
 looks : ∀ (i j : Nat) (oi oj : Oper) (t : Nat), ops[i]? = some oi → ops[j]? = some oj → oj.dst = some t → t ∈ oi.looksAt ops → Bef ops j i ∨ Bef ops i j
 irr : ∀ i, ¬ Bef ops i i
 one : OneDst ops
 dst : ∀ (i : Nat) (o : Oper) (d : Nat), ops[i]? = some o → o.dst = some d → d < nt
 sel : ∀ (i : Nat) (o : Oper), ops[i]? = some o → (∀ cs b, o.op ≠ .select cs b) ∧ (∀ c, o.op ≠ .defer c)
 live : ∀ (md : Region.Mode) (listed : Array Bool), listed.size = ops.size → Region.ready md ops listed = [] → ∀ i, i < ops.size → listed.getD i false = true

/-- How far a run in some order has come against ours. -/
structure AInv (C : Cx P) (ops : Array Oper) (K : Act → PHeap → Own → Prop) (n : Nat) (D L : Nat → Bool) (Mk : PHeap) (Gk : Own) (a av : Act) (M : PHeap) (G : Own) (w : World) : Prop where
 seq : VT C ops K n D Mk Gk av M G
 st : C.St M G w
 stk : C.St Mk Gk w
 le : Mk.le M
 down : Down ops L
 closed : ∀ i j, D j = true → Bef ops i j → D i = true
 sub : ∀ j, L j = true → D j = true
 pend : ∀ j, D j = true → L j = false → ∃ o v avj, ops[j]? = some o ∧ QStep C Mk Gk ops o avj v ∧ (∀ d, o.dst = some d → av.tmps[d]? = some v) ∧
  (∀ t ∈ o.looksAt ops, (∃ i oi, ops[i]? = some oi ∧ oi.dst = some t ∧ Bef ops i j) → av.tmps[t]? = avj.tmps[t]?) ∧
  (∀ t ∈ o.looksAt ops, ¬ (∃ i oi, ops[i]? = some oi ∧ oi.dst = some t ∧ Bef ops i j) → a.tmps[t]? = avj.tmps[t]?)
 agree : ∀ t, (∀ j, D j = true → L j = false → ∀ o, ops[j]? = some o → o.dst ≠ some t) → a.tmps[t]? = av.tmps[t]?
 sz : a.tmps.size = C.nt
 szv : av.tmps.size = C.nt
 df : a.defers = C.ds
 dfv : av.defers = C.ds

variable {Mk : PHeap} {Gk : Own} {K : Act → PHeap → Own → Prop} {n : Nat} {D L : Nat → Bool} {a av : Act} {M : PHeap} {G : Own} {w : World}

theorem put_size (a : Act) (d : Option Nat) (v : Value) : (a.put d v).tmps.size = a.tmps.size := by cases d <;> simp [Act.put]

theorem put_get {a : Act} {d : Option Nat} {v : Value} {t : Nat} (h : d ≠ some t) : (a.put d v).tmps[t]? = a.tmps[t]? := by
 cases d with
 | none => rfl
 | some d => exact put_other (fun e => h (by rw [e]))

theorem put_self {a : Act} {d : Nat} {v : Value} (h : d < a.tmps.size) : (a.put (some d) v).tmps[d]? = some v := by simp [Act.put, h]

/-- A quiet one is taken ahead. -/
theorem AInv.adv (hp : Plan ops C.nt) (h : AInv C ops K (n + 1) D L Mk Gk a av M G w) {q : Nat} {o : Oper} {v : Value} (ho : ops[q]? = some o) (hD : D q = false) (hpre : ∀ p, Bef ops p q → D p = true)
  (hq : QStep C Mk Gk ops o av v) (hseq : VT C ops K n (setL D q) Mk Gk (av.put o.dst v) M G) :
  AInv C ops K n (setL D q) L Mk Gk a (av.put o.dst v) M G w := by
 have hLq : L q = false := by
  cases hl : L q with
  | false => rfl
  | true => rw [h.sub q hl] at hD; cases hD
 have hneD : ∀ j, D j = true → j ≠ q := by rintro j hj rfl; rw [hj] at hD; cases hD
 have hne : ∀ j', D j' = true → ∀ o' t, ops[j']? = some o' → o'.dst = some t → o.dst ≠ some t := by
  intro j' hj' o' t ho' hd' hd
  exact hneD j' hj' (hp.one j' q o' o t ho' ho hd' hd)
 have hirr : ∀ t ∈ o.looksAt ops, o.dst ≠ some t := by
  intro t ht hd
  exact hp.irr q ((hp.looks q q o o t ho ho hd ht).elim id id)
 refine ⟨hseq, h.st, h.stk, h.le, h.down, ?_, ?_, ?_, ?_, h.sz, by rw [put_size]; exact h.szv, h.df, by rw [put_defers]; exact h.dfv⟩
 ·intro i j hj hb
  rcases setL_or hj with rfl | hj
  ·exact setL_of (hpre i hb)
  ·exact setL_of (h.closed i j hj hb)
 ·intro j hj; exact setL_of (h.sub j hj)
 ·intro j' hj' hl'
  rcases setL_or hj' with rfl | hj'
  ·refine ⟨o, v, av, ho, hq, ?_, ?_, ?_⟩
   ·intro d hd
    rw [hd]; exact put_self (by rw [h.szv]; exact hp.dst _ o d ho hd)
   ·intro t ht _
    exact put_get (hirr t ht)
   ·intro t ht hex
    refine h.agree t ?_
    intro j2 hj2 hl2 o2 ho2 hd2
    rcases hp.looks _ j2 o o2 t ho ho2 hd2 ht with hb | hb
    ·exact hex ⟨j2, o2, ho2, hd2, hb⟩
    ·rw [h.closed _ _ hj2 hb] at hD; cases hD
  ·obtain ⟨o', v', avj, h1, h2, h3, h4, h5⟩ := h.pend j' hj' hl'
   refine ⟨o', v', avj, h1, h2, ?_, ?_, h5⟩
   ·intro d hd
    rw [put_get (hne j' hj' o' d h1 hd)]
    exact h3 d hd
   ·intro t ht hex
    rw [put_get ?_]
    ·exact h4 t ht hex
    ·intro hd
     obtain ⟨i, oi, q1, q2, q3⟩ := hex
     have e1 := hp.one q i o oi t ho q1 hd q2
     subst e1
     rw [h.closed _ _ hj' q3] at hD; cases hD
 ·intro t ht
  rw [put_get ?_]
  ·exact h.agree t fun j' hj' hl' => ht j' (setL_of hj') hl'
  ·exact ht q setL_self hLq o ho

/-- Till the one that comes up has been taken, or no quiet one is left. -/
theorem AInv.reach (hp : Plan ops C.nt) {i : Nat} (hi : i < ops.size) : ∀ {n : Nat} {D : Nat → Bool} {av : Act}, AInv C ops K n D L Mk Gk a av M G w →
  (∃ n' D' av', AInv C ops K n' D' L Mk Gk a av' M G w ∧ D' i = true) ∨
  (∃ n' D' av', AInv C ops K (n' + 1) D' L Mk Gk a av' M G w ∧ D' i = false ∧ ((∀ p, Bef ops p i → D' p = true) → ∃ o, ops[i]? = some o ∧ Region.wanted o (yielded ops av'.tmps) = true ∧
   ∀ w, C.St M G w → Does P o av'.eval w fun v w' => ∃ M' G' Mk' Gk', C.St M' G' w' ∧
    ((Mk' = Mk ∧ Gk' = Gk ∧ M.le M' ∧ ∀ p ∈ Gk, p ∈ G') ∨ (Mk' = M' ∧ Gk' = G' ∧ ∀ j, D' j = true → Bef ops j i)) ∧ VT C ops K n' (setL D' i) Mk' Gk' (av'.put o.dst v) M' G'))
 | 0, D, av, h => .inl ⟨0, D, av, h, h.seq.1 i hi⟩
 | n + 1, D, av, h => by
  by_cases hid : D i = true
  ·exact .inl ⟨n + 1, D, av, h, hid⟩
  ·have hid : D i = false := by simpa using hid
   rcases h.seq with ⟨hall, _⟩ | ⟨q, o, v, ho, hD, hpre, hq, hseq⟩ | ⟨_, hall⟩
   ·rw [hall i hi] at hid; cases hid
   ·exact AInv.reach hp hi (h.adv hp ho hD hpre hq hseq)
   ·exact .inr ⟨n, D, av, h, hid, hall i hi hid⟩

theorem wanted_congr {o : Oper} {a a' : Act} (h : ∀ t ∈ o.looksAt ops, a.tmps[t]? = a'.tmps[t]?) : Region.wanted o (yielded ops a.tmps) = Region.wanted o (yielded ops a'.tmps) := by
 unfold Region.wanted
 cases hg : o.guard with
 | none => rfl
 | some p =>
  obtain ⟨g, want⟩ := p
  simp only [yielded]
  cases hd : (ops[g]?).bind (·.dst) with
  | none => rfl
  | some s =>
   have : a.tmps[s]? = a'.tmps[s]? := h s (by simp [Oper.looksAt, hg, hd])
   simp [this]

theorem exec_congr {o : Oper} {a a' : Act} (hs : ∀ cs b, o.op ≠ .select cs b) (h : ∀ t ∈ o.looksAt ops, a.tmps[t]? = a'.tmps[t]?) : execOp a.eval o = execOp a'.eval o := by
 refine execOp_congr o hs ?_
 intro x hx
 cases x with
 | tmp t =>
  have : a.tmps[t]? = a'.tmps[t]? := h t (by
   unfold Oper.looksAt
   exact List.mem_append_left _ (List.mem_filterMap.2 ⟨.tmp t, by simpa using hx, rfl⟩))
  simp [Act.eval, Array.getD_eq_getD_getElem?, this]
 | _ => rfl

theorem Down.set {L : Nat → Bool} (h : Down ops L) {i : Nat} (hd : ∀ k, dep ops k i → L k = true) : Down ops (setL L i) := by
 intro x j hj hx
 rcases setL_or hj with rfl | hj
 ·exact setL_of (hd x hx)
 ·exact setL_of (h x j hj hx)

/-- One that was taken ahead comes up. -/
theorem AInv.exec (hp : Plan ops C.nt) {j : Nat} (h : AInv C ops K n D L Mk Gk a av M G w)
  (hj : D j = true) (hLj : L j = false) (hd : ∀ k, dep ops k j → L k = true) {k : List Item} {cs : List Frame} {tail : List Nat}
  (hT : ∀ a' w', AInv C ops K n D (setL L j) Mk Gk a' av M G w' → C.T cs (lone (C.b.atR a' (.inRegion ops tail :: k)) cs w')) :
  C.T cs (lone (C.b.atR a (.inRegion ops (j :: tail) :: k)) cs w) := by
 obtain ⟨o, v, avj, ho, hq, h3, h4, h5⟩ := h.pend j hj hLj
 have hlook : ∀ t ∈ o.looksAt ops, a.tmps[t]? = avj.tmps[t]? := by
  intro t ht
  by_cases hex : ∃ i oi, ops[i]? = some oi ∧ oi.dst = some t ∧ Bef ops i j
  ·rw [← h4 t ht hex]
   refine h.agree t ?_
   intro j' hj' hl' o' ho' hd'
   obtain ⟨i, oi, q1, q2, q3⟩ := hex
   have e := hp.one j' i o' oi t ho' q1 hd' q2
   subst e
   have := h.down.bef q3 hd
   rw [this] at hl'; cases hl'
  ·exact h5 t ht hex
 obtain ⟨q1, q2⟩ := hq a w hlook h.stk
 have hnew : ∀ w', Ext w w' → AInv C ops K n D (setL L j) Mk Gk (a.put o.dst v) av M G w' := by
  intro w' he
  refine ⟨h.seq, h.st.ext he, h.stk.ext he, h.le, h.down.set hd, h.closed, ?_, ?_, ?_, by rw [put_size]; exact h.sz, h.szv, by rw [put_defers]; exact h.df, h.dfv⟩
  ·intro i hi
   rcases setL_or hi with rfl | hi
   ·exact hj
   ·exact h.sub i hi
  ·intro j' hj' hl'
   obtain ⟨hne, hl'⟩ := setL_false hl'
   obtain ⟨o', v', av', z1, z2, z3, z4, z5⟩ := h.pend j' hj' hl'
   refine ⟨o', v', av', z1, z2, z3, z4, ?_⟩
   intro t ht hex
   rw [put_get ?_]
   ·exact z5 t ht hex
   ·intro hdt
    rcases hp.looks j' j o' o t z1 ho hdt ht with hb | hb
    ·exact hex ⟨j, o, ho, hdt, hb⟩
    ·have := h.down.bef hb hd
     rw [this] at hl'; cases hl'
  ·intro t ht
   by_cases hdt : o.dst = some t
   ·rw [hdt, put_self (by rw [h.sz]; exact hp.dst _ o t ho hdt), h3 t hdt]
   ·rw [put_get hdt]
    refine h.agree t ?_
    intro j' hj' hl' o' ho' hd'
    by_cases e : j' = j
    ·subst e; rw [ho] at ho'; cases ho'; exact hdt hd'
    ·exact ht j' hj' (by simp [setL, e, hl']) o' ho' hd'
 by_cases hw : Region.wanted o (yielded ops a.tmps) = true
 ·refine step_does C ho hw (hp.sel j o ho).2 ?_
  refine (q1 hw).mono ?_
  rintro u w' ⟨rfl, he⟩
  exact hT _ _ (hnew w' he)
 ·have hw' : Region.wanted o (yielded ops a.tmps) = false := by simpa using hw
  have hv := q2 hw'
  subst hv
  refine C.back (stepR_op_skip (by rw [ho]; exact hw')) ?_
  rw [show (ops[j]?).bind (·.dst) = o.dst from by rw [ho]; rfl]
  exact hT _ _ (hnew w (Ext.refl w))

/-- One that is no quiet one comes up. -/
theorem AInv.sigExec (hp : Plan ops C.nt) {i : Nat} (h : AInv C ops K (n + 1) D L Mk Gk a av M G w) (hDi : D i = false)
  (hLi : L i = false) (hd : ∀ k, dep ops k i → L k = true) {o : Oper} (ho : ops[i]? = some o) (hwant : Region.wanted o (yielded ops av.tmps) = true)
  (hdo : ∀ w, C.St M G w → Does P o av.eval w fun v w' => ∃ M' G' Mk' Gk', C.St M' G' w' ∧
    ((Mk' = Mk ∧ Gk' = Gk ∧ M.le M' ∧ ∀ p ∈ Gk, p ∈ G') ∨ (Mk' = M' ∧ Gk' = G' ∧ ∀ j, D j = true → Bef ops j i)) ∧ VT C ops K n (setL D i) Mk' Gk' (av.put o.dst v) M' G')
  {k : List Item} {cs : List Frame} {tail : List Nat}
  (hT : ∀ a' av' M' G' Mk' Gk' w', AInv C ops K n (setL D i) (setL L i) Mk' Gk' a' av' M' G' w' → C.T cs (lone (C.b.atR a' (.inRegion ops tail :: k)) cs w')) :
  C.T cs (lone (C.b.atR a (.inRegion ops (i :: tail) :: k)) cs w) := by
 have hafter : ∀ j', D j' = true → ¬ Bef ops i j' := by
  intro j' hj' hb
  rw [h.closed _ _ hj' hb] at hDi; cases hDi
 have hlook : ∀ t ∈ o.looksAt ops, a.tmps[t]? = av.tmps[t]? := by
  intro t ht
  refine h.agree t ?_
  intro j' hj' hl' o' ho' hd'
  rcases hp.looks i j' o o' t ho ho' hd' ht with hb | hb
  ·have := h.down.bef hb hd
   rw [this] at hl'; cases hl'
  ·exact hafter j' hj' hb
 have hneD : ∀ j, D j = true → j ≠ i := by rintro j hj rfl; rw [hj] at hDi; cases hDi
 have hne : ∀ j', D j' = true → ∀ o' t, ops[j']? = some o' → o'.dst = some t → o.dst ≠ some t := by
  intro j' hj' o' t ho' hd' hdt
  exact hneD j' hj' (hp.one j' i o' o t ho' ho hd' hdt)
 refine step_does C ho ((wanted_congr hlook).trans hwant) (hp.sel i o ho).2 ?_
 have hex : Does P o a.eval w fun v w' => ∃ M' G' Mk' Gk', C.St M' G' w' ∧
    ((Mk' = Mk ∧ Gk' = Gk ∧ M.le M' ∧ ∀ p ∈ Gk, p ∈ G') ∨ (Mk' = M' ∧ Gk' = G' ∧ ∀ j, D j = true → Bef ops j i)) ∧ VT C ops K n (setL D i) Mk' Gk' (av.put o.dst v) M' G' := by
  have := hdo w h.st
  unfold Does at this ⊢
  rwa [exec_congr (hp.sel i o ho).1 hlook]
 refine hex.mono ?_
 rintro v w' ⟨M', G', Mk', Gk', hs', hkeep, hseq⟩
 have hstk : C.St Mk' Gk' w' ∧ Mk'.le M' ∧ ((Mk' = Mk ∧ Gk' = Gk) ∨ ∀ j, D j = true → L j = true) := by
  rcases hkeep with ⟨rfl, rfl, hM, hG⟩ | ⟨rfl, rfl, hall⟩
  ·exact ⟨h.stk.kept hs' (PHeap.le_trans h.le hM) hG, PHeap.le_trans h.le hM, .inl ⟨rfl, rfl⟩⟩
  ·exact ⟨hs', PHeap.le_refl _, .inr fun j hj => h.down.bef (hall j hj) hd⟩
 obtain ⟨hk1, hk2, hk3⟩ := hstk
 refine hT _ (av.put o.dst v) M' G' Mk' Gk' w' ⟨hseq, hs', hk1, hk2, h.down.set hd, ?_, ?_, ?_, ?_, by rw [put_size]; exact h.sz, by rw [put_size]; exact h.szv, by rw [put_defers]; exact h.df, by rw [put_defers]; exact h.dfv⟩
 ·intro x j hj hb
  rcases setL_or hj with rfl | hj
  ·exact setL_of (h.sub x (h.down.bef hb hd))
  ·exact setL_of (h.closed x j hj hb)
 ·intro j hj
  rcases setL_or hj with rfl | hj
  ·exact setL_self
  ·exact setL_of (h.sub j hj)
 ·intro j' hj' hl'
  obtain ⟨hne', hl'⟩ := setL_false hl'
  have hj2 : D j' = true := (setL_or hj').resolve_left hne'
  rcases hk3 with ⟨rfl, rfl⟩ | hall
  ·obtain ⟨o', v', av', z1, z2, z3, z4, z5⟩ := h.pend j' hj2 hl'
   refine ⟨o', v', av', z1, z2, ?_, ?_, ?_⟩
   ·intro d hdd
    rw [put_get (hne j' hj2 o' d z1 hdd)]
    exact z3 d hdd
   ·intro t ht hx
    rw [put_get ?_]
    ·exact z4 t ht hx
    ·intro hdt
     obtain ⟨i', oi, y1, y2, y3⟩ := hx
     have e := hp.one i i' o oi t ho y1 hdt y2
     subst e
     exact hafter j' hj2 y3
   ·intro t ht hx
    rw [put_get ?_]
    ·exact z5 t ht hx
    ·intro hdt
     rcases hp.looks j' i o' o t z1 ho hdt ht with hb | hb
     ·exact hx ⟨i, o, ho, hdt, hb⟩
     ·have := h.down.bef hb hd
      rw [this] at hl'; cases hl'
  ·rw [hall j' hj2] at hl'; cases hl'
 ·intro t ht
  by_cases hdt : o.dst = some t
  ·rw [hdt, put_self (by rw [h.sz]; exact hp.dst _ o t ho hdt), put_self (by rw [h.szv]; exact hp.dst _ o t ho hdt)]
  ·rw [put_get hdt, put_get hdt]
   refine h.agree t ?_
   intro j' hj' hl' o' ho' hd'
   by_cases e : j' = i
   ·subst e; rw [hj'] at hDi; cases hDi
   ·exact ht j' (setL_of hj') (by simp [setL, e, hl']) o' ho' hd'

/-- At the end. -/
theorem AInv.fin (hall : ∀ i, i < ops.size → L i = true) (h : AInv C ops K n D L Mk Gk a av M G w) : K a M G := by
 have hD : ∀ i, i < ops.size → D i = true := fun i hi => h.sub i (hall i hi)
 have hlt : ∀ (i : Nat) (o : Oper), ops[i]? = some o → i < ops.size := fun i o ho => (Array.getElem?_eq_some_iff.1 ho).1
 have ha : a = av := by
  have ht : a.tmps = av.tmps := by
   refine Array.ext (h.sz.trans h.szv.symm) fun i h1 h2 => ?_
   have := h.agree i (fun j hj hl o ho => by rw [hall j (hlt j o ho)] at hl; cases hl)
   simpa [h1, h2] using this
  cases a; cases av
  have h1 := h.df.trans h.dfv.symm
  simp at ht h1
  simp [ht, h1]
 cases n with
 | zero => rw [ha]; exact h.seq.2
 | succ n =>
  rcases h.seq with ⟨_, hk⟩ | ⟨q, o, v, ho, hq, _⟩ | ⟨⟨i, hi, hD'⟩, _⟩
  ·rw [ha]; exact hk
  ·rw [hD q (hlt q o ho)] at hq; cases hq
  ·rw [hD i hi] at hD'; cases hD'

theorem binds_any {md : Region.Mode} {e : Edge} (h : Region.binds .any e = true) : Region.binds md e = true := by
 unfold Region.binds at *
 cases hg : e.ground <;> simp_all

theorem ready_iff {md : Region.Mode} {listed : Array Bool} {i : Nat} : i ∈ Region.ready md ops listed → i < ops.size ∧ listed.getD i true = false ∧ ∀ k, dep ops k i → listed.getD k false = true := by
 intro h
 simp only [Region.ready, List.mem_filter, List.mem_range, Bool.and_eq_true, Bool.not_eq_true'] at h
 obtain ⟨h1, h2, h3⟩ := h
 refine ⟨h1, h2, ?_⟩
 rintro k ⟨o, ho, e, he, hb, rfl⟩
 rw [ho] at h3
 simp only [Option.map_some, Option.getD_some, Array.all_eq_true_iff_forall_mem, Bool.or_eq_true, Bool.not_eq_true'] at h3
 rcases h3 e (by simpa using he) with h | h
 ·rw [binds_any hb] at h; cases h
 ·exact h

theorem ready_of {md : Region.Mode} {listed : Array Bool} {i : Nat} {o : Oper} (ho : ops[i]? = some o) (h : listed.getD i true = false) (hd : ∀ e ∈ o.after.toList, Region.binds md e = true → listed.getD e.on false = true) : i ∈ Region.ready md ops listed := by
 simp only [Region.ready, List.mem_filter, List.mem_range, Bool.and_eq_true, Bool.not_eq_true']
 refine ⟨(Array.getElem?_eq_some_iff.1 ho).1, h, ?_⟩
 rw [ho]
 simp only [Option.map_some, Option.getD_some, Array.all_eq_true_iff_forall_mem, Bool.or_eq_true, Bool.not_eq_true']
 intro e he
 cases hb : Region.binds md e with
 | false => exact .inl rfl
 | true => exact .inr (hd e (by simpa using he) hb)

/-- In whatever order. -/
theorem any_sound (hp : Plan ops C.nt) {k : List Item} {cs : List Frame} (hT : ∀ a M G w, a.tmps.size = C.nt → a.defers = C.ds → C.St M G w → K a M G → C.T cs (lone (C.b.atR a (.inRegion ops [] :: k)) cs w)) :
  ∀ (md : Region.Mode) (fuel t : Nat) (listed : Array Bool), listed.size = ops.size → (∀ S : List Nat, S.Nodup → (∀ i ∈ S, i < ops.size ∧ listed.getD i false = false) → S.length ≤ fuel) →
  ∀ {n : Nat} {D : Nat → Bool} {Mk : PHeap} {Gk : Own} {a av : Act} {M : PHeap} {G : Own} {w : World}, AInv C ops K n D (fun i => listed.getD i false) Mk Gk a av M G w →
  C.T cs (lone (C.b.atR a (.inRegion ops (Region.linearise.go md ops fuel t listed []) :: k)) cs w) := by
 intro md fuel
 induction fuel with
 | zero =>
  intro t listed hsz hcount n D Mk Gk a av M G w h
  have hall : ∀ i, i < ops.size → listed.getD i false = true := by
   intro i hi
   cases hl : listed.getD i false with
   | true => rfl
   | false => have := hcount [i] (by simp) (by intro j hj; rw [List.mem_singleton] at hj; subst hj; exact ⟨hi, hl⟩); simp at this
  simpa [Region.linearise.go] using hT a M G w h.sz h.df h.st (h.fin hall)
 | succ fuel ih =>
  intro t listed hsz hcount n D Mk Gk a av M G w h
  simp only [Region.linearise.go]
  change C.T cs (lone (C.b.atR a (.inRegion ops (match (Region.ready md ops listed)[t % (Region.ready md ops listed).length]? with
   | some i => Region.linearise.go md ops fuel (t / (Region.ready md ops listed).length) (listed.setIfInBounds i true) [i]
   | none => [].reverse) :: k)) cs w)
  cases hi : (Region.ready md ops listed)[t % (Region.ready md ops listed).length]? with
  | none =>
   have hnil : Region.ready md ops listed = [] := by
    cases hr : Region.ready md ops listed with
    | nil => rfl
    | cons x xs =>
     rw [hr] at hi
     have hlt : t % (x :: xs).length < (x :: xs).length := Nat.mod_lt _ (by simp)
     simp at hi
     simp at hlt
     omega
   exact hT a M G w h.sz h.df h.st (h.fin (hp.live md listed hsz hnil))
  | some i =>
   simp only []
   rw [linearise_go_acc, List.reverse_singleton, List.singleton_append]
   obtain ⟨hlt, hl, hd⟩ := ready_iff (List.mem_of_getElem? hi)
   have hlf : listed.getD i false = false := by
    have : i < listed.size := by omega
    simpa [Array.getD_eq_getD_getElem?, this] using hl
   have hset : (fun j => (listed.setIfInBounds i true).getD j false) = setL (fun j => listed.getD j false) i := by
    funext j
    simp only [setL, Array.getD_eq_getD_getElem?, Array.getElem?_setIfInBounds]
    by_cases e : i = j
    ·subst e; simp [show i < listed.size by omega]
    ·simp [e, Ne.symm e]
   have hcount' : ∀ S : List Nat, S.Nodup → (∀ j ∈ S, j < ops.size ∧ (listed.setIfInBounds i true).getD j false = false) → S.length ≤ fuel := by
    intro S hS hm
    have hm' : ∀ j ∈ S, j ≠ i ∧ listed.getD j false = false := fun j hj => by
     have := (hm j hj).2
     have h2 : setL (fun j => listed.getD j false) i j = false := by rw [← hset]; exact this
     exact setL_false h2
    have := hcount (i :: S) (List.nodup_cons.2 ⟨fun hi => (hm' i hi).1 rfl, hS⟩) (by
     intro j hj
     rcases List.mem_cons.1 hj with rfl | hj
     ·exact ⟨hlt, hlf⟩
     ·exact ⟨(hm j hj).1, (hm' j hj).2⟩)
    simpa using this
   have hsz' : (listed.setIfInBounds i true).size = ops.size := by simpa using hsz
   rcases AInv.reach hp hlt h with ⟨n', D', av', h', hDi⟩ | ⟨n', D', av', h', hDi, hall⟩
   ·refine h'.exec hp hDi hlf hd ?_
    intro a' w' h2
    exact ih _ _ hsz' hcount' (by rw [hset]; exact h2)
   ·have hpre : ∀ p, Bef ops p i → D' p = true := fun p hb => h'.sub p (h'.down.bef hb hd)
    obtain ⟨o, ho, hwant, hdo⟩ := hall hpre
    refine h'.sigExec hp hDi hlf hd ho hwant hdo ?_
    intro a' av2 M' G' Mk' Gk' w' h2
    exact ih _ _ hsz' hcount' (by rw [hset]; exact h2)

theorem nodup_le : ∀ (n : Nat) (S : List Nat), S.Nodup → (∀ i ∈ S, i < n) → S.length ≤ n := by
 intro n
 induction n with
 | zero => intro S _ h; cases S with | nil => simp | cons x S => have := h x (by simp); omega
 | succ n ih =>
  intro S hS h
  have h1 : (S.erase n).Nodup := hS.erase n
  have h2 : ∀ i ∈ S.erase n, i < n := by
   intro i hi
   have := h i (List.mem_of_mem_erase hi)
   have hne : i ≠ n := by rintro rfl; exact hS.not_mem_erase hi
   omega
  have h3 := ih _ h1 h2
  have h4 : S.length ≤ (S.erase n).length + 1 := by
   rw [List.length_erase]; split <;> omega
  omega

theorem any_start (hp : Plan ops C.nt) {n : Nat} {Gk : Own} (hGk : Gk.Sublist G) (hsz : a.tmps.size = C.nt) (hdf : a.defers = C.ds) (hst : C.St M G w) (hV : VT C ops K n (fun _ => false) M Gk a M G) {k : List Item} {cs : List Frame}
  (hT : ∀ a M G w, a.tmps.size = C.nt → a.defers = C.ds → C.St M G w → K a M G → C.T cs (lone (C.b.atR a (.inRegion ops [] :: k)) cs w)) (md : Region.Mode) (t : Nat) :
  C.T cs (lone (C.b.atR a (.inRegion ops (Region.linearise md ops t) :: k)) cs w) := by
 refine any_sound hp hT md ops.size t _ (by simp) (fun S hS h => nodup_le _ S hS fun i hi => (h i hi).1) (n := n) (D := fun _ => false) (Mk := M) (Gk := Gk) (av := a) (M := M) (G := G) ?_
 have hf : ∀ i, (Array.replicate ops.size false).getD i false = false := by
  intro i
  simp only [Array.getD_eq_getD_getElem?, Array.getElem?_replicate]
  split <;> rfl
 refine ⟨hV, hst, hst.weaken hGk, PHeap.le_refl _, ?_, ?_, ?_, ?_, ?_, hsz, hsz, hdf, hdf⟩
 ·intro i j hj; have := (hf j).symm.trans hj; cases this
 ·intro i j hj; cases hj
 ·intro j hj; have := (hf j).symm.trans hj; cases this
 ·intro j hj; cases hj
 ·intro t _; rfl

end
end Go.EV

namespace Go.EV
variable {P : Program}

/-- Operations that only read and reckon. -/
def flat : ROp → Bool
 | .store .. | .box .. | .alloc .. | .buildSl .. | .append .. | .makeSl .. | .call .. | .callv .. | .raw _ | .copyO .. | .clearS .. | .appendZ .. | .ext .. | .bad => false
 | _ => true

/-- What a quiet operation asks. -/
def qW (C : Cx P) (ρ : Env) (M : PHeap) (G : Own) (K : Value → Prop) : ROp → Prop
 | .call f args => onv (evs ρ args) fun vs => ∃ v, ConQ P f vs.toArray (M.add G) v ∧ K v
 | r => opW C ρ M G (fun v _ _ => K v) r

/-- A flat operation hands back one value, and no matter what goes on. -/
theorem flat_one {C : Cx P} {ρ : Env} {M : PHeap} {G : Own} {K : Value → PHeap → Own → Prop} {r : ROp} (hf : flat r = true) (h : opW C ρ M G K r) :
  ∃ v, K v M G ∧ ∀ C' : Cx P, opW C' ρ (M.add G) [] (fun u _ _ => u = v) r := by
 have rdm : ∀ {b off n : Nat} {cs : List Value}, rd (M.add G) b off n cs → rd ((M.add G).add []) b off n cs := fun h => h.mono (PHeap.le_add _ _)
 cases r with
 | mv x => obtain ⟨v, hv, hk⟩ := onv_iff.1 h; exact ⟨v, hk, fun C' => onv_iff.2 ⟨v, hv, rfl⟩⟩
 | pick c a b =>
  obtain ⟨vc, h1, h⟩ := onv_iff.1 h
  obtain ⟨c', h2, h⟩ := onv_iff.1 h
  obtain ⟨v, h3, hk⟩ := onv_iff.1 h
  exact ⟨v, hk, fun C' => onv_iff.2 ⟨vc, h1, onv_iff.2 ⟨c', h2, onv_iff.2 ⟨v, h3, rfl⟩⟩⟩⟩
 | bin op x y =>
  obtain ⟨vx, h1, h⟩ := onv_iff.1 h
  obtain ⟨vy, h2, h⟩ := onv_iff.1 h
  obtain ⟨v, h3, hk⟩ := onv_iff.1 h
  exact ⟨v, hk, fun C' => onv_iff.2 ⟨vx, h1, onv_iff.2 ⟨vy, h2, onv_iff.2 ⟨v, h3, rfl⟩⟩⟩⟩
 | eqb neg x y =>
  obtain ⟨vx, h1, h⟩ := onv_iff.1 h
  obtain ⟨vy, h2, h⟩ := onv_iff.1 h
  obtain ⟨bx, h3, h⟩ := onv_iff.1 h
  obtain ⟨b, h4, hk⟩ := onv_iff.1 h
  exact ⟨_, hk, fun C' => onv_iff.2 ⟨vx, h1, onv_iff.2 ⟨vy, h2, onv_iff.2 ⟨bx, h3, onv_iff.2 ⟨b, h4, rfl⟩⟩⟩⟩⟩
 | eqp neg x =>
  obtain ⟨vx, h1, h⟩ := onv_iff.1 h
  cases vx with
  | pointer a => exact ⟨_, h, fun C' => onv_iff.2 ⟨_, h1, rfl⟩⟩
  | _ => exact h.elim
 | notb x =>
  obtain ⟨vx, h1, h⟩ := onv_iff.1 h
  obtain ⟨b, h2, hk⟩ := onv_iff.1 h
  exact ⟨_, hk, fun C' => onv_iff.2 ⟨vx, h1, onv_iff.2 ⟨b, h2, rfl⟩⟩⟩
 | conv k x =>
  obtain ⟨vx, h1, h⟩ := onv_iff.1 h
  obtain ⟨b, h2, hk⟩ := onv_iff.1 h
  exact ⟨_, hk, fun C' => onv_iff.2 ⟨vx, h1, onv_iff.2 ⟨b, h2, rfl⟩⟩⟩
 | faddr off x =>
  obtain ⟨vx, h1, h⟩ := onv_iff.1 h
  obtain ⟨b, h2, hk⟩ := onv_iff.1 h
  exact ⟨_, hk, fun C' => onv_iff.2 ⟨vx, h1, onv_iff.2 ⟨b, h2, rfl⟩⟩⟩
 | iaddrA n sz x i =>
  obtain ⟨vx, h1, h⟩ := onv_iff.1 h
  obtain ⟨vi, h2, h⟩ := onv_iff.1 h
  obtain ⟨p, h3, h⟩ := onv_iff.1 h
  obtain ⟨j, h4, h5, h6, hk⟩ := onv_iff.1 h
  exact ⟨_, hk, fun C' => onv_iff.2 ⟨vx, h1, onv_iff.2 ⟨vi, h2, onv_iff.2 ⟨p, h3, onv_iff.2 ⟨j, h4, h5, h6, rfl⟩⟩⟩⟩⟩
 | iaddrS sz x i =>
  obtain ⟨vx, h1, h⟩ := onv_iff.1 h
  obtain ⟨vi, h2, h⟩ := onv_iff.1 h
  obtain ⟨p, h3, h⟩ := onv_iff.1 h
  obtain ⟨j, h4, h⟩ := onv_iff.1 h
  obtain ⟨ad, h5, h⟩ := onv_iff.1 h
  obtain ⟨q, h6, h7, h8, hk⟩ := onv_iff.1 h
  exact ⟨_, hk, fun C' => onv_iff.2 ⟨vx, h1, onv_iff.2 ⟨vi, h2, onv_iff.2 ⟨p, h3, onv_iff.2 ⟨j, h4, onv_iff.2 ⟨ad, h5, onv_iff.2 ⟨q, h6, h7, h8, rfl⟩⟩⟩⟩⟩⟩⟩
 | nilck x =>
  obtain ⟨vx, h1, h⟩ := onv_iff.1 h
  obtain ⟨b, h2, hk⟩ := onv_iff.1 h
  exact ⟨_, hk, fun C' => onv_iff.2 ⟨vx, h1, onv_iff.2 ⟨b, h2, rfl⟩⟩⟩
 | extract k x =>
  obtain ⟨vx, h1, h⟩ := onv_iff.1 h
  obtain ⟨b, h2, h⟩ := onv_iff.1 h
  obtain ⟨v, h3, hk⟩ := onv_iff.1 h
  exact ⟨_, hk, fun C' => onv_iff.2 ⟨vx, h1, onv_iff.2 ⟨b, h2, onv_iff.2 ⟨v, h3, rfl⟩⟩⟩⟩
 | fieldA off sz x =>
  obtain ⟨vx, h1, h⟩ := onv_iff.1 h
  obtain ⟨b, h2, hk⟩ := onv_iff.1 h
  exact ⟨_, hk, fun C' => onv_iff.2 ⟨vx, h1, onv_iff.2 ⟨b, h2, rfl⟩⟩⟩
 | field1 off x =>
  obtain ⟨vx, h1, h⟩ := onv_iff.1 h
  obtain ⟨b, h2, h⟩ := onv_iff.1 h
  obtain ⟨v, h3, hk⟩ := onv_iff.1 h
  exact ⟨_, hk, fun C' => onv_iff.2 ⟨vx, h1, onv_iff.2 ⟨b, h2, onv_iff.2 ⟨v, h3, rfl⟩⟩⟩⟩
 | len x =>
  obtain ⟨vx, h1, h⟩ := onv_iff.1 h
  obtain ⟨b, h2, hk⟩ := onv_iff.1 h
  exact ⟨_, hk, fun C' => onv_iff.2 ⟨vx, h1, onv_iff.2 ⟨b, h2, rfl⟩⟩⟩
 | lenT x =>
  obtain ⟨vx, h1, h⟩ := onv_iff.1 h
  cases vx with
  | string a => exact ⟨_, h, fun C' => onv_iff.2 ⟨_, h1, rfl⟩⟩
  | _ => exact h.elim
 | loadA sz x =>
  obtain ⟨vx, h1, h⟩ := onv_iff.1 h
  obtain ⟨b, h2, cs, h3, hk⟩ := onv_iff.1 h
  exact ⟨_, hk, fun C' => onv_iff.2 ⟨vx, h1, onv_iff.2 ⟨b, h2, cs, rdm h3, rfl⟩⟩⟩
 | loadI k x =>
  obtain ⟨vx, h1, h⟩ := onv_iff.1 h
  obtain ⟨b, h2, cs, h3, hk⟩ := onv_iff.1 h
  exact ⟨_, hk, fun C' => onv_iff.2 ⟨vx, h1, onv_iff.2 ⟨b, h2, cs, rdm h3, rfl⟩⟩⟩
 | loadB x =>
  obtain ⟨vx, h1, h⟩ := onv_iff.1 h
  obtain ⟨b, h2, cs, h3, hk⟩ := onv_iff.1 h
  exact ⟨_, hk, fun C' => onv_iff.2 ⟨vx, h1, onv_iff.2 ⟨b, h2, cs, rdm h3, rfl⟩⟩⟩
 | loadS x =>
  obtain ⟨vx, h1, h⟩ := onv_iff.1 h
  obtain ⟨b, h2, s, n, c, h3, hk⟩ := onv_iff.1 h
  exact ⟨_, hk, fun C' => onv_iff.2 ⟨vx, h1, onv_iff.2 ⟨b, h2, s, n, c, rdm h3, rfl⟩⟩⟩
 | loadX x =>
  obtain ⟨vx, h1, h⟩ := onv_iff.1 h
  obtain ⟨b, h2, cs, h3, hk⟩ := onv_iff.1 h
  exact ⟨_, hk, fun C' => onv_iff.2 ⟨vx, h1, onv_iff.2 ⟨b, h2, cs, rdm h3, rfl⟩⟩⟩
 | build zero parts =>
  obtain ⟨ps, h1, h⟩ := onv_iff.1 h
  obtain ⟨cs, h2, hk⟩ := onv_iff.1 h
  exact ⟨_, hk, fun C' => onv_iff.2 ⟨ps, h1, onv_iff.2 ⟨cs, h2, rfl⟩⟩⟩
 | mkfn f first caps =>
  obtain ⟨ps, h1, h⟩ := onv_iff.1 h
  obtain ⟨cs, h2, hk⟩ := onv_iff.1 h
  exact ⟨_, hk, fun C' => onv_iff.2 ⟨ps, h1, onv_iff.2 ⟨cs, h2, rfl⟩⟩⟩
 | slS sz x lo hi mx =>
  obtain ⟨vx, h1, h⟩ := onv_iff.1 h
  obtain ⟨v2, h2, h⟩ := onv_iff.1 h
  obtain ⟨v3, h3, h⟩ := onv_iff.1 h
  obtain ⟨v4, h4, h⟩ := onv_iff.1 h
  obtain ⟨s, h5, l, hh, m, a1, a2, a3, a4, a5, a6, a7, hk⟩ := onv_iff.1 h
  exact ⟨_, hk, fun C' => onv_iff.2 ⟨vx, h1, onv_iff.2 ⟨v2, h2, onv_iff.2 ⟨v3, h3, onv_iff.2 ⟨v4, h4, onv_iff.2 ⟨s, h5, l, hh, m, a1, a2, a3, a4, a5, a6, a7, rfl⟩⟩⟩⟩⟩⟩
 | slA n sz x lo hi =>
  obtain ⟨vx, h1, h⟩ := onv_iff.1 h
  obtain ⟨v2, h2, h⟩ := onv_iff.1 h
  obtain ⟨v3, h3, h⟩ := onv_iff.1 h
  obtain ⟨s, h5, l, hh, a1, a2, a3, a4, hk⟩ := onv_iff.1 h
  exact ⟨_, hk, fun C' => onv_iff.2 ⟨vx, h1, onv_iff.2 ⟨v2, h2, onv_iff.2 ⟨v3, h3, onv_iff.2 ⟨s, h5, l, hh, a1, a2, a3, a4, rfl⟩⟩⟩⟩⟩
 | maxi x y =>
  obtain ⟨vx, h1, h⟩ := onv_iff.1 h
  obtain ⟨vy, h2, h⟩ := onv_iff.1 h
  cases vx with
  | int k a => cases vy with
   | int k' b => exact ⟨_, h, fun C' => onv_iff.2 ⟨_, h1, onv_iff.2 ⟨_, h2, rfl⟩⟩⟩
   | _ => exact h.elim
  | _ => exact h.elim
 | mini x y =>
  obtain ⟨vx, h1, h⟩ := onv_iff.1 h
  obtain ⟨vy, h2, h⟩ := onv_iff.1 h
  cases vx with
  | int k a => cases vy with
   | int k' b => exact ⟨_, h, fun C' => onv_iff.2 ⟨_, h1, onv_iff.2 ⟨_, h2, rfl⟩⟩⟩
   | _ => exact h.elim
  | _ => exact h.elim
 | eqS neg x =>
  obtain ⟨vx, h1, h⟩ := onv_iff.1 h
  obtain ⟨s, h2, hk⟩ := onv_iff.1 h
  exact ⟨_, hk, fun C' => onv_iff.2 ⟨vx, h1, onv_iff.2 ⟨s, h2, rfl⟩⟩⟩
 | eqA neg ks x y =>
  obtain ⟨vx, h1, h⟩ := onv_iff.1 h
  obtain ⟨vy, h2, h⟩ := onv_iff.1 h
  obtain ⟨xs, h3, h⟩ := onv_iff.1 h
  obtain ⟨ys, h4, h⟩ := onv_iff.1 h
  obtain ⟨r, h5, hk⟩ := onv_iff.1 h
  exact ⟨_, hk, fun C' => onv_iff.2 ⟨vx, h1, onv_iff.2 ⟨vy, h2, onv_iff.2 ⟨xs, h3, onv_iff.2 ⟨ys, h4, onv_iff.2 ⟨r, h5, rfl⟩⟩⟩⟩⟩⟩
 | idx1 n x i =>
  obtain ⟨vx, h1, h⟩ := onv_iff.1 h
  obtain ⟨vi, h2, h⟩ := onv_iff.1 h
  obtain ⟨l, h3, h⟩ := onv_iff.1 h
  obtain ⟨j, h4, h5, h6, h⟩ := onv_iff.1 h
  obtain ⟨v, h7, hk⟩ := onv_iff.1 h
  exact ⟨_, hk, fun C' => onv_iff.2 ⟨vx, h1, onv_iff.2 ⟨vi, h2, onv_iff.2 ⟨l, h3, onv_iff.2 ⟨j, h4, h5, h6, onv_iff.2 ⟨v, h7, rfl⟩⟩⟩⟩⟩⟩
 | idxA n sz x i =>
  obtain ⟨vx, h1, h⟩ := onv_iff.1 h
  obtain ⟨vi, h2, h⟩ := onv_iff.1 h
  obtain ⟨l, h3, h⟩ := onv_iff.1 h
  obtain ⟨j, h4, h5, h6, hk⟩ := onv_iff.1 h
  exact ⟨_, hk, fun C' => onv_iff.2 ⟨vx, h1, onv_iff.2 ⟨vi, h2, onv_iff.2 ⟨l, h3, onv_iff.2 ⟨j, h4, h5, h6, rfl⟩⟩⟩⟩⟩
 | cap x =>
  obtain ⟨vx, h1, h⟩ := onv_iff.1 h
  obtain ⟨s, h2, hk⟩ := onv_iff.1 h
  exact ⟨_, hk, fun C' => onv_iff.2 ⟨vx, h1, onv_iff.2 ⟨s, h2, rfl⟩⟩⟩
 | store _ _ _ | box _ _ | alloc _ _ | buildSl _ _ _ _ | append _ _ _ _ _ _ | makeSl _ _ _ _ _ _ | call _ _ | callv _ _ | raw _ | copyO _ _ _ | clearS _ _ | appendZ _ _ _ _ _ _ | ext _ _ | bad => cases hf

/-- Quiet ones: flat, a call that only reads, a raw one. -/
def quietR (Q : List Nat) : ROp → Bool
 | .call f _ => Q.contains f
 | .raw _ => true
 | r => flat r

theorem Ext.of_st {w w' : World} {M0 M : PHeap} {G : Own} (h : St w [] M0 M G w') : Ext w w' :=
 ⟨h.os, h.tape, h.output, h.size, fun k hk => h.frame k hk (by simp)⟩

theorem q_step {C : Cx P} {ops : Array Oper} {o : Oper} {r : ROp} {Q : List Nat} {ρ : Env} {av : Act} {M : PHeap} {G : Own} {K : Value → Prop} (hc : Cmp P o r) (hq : quietR Q r = true) (hsel : ∀ cs b, o.op ≠ .select cs b) (hf : Fits C.nt ρ av) (h : qW C ρ M G K r) :
  ∃ v, K v ∧ ∀ (a : Act) (w : World), (∀ t ∈ o.looksAt ops, a.tmps[t]? = av.tmps[t]?) → C.St M G w → Does P o a.eval w fun u w' => u = v ∧ Ext w w' := by
 have entry : ∀ w, C.St M G w → St w [] (M.add G) (M.add G) [] w := fun w hs => St.enter (G := []) (fun b o hb => hs.agreeAdd hb) (fun p hp => by cases hp) (fun p hp => by cases hp) (by simp)
 have go : ∀ v, (∀ C' : Cx P, opW C' ρ (M.add G) [] (fun u _ _ => u = v) r) → ∀ (a : Act) (w : World), (∀ t ∈ o.looksAt ops, a.tmps[t]? = av.tmps[t]?) → C.St M G w → Does P o a.eval w fun u w' => u = v ∧ Ext w w' := by
  intro v h' a w hl hs
  have := opW_sound (C := { C with w0 := w, F := [], M0 := M.add G }) hc hf (entry w hs) (h' _)
  unfold Does
  rw [exec_congr hsel hl]
  refine Does.mono this ?_
  rintro u w' ⟨M', G', hs', hk⟩
  exact ⟨hk, Ext.of_st hs'⟩
 have main : flat r = true → opW C ρ M G (fun v _ _ => K v) r → ∃ v, K v ∧ ∀ (a : Act) (w : World), (∀ t ∈ o.looksAt ops, a.tmps[t]? = av.tmps[t]?) → C.St M G w → Does P o a.eval w fun u w' => u = v ∧ Ext w w' := by
  intro hfl h
  obtain ⟨v, hk, h'⟩ := flat_one hfl h
  exact ⟨v, hk, go v h'⟩
 cases r with
 | call f args =>
  obtain ⟨vs, hvs, v, hcon, hk⟩ := onv_iff.1 h
  refine ⟨v, hk, go v fun C' => onv_iff.2 ⟨vs, hvs, ?_⟩⟩
  refine ConQ.call (K := fun u _ _ => u = v) (v := v) ?_ rfl
  refine ⟨hcon.1, fun w hs => ?_⟩
  have hs' : St w [] (M.add G) (M.add G) [] w := St.enter (G := []) (fun b o hb => hs.agree b o (.inl hb)) (fun p hp => by cases hp) (fun p hp => by cases hp) (by simp)
  intro cs
  obtain ⟨e, w', fr, ⟨u, he, M', G', h1, h2⟩, rr⟩ := hcon.2 w hs' cs
  refine ⟨e, w', fr, ⟨u, he, (M.add G).add [], [], ?_, h2⟩, rr⟩
  have hx := Ext.of_st h1
  refine ⟨hx.os, hx.tape, hx.output, hx.size, fun b hb _ => hx.block b hb, fun b o hb => ?_, fun p hp => (by cases hp), fun p hp => (by cases hp), fun p hp => (by cases hp), (by simp), PHeap.le_refl _, fun b o hb => .inl hb⟩
  rw [hx.block b (hs.ltM hb)]; exact hs.agree b o hb
 | raw o' =>
  obtain ⟨v, hex, hk⟩ := h
  cases hc
  refine ⟨v, hk, fun a w hl hs => .inl ⟨v, w, ?_, rfl, Ext.refl w⟩⟩
  rw [exec_congr hsel hl]
  exact hex av hf w hs
 | store _ _ _ | box _ _ | alloc _ _ | buildSl _ _ _ _ | append _ _ _ _ _ _ | makeSl _ _ _ _ _ _ | callv _ _ | copyO _ _ _ | clearS _ _ | appendZ _ _ _ _ _ _ | ext _ _ | bad => cases hq
 | _ => exact main rfl h

end Go.EV

namespace Go.EV
variable {P : Program}

inductive QL where
 | nil
 | op (i : Nat) (d : Option Nat) (r : ROp) (rest : QL)
 | g (s : Nat) (want : Bool) (body : QL) (m d : Nat) (last : A) (rest : QL)

inductive AT where
 | fin
 | no
 | q (l : QL) (rest : AT)
 | s (i : Nat) (d : Option Nat) (r : ROp) (re : Bool) (t more : AT)
 | br (s : Nat) (yes nay : AT)
 | sk (i : Nat) (d : Option Nat) (rest : AT)

def condQ (c want : Bool) (A : (Bool → Prop) → Prop) (K : Bool → Prop) : Prop := ∃ e, (c = want → A fun u => u = e) ∧ K (if want then c && e else c || e)

def wpQL (C : Cx P) : QL → Env → PHeap → Own → (Env → Prop) → Prop
 | .nil, ρ, _, _, K => K ρ
 | .op _ d r rest, ρ, M, G, K => qW C ρ M G (fun v => wpQL C rest (putE d v ρ) M G K) r
 | .g s want body _ d last rest, ρ, M, G, K => onv (get ρ s) fun v => onv (bool? v) fun c =>
   condQ c want (fun K' => wpQL C body ρ M G fun ρ' => onv (ev ρ' last) fun u => onv (bool? u) fun e => K' e) fun e => wpQL C rest ((d, .bool e) :: ρ) M G K

def wpA (C : Cx P) : AT → Env → PHeap → Own → PHeap → Own → (Env → PHeap → Own → Prop) → Prop
 | .fin, ρ, _, _, M, G, K => K ρ M G
 | .no, _, _, _, _, _, _ => True
 | .q l rest, ρ, Mk, Gk, M, G, K => wpQL C l ρ Mk Gk fun ρ' => wpA C rest ρ' Mk Gk M G K
 | .s _ d r re t more, ρ, Mk, Gk, M, G, K =>
  opW C ρ M G (fun v M' G' => if re = true then wpA C t (putE d v ρ) M' G' M' G' K else M.le M' ∧ (∀ p ∈ Gk, p ∈ G') ∧ wpA C t (putE d v ρ) Mk Gk M' G' K) r ∧ wpA C more ρ Mk Gk M G K
 | .br s yes nay, ρ, Mk, Gk, M, G, K => onv (get ρ s) fun v => onv (bool? v) fun c => (c = true → wpA C yes ρ Mk Gk M G K) ∧ (c = false → wpA C nay ρ Mk Gk M G K)
 | .sk _ _ rest, ρ, Mk, Gk, M, G, K => wpA C rest ρ Mk Gk M G K

/-- A set of operations, as the bits of a number. -/
abbrev bit (D i : Nat) : Bool := Nat.testBit D i
abbrev bset (D i : Nat) : Nat := D ||| (1 <<< i)

theorem bit_bset (D i : Nat) : bit (bset D i) = setL (bit D) i := by
 funext j
 simp only [bit, bset, setL, Nat.testBit_or, Nat.one_shiftLeft, Nat.testBit_two_pow]
 by_cases h : j = i
 ·subst h; simp
 ·simp [h, Ne.symm h]

inductive CmpQL (P : Program) (ops : Array Oper) (nt : Nat) (Q : List Nat) : Option (Nat × Bool) → Nat → Nat → QL → Nat → Prop
 | nil {g : Option (Nat × Bool)} {D0 D : Nat} : CmpQL P ops nt Q g D0 D .nil D
 | op {g : Option (Nat × Bool)} {D0 D D' i : Nat} {o : Oper} {r : ROp} {rest : QL} (ho : ops[i]? = some o) (hg : o.guard = g) (hD : bit D i = false) (hdep : ∀ p, dep ops p i → bit D p = true)
   (hc : Cmp P o r) (hq : quietR Q r = true) (h : CmpQL P ops nt Q g D0 (bset D i) rest D') : CmpQL P ops nt Q g D0 D (.op i o.dst r rest) D'
 | g {g : Option (Nat × Bool)} {D0 D D1 D' m gi s d : Nat} {want : Bool} {og o : Oper} {body rest : QL} {x : Operand} {last : A} (hgo : ops[gi]? = some og) (hgs : og.dst = some s) (hgi : bit D gi = true)
   (hin : g.isSome = true → og.guard = g ∧ bit D0 gi = false) (hb : CmpQL P ops nt Q (some (gi, want)) D D body D1) (ho : ops[m]? = some o) (hg : o.guard = g) (hD : bit D1 m = false) (hdep : ∀ p, dep ops p m → bit D1 p = true)
   (hop : o.op = if want then .pick (.tmp s) x (.const (.bool false)) else .pick (.tmp s) (.const (.bool true)) x) (hx : cA x = some last) (hd : o.dst = some d)
   (h : CmpQL P ops nt Q g D0 (bset D1 m) rest D') : CmpQL P ops nt Q g D0 D (.g s want body m d last rest) D'

/-- What the guards are known to be: none: what was left out. -/
abbrev Gam := List (Nat × Option Bool)
def gval : Option Bool → Value
 | none => undef
 | some b => .bool b

inductive CmpA (P : Program) (ops : Array Oper) (nt : Nat) (Q : List Nat) : Gam → Option Nat → Nat → AT → Prop
 | fin {Γ : Gam} {D : Nat} (hall : ∀ i, i < ops.size → bit D i = true) : CmpA P ops nt Q Γ none D .fin
 | q {Γ : Gam} {g : Option (Nat × Bool)} {D D1 : Nat} {l : QL} {rest : AT} (hg : ∀ p, g = some p → (p.1, some p.2) ∈ Γ) (hq : CmpQL P ops nt Q g D D l D1) (h : CmpA P ops nt Q Γ none D1 rest) : CmpA P ops nt Q Γ none D (.q l rest)
 | alts {Γ : Gam} {D : Nat} {t : AT} (hne : ∃ i, i < ops.size ∧ bit D i = false) (h : CmpA P ops nt Q Γ (some 0) D t) : CmpA P ops nt Q Γ none D t
 | no {Γ : Gam} {i D : Nat} (h : ops.size ≤ i) : CmpA P ops nt Q Γ (some i) D .no
 | pass {Γ : Gam} {i D : Nat} {t : AT} (h : bit D i = true ∨ ∃ p, dep ops p i ∧ bit D p = false) (hr : CmpA P ops nt Q Γ (some (i + 1)) D t) : CmpA P ops nt Q Γ (some i) D t
 | s {Γ : Gam} {i D : Nat} {o : Oper} {r : ROp} {re : Bool} {t more : AT} (ho : ops[i]? = some o) (hg : ∀ p, o.guard = some p → (p.1, some p.2) ∈ Γ) (hD : bit D i = false) (hc : Cmp P o r) (hre : re = true → ∀ j, bit D j = true → Bef ops j i)
   (ht : CmpA P ops nt Q Γ none (bset D i) t) (hm : CmpA P ops nt Q Γ (some (i + 1)) D more) : CmpA P ops nt Q Γ (some i) D (.s i o.dst r re t more)
 | br {Γ : Gam} {D gi s : Nat} {og : Oper} {yes nay : AT} (hgo : ops[gi]? = some og) (hgs : og.dst = some s) (hgD : bit D gi = true)
   (hy : CmpA P ops nt Q ((gi, some true) :: Γ) none D yes) (hn : CmpA P ops nt Q ((gi, some false) :: Γ) none D nay) : CmpA P ops nt Q Γ none D (.br s yes nay)
 | sk {Γ Γ' : Gam} {D i gi : Nat} {want : Bool} {x : Option Bool} {o : Oper} {rest : AT} (ho : ops[i]? = some o) (hg : o.guard = some (gi, want)) (hx : (gi, x) ∈ Γ) (hne : x ≠ some want) (hD : bit D i = false)
   (hdep : ∀ p, dep ops p i → bit D p = true) (hΓ : ∀ y ∈ Γ', y ∈ Γ ∨ y = (i, none) ∧ ∃ s, o.dst = some s) (h : CmpA P ops nt Q Γ' none (bset D i) rest) : CmpA P ops nt Q Γ none D (.sk i o.dst rest)

def QL.len : QL → Nat
 | .nil => 0
 | .op _ _ _ rest => rest.len + 1
 | .g _ _ body _ _ _ rest => body.len + 1 + rest.len

def AT.sz : AT → Nat
 | .fin => 0
 | .no => 0
 | .q l rest => l.len + rest.sz
 | .s _ _ _ _ t more => t.sz + 1 + more.sz
 | .br _ yes nay => yes.sz + nay.sz
 | .sk _ _ rest => rest.sz + 1

def Closed (ops : Array Oper) (D : Nat) : Prop := ∀ i j, bit D j = true → Bef ops i j → bit D i = true

theorem Bef.last {ops : Array Oper} {i j : Nat} (h : Bef ops i j) : ∃ k, dep ops k j ∧ (k = i ∨ Bef ops i k) := by
 cases h with
 | one h => exact ⟨i, h, .inl rfl⟩
 | @step k _ h hd => exact ⟨_, hd, .inr h⟩

theorem Closed.pre {ops : Array Oper} {D i : Nat} (h : Closed ops D) (hd : ∀ p, dep ops p i → bit D p = true) : ∀ p, Bef ops p i → bit D p = true := by
 intro p hb
 obtain ⟨k, hk, e | hb⟩ := hb.last
 ·subst e; exact hd k hk
 ·exact h p k (hd k hk) hb

theorem Closed.bset {ops : Array Oper} {D i : Nat} (h : Closed ops D) (hd : ∀ p, dep ops p i → bit D p = true) : Closed ops (bset D i) := by
 intro x j hj hb
 rw [bit_bset] at hj ⊢
 rcases setL_or hj with rfl | hj
 ·exact setL_of (h.pre hd x hb)
 ·exact setL_of (h x j hj hb)

/-- What is known is of the variables, or of what was taken. -/
def DomB (V : List Nat) (ops : Array Oper) (D : Nat) (ρ : Env) : Prop := ∀ t v, get ρ t = some v → t ∈ V ∨ ∃ u o, bit D u = true ∧ ops[u]? = some o ∧ o.dst = some t

theorem CmpQL.sub {ops : Array Oper} {nt : Nat} {Q : List Nat} {g : Option (Nat × Bool)} {D0 D D' : Nat} {l : QL} (h : CmpQL P ops nt Q g D0 D l D') : ∀ j, bit D j = true → bit D' j = true := by
 induction h with
 | nil => exact fun j h => h
 | op _ _ _ _ _ _ _ ih => intro j hj; exact ih j (by rw [bit_bset]; exact setL_of hj)
 | g _ _ _ _ _ _ _ _ _ _ _ _ _ ih1 ih2 => intro j hj; exact ih2 j (by rw [bit_bset]; exact setL_of (ih1 j hj))

theorem CmpQL.guarded {ops : Array Oper} {nt : Nat} {Q : List Nat} {g : Option (Nat × Bool)} {D0 D D' : Nat} {l : QL} (h : CmpQL P ops nt Q g D0 D l D') : g ≠ none → ∀ t o, bit D' t = true → bit D t = false → ops[t]? = some o → o.guard ≠ none := by
 induction h with
 | nil => intro _ t o h1 h2; rw [h1] at h2; cases h2
 | @op g D0 D D' i o r rest ho hg _ _ _ _ _ ih =>
  intro hn t o' h1 h2 hto
  by_cases e : t = i
  ·subst e; rw [ho] at hto; cases hto; rw [hg]; exact hn
  ·exact ih hn t o' h1 (by rw [bit_bset]; simp [setL, e, h2]) hto
 | @g g D0 D D1 D' m gi s d want og o body rest x last _ _ _ _ hb ho hg hDm _ _ _ _ h ih1 ih2 =>
  intro hn t o' h1 h2 hto
  by_cases e : t = m
  ·subst e; rw [ho] at hto; cases hto; rw [hg]; exact hn
  ·cases h3 : bit D1 t with
   | true => exact ih1 (by simp) t o' h3 h2 hto
   | false => exact ih2 hn t o' h1 (by rw [bit_bset]; simp [setL, e, h3]) hto

theorem Closed.ql {ops : Array Oper} {nt : Nat} {Q : List Nat} {g : Option (Nat × Bool)} {D0 D D' : Nat} {l : QL} (h : CmpQL P ops nt Q g D0 D l D') : Closed ops D → Closed ops D' := by
 induction h with
 | nil => exact id
 | op _ _ _ hdep _ _ _ ih => intro hc; exact ih (hc.bset hdep)
 | g _ _ _ _ _ _ _ _ hdep _ _ _ _ ih1 ih2 => intro hc; exact ih2 ((ih1 hc).bset hdep)

section
variable {C : Cx P} {ops : Array Oper} {Q : List Nat} {Mk : PHeap} {Gk : Own} {M : PHeap} {G : Own} {KA : Act → PHeap → Own → Prop}

theorem vt_quiet {n i D : Nat} {o : Oper} {v : Value} {av : Act} (ho : ops[i]? = some o) (hD : bit D i = false) (hdep : ∀ p, dep ops p i → bit D p = true) (hcl : Closed ops D) (hq : QStep C Mk Gk ops o av v)
  (h : VT C ops KA n (bit (bset D i)) Mk Gk (av.put o.dst v) M G) : VT C ops KA (n + 1) (bit D) Mk Gk av M G :=
 .inr (.inl ⟨i, o, v, ho, hD, hcl.pre hdep, hq, by rw [bit_bset] at h; exact h⟩)

/-- A guarded piece whose guard says no. -/
theorem skipQ (hp : Plan ops C.nt) {g : Option (Nat × Bool)} {D0 D D' : Nat} {l : QL} (h : CmpQL P ops C.nt Q g D0 D l D') :
  ∀ {n : Nat} {av : Act} {gi : Nat} {want : Bool} {og : Oper} {s : Nat} {v : Value} (_ : g = some (gi, want)) (_ : ops[gi]? = some og) (_ : og.dst = some s) (_ : bit D gi = true) (_ : av.tmps[s]? = some v) (_ : v ≠ .bool want) (_ : av.tmps.size = C.nt) (_ : Closed ops D)
   (_ : ∀ t o d, bit D t = true → bit D0 t = false → ops[t]? = some o → o.dst = some d → av.tmps[d]? = some undef)
   (_ : ∀ av' : Act, av'.tmps.size = C.nt → av'.defers = av.defers → (∀ e, (∀ t o, bit D' t = true → bit D t = false → ops[t]? = some o → o.dst ≠ some e) → av'.tmps[e]? = av.tmps[e]?) →
    (∀ t o d, bit D' t = true → bit D0 t = false → ops[t]? = some o → o.dst = some d → av'.tmps[d]? = some undef) → VT C ops KA n (bit D') Mk Gk av' M G),
   VT C ops KA (n + l.len) (bit D) Mk Gk av M G := by
 induction h with
 | nil =>
  intro n av gi want og s v hg hgo hgs hgD hgv hv hsz hcl hun hT
  exact hT av hsz rfl (fun e _ => rfl) hun
 | @op g D0 D D' i o r rest ho hog hD hdep hc hq h ih =>
  intro n av gi want og s v hg hgo hgs hgD hgv hv hsz hcl hun hT
  have hnw : ∀ a : Act, (∀ t ∈ o.looksAt ops, a.tmps[t]? = av.tmps[t]?) → Region.wanted o (yielded ops a.tmps) = false := by
   intro a ha
   rw [wanted_congr ha]
   exact not_wanted (hog.trans hg) hgo hgs hgv hv
  have hne : i ≠ gi := by rintro rfl; rw [hD] at hgD; cases hgD
  have hoth : ∀ t o' e, ops[t]? = some o' → o'.dst = some e → t ≠ i → (av.put o.dst undef).tmps[e]? = av.tmps[e]? := by
   intro t o' e hto hte hn
   exact put_get fun hdd => hn (hp.one t i o' o e hto ho hte hdd)
  have hself : ∀ e, o.dst = some e → (av.put o.dst undef).tmps[e]? = some undef := by
   intro e he
   rw [he]; exact put_self (by rw [hsz]; exact hp.dst i o e ho he)
  show VT C ops KA (n + (rest.len + 1)) (bit D) Mk Gk av M G
  rw [← Nat.add_assoc]
  refine vt_quiet ho hD hdep hcl (v := undef) (fun a w ha _ => ⟨fun hw => (by rw [hnw a ha] at hw; cases hw), fun _ => rfl⟩) ?_
  refine ih hg hgo hgs (by rw [bit_bset]; exact setL_of hgD) (by rw [hoth gi og s hgo hgs hne.symm]; exact hgv) hv (by rw [put_size]; exact hsz) (hcl.bset hdep) ?_ ?_
  ·intro t o' d ht h0 hto htd
   rw [bit_bset] at ht
   by_cases e : t = i
   ·subst e; rw [ho] at hto; cases hto; exact hself d htd
   ·rw [hoth t o' d hto htd e]
    exact hun t o' d ((setL_or ht).resolve_left e) h0 hto htd
  ·intro av' z1 z2 z3 z4
   refine hT av' z1 (z2.trans (put_defers _ _ _)) ?_ z4
   intro e he
   rw [z3 e (fun t o' q1 q2 q3 => he t o' q1 (by rw [bit_bset] at q2; exact (setL_false q2).2) q3)]
   exact put_get fun hdd => he i o (h.sub i (by rw [bit_bset]; exact setL_self)) hD ho hdd
 | @g g D0 D D1 D' m gj s' d want' og' o body rest x last hgo' hgs' hgD' hin hb ho hog hDm hdep hop hx hdo h ih1 ih2 =>
  intro n av gi want og s v hg hgo hgs hgD hgv hv hsz hcl hun hT
  obtain ⟨hin1, hin2⟩ := hin (by simp [hg])
  have hund : av.tmps[s']? = some undef := hun gj og' s' hgD' hin2 hgo' hgs'
  have hcl1 : Closed ops D1 := Closed.ql hb hcl
  show VT C ops KA (n + (body.len + 1 + rest.len)) (bit D) Mk Gk av M G
  rw [show n + (body.len + 1 + rest.len) = (n + rest.len + 1) + body.len from by omega]
  refine ih1 rfl hgo' hgs' hgD' hund (by simp [undef]) hsz hcl ?_ ?_
  ·intro t o' e h1 h2; rw [h1] at h2; cases h2
  intro av1 z1 z2 z3 z4
  have keep : ∀ t o' e, ops[t]? = some o' → o'.dst = some e → ¬ (bit D1 t = true ∧ bit D t = false) → av1.tmps[e]? = av.tmps[e]? := by
   intro t o' e hto hte hn
   refine z3 e fun t' o'' h1 h2 h3 h4 => hn ?_
   have := hp.one t' t o'' o' e h3 hto h4 hte
   subst this
   exact ⟨h1, h2⟩
  have hs1 : av1.tmps[s]? = some v := by rw [keep gi og s hgo hgs (by rw [hgD]; simp)]; exact hgv
  have hnw : ∀ a : Act, (∀ t ∈ o.looksAt ops, a.tmps[t]? = av1.tmps[t]?) → Region.wanted o (yielded ops a.tmps) = false := by
   intro a ha
   rw [wanted_congr ha]
   exact not_wanted (hog.trans hg) hgo hgs hs1 hv
  have hgm : gi ≠ m := by rintro rfl; rw [hb.sub _ hgD] at hDm; cases hDm
  have hoth : ∀ t o' e, ops[t]? = some o' → o'.dst = some e → t ≠ m → (av1.put o.dst undef).tmps[e]? = av1.tmps[e]? := by
   intro t o' e hto hte hn
   exact put_get fun hdd => hn (hp.one t m o' o e hto ho hte hdd)
  have hself : ∀ e, o.dst = some e → (av1.put o.dst undef).tmps[e]? = some undef := by
   intro e he
   rw [he]; exact put_self (by rw [z1]; exact hp.dst m o e ho he)
  refine vt_quiet ho hDm hdep hcl1 (v := undef) (fun a w ha _ => ⟨fun hw => (by rw [hnw a ha] at hw; cases hw), fun _ => rfl⟩) ?_
  refine ih2 hg hgo hgs (by rw [bit_bset]; exact setL_of (hb.sub _ hgD)) (by rw [hoth gi og s hgo hgs hgm]; exact hs1) hv (by rw [put_size]; exact z1) (hcl1.bset hdep) ?_ ?_
  ·intro t o' e ht h0 hto htd
   rw [bit_bset] at ht
   by_cases em : t = m
   ·subst em; rw [ho] at hto; cases hto; exact hself e htd
   ·rw [hoth t o' e hto htd em]
    have ht1 := (setL_or ht).resolve_left em
    cases hDt : bit D t with
    | true => rw [keep t o' e hto htd (by rw [hDt]; simp)]; exact hun t o' e hDt h0 hto htd
    | false => exact z4 t o' e ht1 hDt hto htd
  ·intro av' y1 y2 y3 y4
   refine hT av' y1 (y2.trans ((put_defers _ _ _).trans z2)) ?_ y4
   intro e he
   rw [y3 e (fun t o' q1 q2 q3 => he t o' q1 (by
    rw [bit_bset] at q2
    have := (setL_false q2).2
    cases hDt : bit D t with
    | false => rfl
    | true => rw [hb.sub t hDt] at this; cases this) q3)]
   rw [put_get fun hdd => he m o (h.sub m (by rw [bit_bset]; exact setL_self)) (by
    cases hDt : bit D m with
    | false => rfl
    | true => rw [hb.sub m hDt] at hDm; cases hDm) ho hdd]
   refine z3 e fun t o' q1 q2 q3 => he t o' (h.sub t (by rw [bit_bset]; exact setL_of q1)) q2 q3

theorem DomB.put {V : List Nat} {D i : Nat} {o : Oper} {ρ : Env} (h : DomB V ops D ρ) (ho : ops[i]? = some o) (v : Value) : DomB V ops (bset D i) (putE o.dst v ρ) := by
 have hm : ∀ t v, get ρ t = some v → t ∈ V ∨ ∃ u o, bit (bset D i) u = true ∧ ops[u]? = some o ∧ o.dst = some t := fun t v ht =>
  (h t v ht).imp id fun ⟨u, o', h1, h2, h3⟩ => ⟨u, o', by rw [bit_bset]; exact setL_of h1, h2, h3⟩
 cases hd : o.dst with
 | none => exact hm
 | some d =>
  intro t u ht
  simp only [putE, get] at ht
  split at ht
  ·rename_i e; subst e; exact .inr ⟨i, o, by rw [bit_bset]; exact setL_self, ho, hd⟩
  ·exact hm t u ht

/-- A run of quiet ones. -/
theorem takeQ_sound (hp : Plan ops C.nt) {V : List Nat} (hV : ∀ (t : Nat) (o : Oper) (d : Nat), ops[t]? = some o → o.dst = some d → o.guard ≠ none → d ∉ V) {g : Option (Nat × Bool)} {D0 D D' : Nat} {l : QL} (h : CmpQL P ops C.nt Q g D0 D l D') :
  ∀ {n : Nat} {av : Act} {ρ : Env} {K : Env → Prop} (_ : GOK ops g av) (_ : ∀ p, g = some p → bit D p.1 = true) (_ : Closed ops D) (_ : DomB V ops D ρ) (_ : Fits C.nt ρ av) (_ : wpQL C l ρ Mk Gk K)
   (_ : ∀ (av' : Act) (ρ' : Env), DomB V ops D' ρ' → Fits C.nt ρ' av' → av'.defers = av.defers → (∀ e, (∀ t o, bit D' t = true → bit D t = false → ops[t]? = some o → o.dst ≠ some e) → av'.tmps[e]? = av.tmps[e]?) → K ρ' → VT C ops KA n (bit D') Mk Gk av' M G),
   VT C ops KA (n + l.len) (bit D) Mk Gk av M G := by
 induction h with
 | nil =>
  intro n av ρ K hg hgD hcl hdom hf hw hT
  exact hT av ρ hdom hf rfl (fun e _ => rfl) hw
 | @op g D0 D D' i o r rest ho hog hD hdep hc hq h ih =>
  intro n av ρ K hg hgD hcl hdom hf hw hT
  obtain ⟨v, hk, hdo⟩ := q_step (ops := ops) hc hq (hp.sel i o ho).1 hf hw
  have hwant : ∀ a : Act, (∀ t ∈ o.looksAt ops, a.tmps[t]? = av.tmps[t]?) → Region.wanted o (yielded ops a.tmps) = true := fun a ha => by
   rw [wanted_congr ha]; exact wanted_ok hog hg
  show VT C ops KA (n + (rest.len + 1)) (bit D) Mk Gk av M G
  rw [← Nat.add_assoc]
  refine vt_quiet ho hD hdep hcl (v := v) (fun a w ha hs => ⟨fun _ => hdo a w ha hs, fun hw => (by rw [hwant a ha] at hw; cases hw)⟩) ?_
  refine ih ?_ (fun p e => by rw [bit_bset]; exact setL_of (hgD p e)) (hcl.bset hdep) (hdom.put ho v) (hf.putE o.dst (fun e he => hp.dst i o e ho he) v) hk ?_
  ·intro gi want e
   obtain ⟨og, s, h1, h2, h3⟩ := hg gi want e
   refine ⟨og, s, h1, h2, ?_⟩
   rw [put_get ?_]
   ·exact h3
   ·intro hdd
    have := hp.one i gi o og s ho h1 hdd h2
    subst this
    have := hgD _ e
    simp only at this
    rw [hD] at this; cases this
  ·intro av' ρ' z1 z2 z3 z4 z5
   refine hT av' ρ' z1 z2 (z3.trans (put_defers _ _ _)) ?_ z5
   intro e he
   rw [z4 e (fun t o' q1 q2 q3 => he t o' q1 (by rw [bit_bset] at q2; exact (setL_false q2).2) q3)]
   exact put_get fun hdd => he i o (h.sub i (by rw [bit_bset]; exact setL_self)) hD ho hdd
 | @g g D0 D D1 D' m gi s d want og o body rest x last hgo hgs hgD' hin hb ho hog hDm hdep hop hx hdo h ih1 ih2 =>
  intro n av ρ K hg hgD hcl hdom hf hw hT
  obtain ⟨vs, hvs, hw⟩ := onv_iff.1 hw
  obtain ⟨c, hc, e, hyes, hk⟩ := onv_iff.1 hw
  have e0 := bool?_some hc
  subst e0
  have hsv : av.tmps[s]? = some (.bool c) := hf.2 s _ hvs
  have hcl1 : Closed ops D1 := Closed.ql hb hcl
  show VT C ops KA (n + (body.len + 1 + rest.len)) (bit D) Mk Gk av M G
  rw [show n + (body.len + 1 + rest.len) = (n + rest.len + 1) + body.len from by omega]
  -- the frame of the body
  have back : ∀ av1 : Act, av1.tmps.size = C.nt → (∀ e, (∀ t o, bit D1 t = true → bit D t = false → ops[t]? = some o → o.dst ≠ some e) → av1.tmps[e]? = av.tmps[e]?) → Fits C.nt ρ av1 ∧ GOK ops g av1 ∧ av1.tmps[s]? = some (.bool c) := by
   intro av1 hsz hkeep
   have keep : ∀ t o' e, ops[t]? = some o' → o'.dst = some e → bit D t = true → av1.tmps[e]? = av.tmps[e]? := by
    intro t o' e hto hte hDt
    refine hkeep e fun t' o'' h1 h2 h3 h4 => ?_
    have := hp.one t' t o'' o' e h3 hto h4 hte
    subst this
    rw [hDt] at h2; cases h2
   refine ⟨⟨hsz, fun t v ht => ?_⟩, ?_, ?_⟩
   ·rw [hkeep t ?_]
    ·exact hf.2 t v ht
    ·intro t' o' h1 h2 h3 h4
     rcases hdom t v ht with hv | ⟨u, ou, k1, k2, k3⟩
     ·exact hV t' o' t h3 h4 (hb.guarded (by simp) t' o' h1 h2 h3) hv
     ·have := hp.one t' u o' ou t h3 k2 h4 k3
      subst this
      rw [k1] at h2; cases h2
   ·intro gi' want' e'
    obtain ⟨og', s', h1, h2, h3⟩ := hg gi' want' e'
    exact ⟨og', s', h1, h2, by rw [keep gi' og' s' h1 h2 (hgD _ e')]; exact h3⟩
   ·rw [keep gi og s hgo hgs hgD']; exact hsv
  -- the pick, and what follows
  have pick : ∀ av1 : Act, Fits C.nt ρ av1 → GOK ops g av1 → av1.tmps[s]? = some (.bool c) → av1.defers = av.defers → (c = want → av1.eval x = .bool e) →
    (∀ e, (∀ t o, bit D1 t = true → bit D t = false → ops[t]? = some o → o.dst ≠ some e) → av1.tmps[e]? = av.tmps[e]?) → VT C ops KA (n + rest.len + 1) (bit D1) Mk Gk av1 M G := by
   intro av1 hf1 hg1 hs1 hds1 hx1 hkeep
   have hwant : ∀ a : Act, (∀ t ∈ o.looksAt ops, a.tmps[t]? = av1.tmps[t]?) → Region.wanted o (yielded ops a.tmps) = true := fun a ha => by
    rw [wanted_congr ha]; exact wanted_ok hog hg1
   have hval : ∀ w, (execOp av1.eval o).run P w = .ok (.value (.bool (if want then c && e else c || e))) w := by
    intro w
    have hse : av1.eval (.tmp s) = .bool c := by simp [Act.eval, Array.getD_eq_getD_getElem?, hs1]
    cases want <;> simp only [if_true, Bool.false_eq_true, if_false] at hop ⊢ <;> simp only [execOp, hop, hse]
    ·cases c
     ·rw [hx1 rfl]; rfl
     ·rfl
    ·cases c
     ·rfl
     ·rw [hx1 rfl]; rfl
   refine vt_quiet ho hDm hdep hcl1 (v := .bool (if want then c && e else c || e)) (fun a w ha hs => ⟨fun _ => .inl ⟨_, w, ?_, rfl, Ext.refl w⟩, fun hw => (by rw [hwant a ha] at hw; cases hw)⟩) ?_
   ·rw [exec_congr (hp.sel m o ho).1 ha]; exact hval w
   ·have hput : ∀ t o' e', ops[t]? = some o' → o'.dst = some e' → t ≠ m → (av1.put o.dst (.bool (if want then c && e else c || e))).tmps[e']? = av1.tmps[e']? := by
     intro t o' e' hto hte hn
     exact put_get fun hdd => hn (hp.one t m o' o e' hto ho hte hdd)
    refine ih2 (K := K) ?_ (fun p e => by rw [bit_bset]; exact setL_of (hb.sub _ (hgD p e))) (hcl1.bset hdep) (ρ := (d, .bool (if want then c && e else c || e)) :: ρ) ?_ ?_ hk ?_
    ·intro gi' want' e'
     obtain ⟨og', s', h1, h2, h3⟩ := hg1 gi' want' e'
     refine ⟨og', s', h1, h2, ?_⟩
     rw [hput gi' og' s' h1 h2 ?_]
     ·exact h3
     ·rintro rfl
      have := hb.sub _ (hgD _ e')
      simp only at this
      rw [hDm] at this; cases this
    ·have h1 : DomB V ops D1 ρ := fun t v ht => (hdom t v ht).imp id fun ⟨u, o', h1, h2, h3⟩ => ⟨u, o', hb.sub u h1, h2, h3⟩
     have := h1.put ho (.bool (if want then c && e else c || e))
     rw [hdo] at this; exact this
    ·have := hf1.putE o.dst (fun e he => hp.dst m o e ho he) (.bool (if want then c && e else c || e))
     rw [hdo] at this ⊢; exact this
    ·intro av' ρ' z1 z2 z3 z4 z5
     refine hT av' ρ' z1 z2 (z3.trans ((put_defers _ _ _).trans hds1)) ?_ z5
     intro e' he
     rw [z4 e' (fun t o' q1 q2 q3 => he t o' q1 (by
      rw [bit_bset] at q2
      have := (setL_false q2).2
      cases hDt : bit D t with
      | false => rfl
      | true => rw [hb.sub t hDt] at this; cases this) q3)]
     rw [put_get fun hdd => he m o (h.sub m (by rw [bit_bset]; exact setL_self)) (by
      cases hDt : bit D m with
      | false => rfl
      | true => rw [hb.sub m hDt] at hDm; cases hDm) ho hdd]
     refine hkeep e' fun t o' q1 q2 q3 => he t o' (h.sub t (by rw [bit_bset]; exact setL_of q1)) q2 q3
  by_cases hcw : c = want
  ·have hgok : GOK ops (some (gi, want)) av := by
    intro gi' want' e'
    cases e'
    exact ⟨og, s, hgo, hgs, by rw [← hcw]; exact hsv⟩
   refine ih1 hgok (fun p e => by cases e; exact hgD') hcl hdom hf (hyes hcw) ?_
   intro av1 ρ1 y1 y2 y3 y4 y5
   obtain ⟨u, hu, y5⟩ := onv_iff.1 y5
   obtain ⟨e', he, y5⟩ := onv_iff.1 y5
   have e1 := bool?_some he
   subst e1
   subst y5
   obtain ⟨b1, b2, b3⟩ := back av1 y2.1 y4
   exact pick av1 b1 b2 b3 y3 (fun _ => eval_cA y2 hx hu) y4
  ·refine skipQ hp hb rfl hgo hgs hgD' hsv (by simpa using hcw) hf.1 hcl (fun t o e h1 h2 => by rw [h1] at h2; cases h2) ?_
   intro av1 z1 z2 z3 _
   obtain ⟨b1, b2, b3⟩ := back av1 z1 z3
   exact pick av1 b1 b2 b3 z2 (fun h => absurd h hcw) z3

/-- What is known of the guards holds. -/
def GAM (ops : Array Oper) (Γ : Gam) (D : Nat) (av : Act) : Prop := ∀ gi x, (gi, x) ∈ Γ → bit D gi = true ∧ ∃ og s, ops[gi]? = some og ∧ og.dst = some s ∧ av.tmps[s]? = some (gval x)

theorem GAM.gok {Γ : Gam} {D : Nat} {av : Act} {g : Option (Nat × Bool)} (h : GAM ops Γ D av) (hg : ∀ p, g = some p → (p.1, some p.2) ∈ Γ) : GOK ops g av := by
 intro gi want e
 obtain ⟨_, og, s, h1, h2, h3⟩ := h gi (some want) (hg (gi, want) e)
 exact ⟨og, s, h1, h2, h3⟩

theorem GAM.keep (hp : Plan ops C.nt) {Γ : Gam} {D D1 : Nat} {av av' : Act} (h : GAM ops Γ D av) (hs : ∀ j, bit D j = true → bit D1 j = true)
  (hk : ∀ e, (∀ t o, bit D1 t = true → bit D t = false → ops[t]? = some o → o.dst ≠ some e) → av'.tmps[e]? = av.tmps[e]?) : GAM ops Γ D1 av' := by
 intro gi x hx
 obtain ⟨h0, og, s, h1, h2, h3⟩ := h gi x hx
 refine ⟨hs _ h0, og, s, h1, h2, ?_⟩
 rw [hk s ?_]
 ·exact h3
 ·intro t o q1 q2 q3 q4
  have := hp.one t gi o og s q3 h1 q4 h2
  subst this
  rw [h0] at q2; cases q2

theorem GAM.put (hp : Plan ops C.nt) {Γ : Gam} {D i : Nat} {o : Oper} {av : Act} {v : Value} (h : GAM ops Γ D av) (ho : ops[i]? = some o) (hD : bit D i = false) : GAM ops Γ (bset D i) (av.put o.dst v) := by
 refine h.keep hp (fun j hj => by rw [bit_bset]; exact setL_of hj) fun e he => ?_
 exact put_get fun hdd => he i o (by rw [bit_bset]; exact setL_self) hD ho hdd

/-- What the tree asks is enough. -/
theorem wpA_sound (hp : Plan ops C.nt) {V : List Nat} (hV : ∀ (t : Nat) (o : Oper) (d : Nat), ops[t]? = some o → o.dst = some d → o.guard ≠ none → d ∉ V) {K : Env → PHeap → Own → Prop} {Γ : Gam} {mode : Option Nat} {D : Nat} {t : AT} (h : CmpA P ops C.nt Q Γ mode D t) :
  ∀ {av : Act} {ρ : Env} {Mk : PHeap} {Gk : Own} {M : PHeap} {G : Own} (_ : GAM ops Γ D av) (_ : Closed ops D) (_ : DomB V ops D ρ) (_ : Fits C.nt ρ av) (_ : wpA C t ρ Mk Gk M G K),
   match mode with
   | none => VT C ops (fun a M G => ∃ ρ', Fits C.nt ρ' a ∧ K ρ' M G) (t.sz + 1) (bit D) Mk Gk av M G
   | some i0 => ∀ i, i0 ≤ i → i < ops.size → bit D i = false → (∀ p, Bef ops p i → bit D p = true) → ∃ o, ops[i]? = some o ∧ Region.wanted o (yielded ops av.tmps) = true ∧
     ∀ w, C.St M G w → Does P o av.eval w fun v w' => ∃ M' G' Mk' Gk', C.St M' G' w' ∧
      ((Mk' = Mk ∧ Gk' = Gk ∧ M.le M' ∧ ∀ p ∈ Gk, p ∈ G') ∨ (Mk' = M' ∧ Gk' = G' ∧ ∀ j, bit D j = true → Bef ops j i)) ∧ VT C ops (fun a M G => ∃ ρ', Fits C.nt ρ' a ∧ K ρ' M G) t.sz (setL (bit D) i) Mk' Gk' (av.put o.dst v) M' G' := by
 induction h with
 | fin hall =>
  intro av ρ Mk Gk M G hga hcl hdom hf hw
  exact .inl ⟨hall, ρ, hf, hw⟩
 | @q Γ g D D1 l rest hg hq h ih =>
  intro av ρ Mk Gk M G hga hcl hdom hf hw
  show VT C ops _ (l.len + rest.sz + 1) (bit D) Mk Gk av M G
  rw [show l.len + rest.sz + 1 = (rest.sz + 1) + l.len from by omega]
  refine takeQ_sound hp hV hq (hga.gok hg) (fun p e => (hga _ _ (hg p e)).1) hcl hdom hf hw ?_
  intro av' ρ' z1 z2 _ z4 z5
  exact ih (hga.keep hp hq.sub z4) (Closed.ql hq hcl) z1 z2 z5
 | @alts Γ D t hne h ih =>
  intro av ρ Mk Gk M G hga hcl hdom hf hw
  exact .inr (.inr ⟨hne, fun i hi hD hb => ih hga hcl hdom hf hw i (Nat.zero_le _) hi hD hb⟩)
 | no h =>
  intro av ρ Mk Gk M G hga hcl hdom hf hw i h1 h2
  omega
 | @pass Γ i0 D t h hr ih =>
  intro av ρ Mk Gk M G hga hcl hdom hf hw i h1 h2 h3 h4
  by_cases e : i = i0
  ·subst e
   rcases h with h | ⟨p, hd, hD⟩
   ·rw [h] at h3; cases h3
   ·rw [h4 p (.one hd)] at hD; cases hD
  ·exact ih hga hcl hdom hf hw i (by omega) h2 h3 h4
 | @s Γ i0 D o r re t more ho hg hD hc hre ht hm ih1 ih2 =>
  intro av ρ Mk Gk M G hga hcl hdom hf hw i h1 h2 h3 h4
  obtain ⟨hw1, hw2⟩ := hw
  by_cases e : i = i0
  ·subst e
   refine ⟨o, ho, wanted_ok rfl (hga.gok hg), fun w hs => (opW_sound hc hf hs hw1).mono ?_⟩
   rintro v w' ⟨M', G', hs', hk⟩
   have hcl' : Closed ops (bset D i) := fun x j hj hb => by
    rw [bit_bset] at hj ⊢
    rcases setL_or hj with rfl | hj
    ·exact setL_of (h4 x hb)
    ·exact setL_of (hcl x j hj hb)
   have hdom' := hdom.put ho v
   have hf' := hf.putE o.dst (fun e he => hp.dst i o e ho he) v
   have hga' := hga.put hp (v := v) ho hD
   split at hk
   ·rename_i hr
    refine ⟨M', G', M', G', hs', .inr ⟨rfl, rfl, hre hr⟩, ?_⟩
    have := ih1 (av := av.put o.dst v) (Mk := M') (Gk := G') (M := M') (G := G') hga' hcl' hdom' hf' hk
    rw [← bit_bset]
    exact VT.mono (by simp only [AT.sz]; omega) this
   ·obtain ⟨k1, k2, hk⟩ := hk
    refine ⟨M', G', Mk, Gk, hs', .inl ⟨rfl, rfl, k1, k2⟩, ?_⟩
    have := ih1 (av := av.put o.dst v) (Mk := Mk) (Gk := Gk) (M := M') (G := G') hga' hcl' hdom' hf' hk
    rw [← bit_bset]
    exact VT.mono (by simp only [AT.sz]; omega) this
  ·obtain ⟨o', ho', hwt, hdo⟩ := ih2 hga hcl hdom hf hw2 i (by omega) h2 h3 h4
   refine ⟨o', ho', hwt, fun w hs => (hdo w hs).mono ?_⟩
   rintro v w' ⟨M', G', Mk', Gk', k1, k2, k3⟩
   exact ⟨M', G', Mk', Gk', k1, k2, VT.mono (by simp only [AT.sz]; omega) k3⟩
 | @br Γ D gi s og yes nay hgo hgs hgD hy hn ih1 ih2 =>
  intro av ρ Mk Gk M G hga hcl hdom hf hw
  obtain ⟨vs, hvs, hw⟩ := onv_iff.1 hw
  obtain ⟨c, hc, hw1, hw2⟩ := onv_iff.1 hw
  have e0 := bool?_some hc
  subst e0
  have hsv : av.tmps[s]? = some (.bool c) := hf.2 s _ hvs
  have hga' : GAM ops ((gi, some c) :: Γ) D av := by
   intro gj x hx
   rcases List.mem_cons.1 hx with e | hx
   ·cases e; exact ⟨hgD, og, s, hgo, hgs, hsv⟩
   ·exact hga gj x hx
  cases c with
  | true => exact VT.mono (by simp only [AT.sz]; omega) (ih1 hga' hcl hdom hf (hw1 rfl))
  | false => exact VT.mono (by simp only [AT.sz]; omega) (ih2 hga' hcl hdom hf (hw2 rfl))
 | @sk Γ Γ' D i gi want x o rest ho hg hx hne hD hdep hΓ h ih =>
  intro av ρ Mk Gk M G hga hcl hdom hf hw
  obtain ⟨hgD, og, s, hgo, hgs, hgv⟩ := hga gi x hx
  have hv : gval x ≠ .bool want := by
   cases x with
   | none => simp [gval, undef]
   | some b => simp only [gval, ne_eq, Value.bool.injEq]; rintro rfl; exact hne rfl
  have hnw : ∀ a : Act, (∀ t ∈ o.looksAt ops, a.tmps[t]? = av.tmps[t]?) → Region.wanted o (yielded ops a.tmps) = false := by
   intro a ha
   rw [wanted_congr ha]
   exact not_wanted hg hgo hgs hgv hv
  have hga1 := hga.put hp (v := undef) ho hD
  have hfit : Fits C.nt ρ (av.put o.dst undef) := by
   refine ⟨by rw [put_size]; exact hf.1, fun t v ht => ?_⟩
   rw [put_get ?_]
   ·exact hf.2 t v ht
   ·intro hdd
    rcases hdom t v ht with hv' | ⟨u, ou, k1, k2, k3⟩
    ·exact hV i o t ho hdd (by rw [hg]; simp) hv'
    ·have := hp.one i u o ou t ho k2 hdd k3
     subst this
     rw [k1] at hD; cases hD
  refine vt_quiet ho hD hdep hcl (v := undef) (fun a w ha _ => ⟨fun hw => (by rw [hnw a ha] at hw; cases hw), fun _ => rfl⟩) ?_
  refine ih ?_ (hcl.bset hdep) (fun t v ht => (hdom t v ht).imp id fun ⟨u, o', h1, h2, h3⟩ => ⟨u, o', by rw [bit_bset]; exact setL_of h1, h2, h3⟩) hfit hw
  intro gj y hy
  rcases hΓ _ hy with hy | ⟨e, s', hs'⟩
  ·exact hga1 gj y hy
  ·cases e
   exact ⟨by rw [bit_bset]; exact setL_self, o, s', ho, hs', by rw [hs']; exact put_self (by rw [hf.1]; exact hp.dst i o s' ho hs')⟩

end
end Go.EV

namespace Go.EV
variable {P : Program}

inductive RCode where
 | skip
 | reg (sts : Sts)
 | any (t : AT)
 | seq (a b : RCode)
 | cond (c : A) (a b : RCode)
 | block (id : Nat) (c : RCode)
 | loop (c : RCode)
 | exit (id : Nat)
 | ret
 | rangeF (f : A) (ps : List Nat) (a b : RCode)

inductive RItem where
 | code (c : RCode)
 | inBlock (id : Nat)
 | inLoop (c : RCode)
 | begins

/-- The variables alone. -/
def norm : List Nat → Env → Env
 | [], _ => []
 | i :: V, ρ => match get ρ i with
  | some v => (i, v) :: norm V ρ
  | none => norm V ρ

theorem get_norm {V : List Nat} {ρ : Env} {t : Nat} {v : Value} (h : get (norm V ρ) t = some v) : get ρ t = some v ∧ t ∈ V := by
 induction V with
 | nil => simp [norm, get] at h
 | cons i V ih =>
  simp only [norm] at h
  cases hi : get ρ i with
  | none => rw [hi] at h; exact ⟨(ih h).1, by simp [(ih h).2]⟩
  | some u =>
   rw [hi] at h
   simp only [get] at h
   split at h
   ·rename_i e; subst e; cases h; exact ⟨hi, by simp⟩
   ·exact ⟨(ih h).1, by simp [(ih h).2]⟩

/-- Code, resolved: V: the variables' temporaries. -/
inductive CmpC (P : Program) (nt : Nat) (V : List Nat) : Code → RCode → Prop
 | skip : CmpC P nt V .skip .skip
 | reg {id : Nat} {ops : Array Oper} {sts : Sts} (h : CmpS P ops nt none 0 0 ops.size sts) (hod : OneDst ops) (hV : ∀ (t : Nat) (o : Oper) (d : Nat), ops[t]? = some o → o.dst = some d → o.guard ≠ none → d ∉ V) : CmpC P nt V (.region id ops false) (.reg sts)
 | any {id : Nat} {ops : Array Oper} {t : AT} {Q : List Nat} (hp : Plan ops nt) (h : CmpA P ops nt Q [] none 0 t) (hV : ∀ (t : Nat) (o : Oper) (d : Nat), ops[t]? = some o → o.dst = some d → o.guard ≠ none → d ∉ V) : CmpC P nt V (.region id ops true) (.any t)
 | seq {a b : Code} {a' b' : RCode} (ha : CmpC P nt V a a') (hb : CmpC P nt V b b') : CmpC P nt V (.seq a b) (.seq a' b')
 | cond {c : Operand} {c' : A} {a b : Code} {a' b' : RCode} (hc : cA c = some c') (ha : CmpC P nt V a a') (hb : CmpC P nt V b b') : CmpC P nt V (.cond c a b) (.cond c' a' b')
 | block {id : Nat} {c : Code} {c' : RCode} (h : CmpC P nt V c c') : CmpC P nt V (.block id c) (.block id c')
 | loop {c : Code} {c' : RCode} (h : CmpC P nt V c c') : CmpC P nt V (.loop c) (.loop c')
 | exit {id : Nat} : CmpC P nt V (.exit id) (.exit id)
 | ret : CmpC P nt V .ret .ret
 | rangeF {f : Operand} {f' : A} {ps : Array Tmp} {a b : Code} {a' b' : RCode} (hf : cA f = some f') (hps : ∀ t ∈ ps.toList, t < nt) (ha : CmpC P nt V a a') (hb : CmpC P nt V b b') : CmpC P nt V (.rangeFunc f ps a b) (.rangeF f' ps.toList a' b')

inductive CmpI (P : Program) (nt : Nat) (V : List Nat) : Item → RItem → Prop
 | code {c : Code} {c' : RCode} (h : CmpC P nt V c c') : CmpI P nt V (.code c) (.code c')
 | inBlock {id : Nat} : CmpI P nt V (.inBlock id) (.inBlock id)
 | inLoop {c : Code} {c' : RCode} (h : CmpC P nt V c c') : CmpI P nt V (.inLoop c) (.inLoop c')
 | begins : CmpI P nt V .beginRound .begins

inductive CmpK (P : Program) (nt : Nat) (V : List Nat) : List Item → List RItem → Prop
 | nil : CmpK P nt V [] []
 | cons {x : Item} {x' : RItem} {k : List Item} {k' : List RItem} (h : CmpI P nt V x x') (hk : CmpK P nt V k k') : CmpK P nt V (x :: k) (x' :: k')

/-- From this state the activation comes to where it is to come. -/
def EV (C : Cx P) (V : List Nat) (k : List RItem) (ρ : Env) (M : PHeap) (G : Own) : Prop :=
 ∀ k', CmpK P C.nt V k' k → ∀ a w, Fits C.nt ρ a → a.defers = C.ds → C.St M G w → ∀ cs, C.T cs (lone (C.b.atR a k') cs w)

section
variable {C : Cx P} {V : List Nat} {k : List RItem} {ρ : Env} {M : PHeap} {G : Own}

theorem EV.weaken {ρ' : Env} {G' : Own} (h : EV C V k ρ' M G') (hρ : ∀ t v, get ρ' t = some v → get ρ t = some v) (hG : G'.Sublist G) : EV C V k ρ M G :=
 fun k' hk a w hf hd hs cs => h k' hk a w (hf.sub hρ) hd (hs.weaken hG) cs

theorem EV.permG {G' : Own} (h : EV C V k ρ M G') (hG : G.Perm G') : EV C V k ρ M G :=
 fun k' hk a w hf hd hs cs => h k' hk a w hf hd (hs.perm hG) cs

theorem EV.freeze {G₁ G₂ : Own} (h : EV C V k ρ (M.add G₁) G₂) : EV C V k ρ M (G₁ ++ G₂) :=
 fun k' hk a w hf hd hs cs => h k' hk a w hf hd hs.freeze cs

theorem EV.skip (h : EV C V k ρ M G) : EV C V (.code .skip :: k) ρ M G := by
 intro k' hk a w hf hd hs cs
 cases hk with
 | cons hx hk => cases hx with
  | code hc => cases hc with
   | skip => exact C.back stepR_skip (h _ hk a w hf hd hs cs)

theorem EV.inBlock {id : Nat} (h : EV C V k ρ M G) : EV C V (.inBlock id :: k) ρ M G := by
 intro k' hk a w hf hd hs cs
 cases hk with
 | cons hx hk => cases hx with
  | inBlock => exact C.back stepR_inBlock (h _ hk a w hf hd hs cs)

theorem EV.seq {x y : RCode} (h : EV C V (.code x :: .code y :: k) ρ M G) : EV C V (.code (.seq x y) :: k) ρ M G := by
 intro k' hk a w hf hd hs cs
 cases hk with
 | cons hx hk => cases hx with
  | code hc => cases hc with
   | seq ha hb => exact C.back stepR_seq (h _ (.cons (.code ha) (.cons (.code hb) hk)) a w hf hd hs cs)

theorem EV.block {id : Nat} {c : RCode} (h : EV C V (.code c :: .inBlock id :: k) ρ M G) : EV C V (.code (.block id c) :: k) ρ M G := by
 intro k' hk a w hf hd hs cs
 cases hk with
 | cons hx hk => cases hx with
  | code hc => cases hc with
   | block h' => exact C.back stepR_block (h _ (.cons (.code h') (.cons .inBlock hk)) a w hf hd hs cs)

def exitR (id : Nat) : List RItem → Option (List RItem)
 | .inBlock id' :: k => if id' = id then some k else exitR id k
 | _ :: k => exitR id k
 | [] => none

theorem exitR_ok {nt : Nat} {id : Nat} : ∀ {k' : List Item} {k j : List RItem}, CmpK P nt V k' k → exitR id k = some j → ∃ j', exitTo id k' = some j' ∧ CmpK P nt V j' j
 | _, _, j, .nil, h => by simp [exitR] at h
 | _, _, j, .cons hx hk, h => by
  cases hx with
  | code hc => simp only [exitR] at h; obtain ⟨j', h1, h2⟩ := exitR_ok hk h; exact ⟨j', by simpa [exitTo] using h1, h2⟩
  | inLoop hc => simp only [exitR] at h; obtain ⟨j', h1, h2⟩ := exitR_ok hk h; exact ⟨j', by simpa [exitTo] using h1, h2⟩
  | begins => simp only [exitR] at h; obtain ⟨j', h1, h2⟩ := exitR_ok hk h; exact ⟨j', by simpa [exitTo] using h1, h2⟩
  | @inBlock id' =>
   simp only [exitR] at h
   split at h
   ·rename_i e; cases h; exact ⟨_, by simp [exitTo, e], hk⟩
   ·rename_i e
    obtain ⟨j', h1, h2⟩ := exitR_ok hk h
    exact ⟨j', by simpa [exitTo, e] using h1, h2⟩

theorem EV.exit {id : Nat} {j : List RItem} (hj : exitR id k = some j) (h : EV C V j ρ M G) : EV C V (.code (.exit id) :: k) ρ M G := by
 intro k' hk a w hf hd hs cs
 cases hk with
 | cons hx hk => cases hx with
  | code hc => cases hc with
   | exit =>
    obtain ⟨j', h1, h2⟩ := exitR_ok hk hj
    exact C.back (stepR_exit h1) (h _ h2 a w hf hd hs cs)

theorem EV.cond {c : A} {b : Bool} {x y : RCode} (hc : ev ρ c = some (.bool b)) (h1 : b = true → EV C V (.code x :: k) ρ M G) (h2 : b = false → EV C V (.code y :: k) ρ M G) : EV C V (.code (.cond c x y) :: k) ρ M G := by
 intro k' hk a w hf hd hs cs
 cases hk with
 | cons hx hk => cases hx with
  | code hc' => cases hc' with
   | cond hc0 ha hb =>
    refine C.back (stepR_cond (t := b) (eval_cA hf hc0 hc)) ?_
    cases b with
    | true => exact h1 rfl _ (.cons (.code ha) hk) a w hf hd hs cs
    | false => exact h2 rfl _ (.cons (.code hb) hk) a w hf hd hs cs

theorem EV.inLoop {c : RCode} (h : EV C V (.code c :: .inLoop c :: k) ρ M G) : EV C V (.inLoop c :: k) ρ M G := by
 intro k' hk a w hf hd hs cs
 cases hk with
 | cons hx hk => cases hx with
  | inLoop hc => exact C.back stepR_inLoop (h _ (.cons (.code hc) (.cons (.inLoop hc) hk)) a w hf hd hs cs)

/-- A loop: at its head the state is st x, for some x of which I says what holds. -/
theorem EV.loop {α : Type} (st : α → Env × PHeap × Own) (I : α → Prop) (μ : α → Nat) {c : RCode} (x : α) (hI : I x)
  (body : ∀ x, I x → (∀ x', I x' → μ x' < μ x → EV C V (.inLoop c :: k) (st x').1 (st x').2.1 (st x').2.2) → EV C V (.code c :: .inLoop c :: k) (st x).1 (st x).2.1 (st x).2.2) :
  EV C V (.code (.loop c) :: k) (st x).1 (st x).2.1 (st x).2.2 := by
 have key : ∀ n x, μ x = n → I x → EV C V (.code c :: .inLoop c :: k) (st x).1 (st x).2.1 (st x).2.2 := by
  intro n
  induction n using Nat.strongRecOn with
  | _ n ih =>
   intro x hn hx
   exact body x hx fun x' hx' hlt => EV.inLoop (ih (μ x') (hn ▸ hlt) x' rfl hx')
 intro k' hk a w hf hd hs cs
 cases hk with
 | cons hx hk => cases hx with
  | code hc => cases hc with
   | loop hc' => exact C.back stepR_loop (key _ x rfl hI _ (.cons (.code hc') (.cons (.inLoop hc') hk)) a w hf hd hs cs)

theorem EV.reg {sts : Sts} (h : wpS C sts (norm V ρ) M G fun ρ' M' G' => EV C V k ρ' M' G') : EV C V (.code (.reg sts) :: k) ρ M G := by
 intro k' hk a w hf hd hs cs
 cases hk with
 | cons hx hk => cases hx with
  | code hc => cases hc with
   | @reg id ops _ hcs hod hV =>
    refine C.back stepR_region ?_
    have hdom : Dom V ops 0 (norm V ρ) := fun t v ht => .inl (get_norm ht).2
    have hfit : Fits C.nt (norm V ρ) a := hf.sub fun t v ht => (get_norm ht).1
    have := wpS_sound (C := C) (k := _) (cs := cs) hod hcs (tail := []) (a := a) (w := w) (fun gi want e => by cases e) hdom (fun t o d _ _ h3 h4 h5 => hV t o d h3 h4 h5) hfit hd hs h (by
     intro a' ρ' M' G' w' _ _ hf' hd' hs' hk' _
     exact C.back stepR_region_end (hk' _ hk a' w' hf' hd' hs' cs))
    rw [List.range_eq_range']
    simpa using this

/-- A region that draws its order: Gk: the owned blocks that its quiet operations look at. -/
theorem EV.any {t : AT} (Gk : Own) (hGk : Gk.Sublist G) (h : wpA C t (norm V ρ) M Gk M G fun ρ' M' G' => EV C V k ρ' M' G') : EV C V (.code (.any t) :: k) ρ M G := by
 intro k' hk a w hf hd hs cs
 cases hk with
 | cons hx hk => cases hx with
  | code hc => cases hc with
   | @any id ops _ Q hp hcs hV =>
    refine C.back stepR_region_draw ?_
    have hb0 : bit 0 = fun _ => false := by funext i; simp [bit]
    have hdom : DomB V ops 0 (norm V ρ) := fun t v ht => .inl (get_norm ht).2
    have hfit : Fits C.nt (norm V ρ) a := hf.sub fun t v ht => (get_norm ht).1
    have hcl : Closed ops 0 := fun i j hj => by rw [hb0] at hj; cases hj
    have hVT := wpA_sound (C := C) hp hV hcs (av := a) (fun _ _ h => by cases h) hcl hdom hfit h
    simp only [hb0] at hVT
    have hmain : ∀ (md : Region.Mode) (t : Nat), C.T cs (lone (C.b.atR a (.inRegion ops (Region.linearise md ops t) :: _)) cs { w with drawn := w.drawn + 1 }) := fun md t =>
     any_start hp hGk hf.1 hd (hs.drew _ (Nat.le_succ _)) hVT (fun a' M' G' w' _ hd' hs' ⟨ρ', hf', hk'⟩ => C.back stepR_region_end (hk' _ hk a' w' hf' hd' hs' cs)) md t
    unfold Region.schedule
    split
    ·exact hmain _ _
    ·exact hmain _ _
end

/-! ### Functions -/

inductive RRes where
 | tmp (t : Nat)
 | cellA (t sz : Nat)
 | cell1 (t : Nat)

def resW (ρ : Env) (H : PHeap) : List RRes → (List Value → Prop) → Prop
 | [], K => K []
 | .tmp t :: l, K => onv (get ρ t) fun v => resW ρ H l fun vs => K (v :: vs)
 | .cellA t sz :: l, K => onv (get ρ t) fun v => onv (ptr? v) fun p => ∃ cs, rd H p.1 p.2 sz cs ∧ resW ρ H l fun vs => K (.agg cs.toArray :: vs)
 | .cell1 t :: l, K => onv (get ρ t) fun v => onv (ptr? v) fun p => ∃ u, rd H p.1 p.2 1 [u] ∧ resW ρ H l fun vs => K (u :: vs)

def retV : List Value → Value
 | [v] => v
 | vs => .tuple vs.toArray

inductive CmpR (P : Program) : ResultVar → RRes → Prop
 | tmp {t : Nat} : CmpR P (.tmp t) (.tmp t)
 | cellA {t sz : Nat} {T : TypeId} (ha : aggT P T = some true) (hs : (P.info? T).map (·.size) = some sz) : CmpR P (.cell t T) (.cellA t sz)
 | cell1 {t : Nat} {T : TypeId} (ha : aggT P T = some false) : CmpR P (.cell t T) (.cell1 t)

inductive CmpRs (P : Program) : List ResultVar → List RRes → Prop
 | nil : CmpRs P [] []
 | cons {x : ResultVar} {y : RRes} {l : List ResultVar} {m : List RRes} (h : CmpR P x y) (t : CmpRs P l m) : CmpRs P (x :: l) (y :: m)

/-- What a result variable holds. -/
def resV (fn : ResultVar) (tmps : Array Value) : Sem Value :=
 match fn with
 | .tmp t => pure (tmps.getD t undef)
 | .cell a t => do loadVar t (← asAddr (tmps.getD a undef))

theorem run_resV {H : PHeap} {nt : Nat} {ρ : Env} {a : Act} {w : World} (hf : Fits nt ρ a) (ag : ∀ b o, H b o → w.heap[b]? = some o) : ∀ {l : List ResultVar} {m : List RRes}, CmpRs P l m → ∀ {K : List Value → Prop}, resW ρ H m K →
  ∃ vs, (l.mapM fun x => resV x a.tmps).run P w = .ok vs w ∧ K vs
 | _, _, .nil, K, h => ⟨[], by simp [Pure.pure, Sem.run], h⟩
 | _, _, .cons hx ht, K, h => by
  have hget : ∀ t v, get ρ t = some v → a.tmps.getD t undef = v := by
   intro t v ht
   have := hf.2 t v ht
   simp [Array.getD_eq_getD_getElem?, this]
  cases hx with
  | tmp =>
   simp only [resW] at h
   obtain ⟨v, hv, h⟩ := onv_iff.1 h
   obtain ⟨vs, h1, h2⟩ := run_resV hf ag ht h
   refine ⟨v :: vs, ?_, h2⟩
   rw [List.mapM_cons, run_bindOk (a := v) (w' := w) (by simp [resV, hget _ _ hv, Pure.pure, Sem.run]), run_bindOk h1]
   rfl
  | cellA ha hs =>
   simp only [resW] at h
   obtain ⟨v, hv, hB⟩ := onv_iff.1 h
   obtain ⟨p, hp, c, hr, hC⟩ := onv_iff.1 hB
   have e1 := ptr?_some hp
   subst e1
   obtain ⟨vs, h1, h2⟩ := run_resV hf ag ht hC
   refine ⟨.agg c.toArray :: vs, ?_, h2⟩
   rw [List.mapM_cons, run_bindOk (a := .agg c.toArray) (w' := w) ?_, run_bindOk h1]
   ·rfl
   ·simp only [resV, hget _ _ hv]
    rw [run_bindOk (a := ⟨p.1, p.2, none⟩) (w' := w) rfl]
    unfold loadVar
    rw [run_bindOk (run_isAgg ha w)]
    simp only [if_true]
    rw [run_bindOk (run_sizeOf hs w), run_bindOk (run_loadCells ag hr)]
    rfl
  | cell1 ha =>
   simp only [resW] at h
   obtain ⟨v, hv, hB⟩ := onv_iff.1 h
   obtain ⟨p, hp, c, hr, hC⟩ := onv_iff.1 hB
   have e1 := ptr?_some hp
   subst e1
   obtain ⟨vs, h1, h2⟩ := run_resV hf ag ht hC
   refine ⟨c :: vs, ?_, h2⟩
   rw [List.mapM_cons, run_bindOk (a := c) (w' := w) ?_, run_bindOk h1]
   ·rfl
   ·simp only [resV, hget _ _ hv]
    rw [run_bindOk (a := ⟨p.1, p.2, none⟩) (w' := w) rfl]
    unfold loadVar
    rw [run_bindOk (run_isAgg ha w)]
    exact run_load (rd_one ag hr)

theorem run_results {H : PHeap} {nt : Nat} {ρ : Env} {a : Act} {w : World} {fn : Func} {m : List RRes} (hf : Fits nt ρ a) (ag : ∀ b o, H b o → w.heap[b]? = some o) (hr : CmpRs P fn.results.toList m) {Q : Value → Prop} (h : resW ρ H m fun vs => Q (retV vs)) :
  ∃ v, (results fn a.tmps).run P w = .ok v w ∧ Q v := by
 obtain ⟨vs, h1, h2⟩ := run_resV (P := P) hf ag hr h
 refine ⟨retV vs, ?_, h2⟩
 have e : results fn a.tmps = (do let l ← fn.results.mapM fun x => resV x a.tmps; pure (if h : l.size = 1 then l[0] else .tuple l)) := by
  unfold results resV
  congr
 rw [e, Array.mapM_eq_mapM_toList]
 have hm : ((List.toArray <$> (fn.results.toList.mapM fun x => resV x a.tmps)) : Sem (Array Value)).run P w = .ok vs.toArray w := by
  show ((fn.results.toList.mapM fun x => resV x a.tmps) >>= fun l => pure l.toArray : Sem (Array Value)).run P w = _
  rw [run_bindOk h1]; rfl
 rw [run_bindOk hm]
 cases vs with
 | nil => rfl
 | cons v vs =>
  cases vs with
  | nil => rfl
  | cons u vs => simp [retV, Pure.pure, Sem.run]

end Go.EV
