/- The calculus EV, part 19: loops over functions, whole; returns behind them. The calculus EV, part 20: more helpers of proofs. The events of a program: what the methods of an event tell; the events, numbered. The events that have some property. The events that write a location. What each event reads and writes. Relations: rows of bits. Steps, exchanges, where releases start and acquires end. What is before what. What the locations tell: eco. Which condition an execution breaks. Whether the words of an execution fit, and nothing is broken. The library's functions on rows of numbers. -/
import Derived.Test.YtmgnpoleilcjoaaGreatVPac
import Derived.RangeFuncNested
set_option maxRecDepth 8000
set_option linter.unusedSimpArgs false
set_option linter.unusedVariables false
set_option linter.unusedSectionVars false
namespace Go.EV
variable {P : Program}

def marksOf (ms : List Nat) : List Deferred := ms.map fun d => { target := .collected d, args := #[] }
def msOwn (ms : List Nat) : Own := ms.map fun d => (d, Obj.deferred (some []))

/-- The same activation, with marks among its deferred calls. -/
def Cx.marks (C : Cx P) (ms : List Nat) : Cx P :=
 {b := C.b, T := C.T, back := C.back, nt := C.nt, ds := marksOf ms ++ C.ds, w0 := C.w0, F := C.F, M0 := C.M0 }

abbrev yv (l : Nat) : Value := .func (.yield l) #[] #[]

/-- Where a loop over a function has ended. -/
def RangeEnd (C : Cx P) (V : List Nat) (k : List RItem) (ρ : Env) (l : Nat) (M : PHeap) (G : Own) : Prop :=
 ∃ r G', G.Perm ((l, Obj.loop r) :: G') ∧ r.state ≠ .busy ∧
  (match r.pending with
   | none => EV C V k ρ M G'
   | some .ret => EV C V (.code .ret :: k) ρ M G'
   | some (.exit id) => EV C V (.code (.exit id) :: k) ρ M G'
   | _ => False)

theorem back_steps (C : Cx P) {cs : List Frame} {m m' : Machine} (h : Steps P m m') (ht : C.T cs m') : C.T cs m := by
 obtain ⟨n, hn⟩ := h
 have key : ∀ (n : Nat) (m m' : Machine), runN P n m = .next m' → C.T cs m' → C.T cs m := by
  intro n
  induction n with
  | zero => intro m m' h1 h2; simp [runN] at h1; subst h1; exact h2
  | succ n ih =>
   intro m m' h1 h2
   simp only [runN] at h1
   cases hst : step P m with
   | next m1 => rw [hst] at h1; exact C.back hst (ih m1 m' h1 h2)
   | ended o w => rw [hst] at h1; simp at h1
 exact key n m m' hn ht

theorem run_resolveF {a : Act} {x : Operand} {g : FuncId} {first caps : Array Value} (l : Nat) (w : World) (hx : a.eval x = .func (.func g) first caps) :
  (resolve a.eval (rangeCall x l) 0).run P w = .ok { target := .fn (.func g) caps, args := first ++ #[yv l] } w := by
 have e : (#[Operand.const (Value.func (Fn.yield l) #[] #[])] : Array Operand).map a.eval = #[yv l] := by simp [Act.eval]
 simp only [resolve, rangeCall, hx, e]
 rfl

section
variable {C : Cx P} {V : List Nat} {k : List RItem} {ρ : Env} {M : PHeap} {G : Own} {f : A} {ps : List Nat} {asn bd : RCode} {fv : Value} {g : FuncId} {first caps : Array Value}

theorem EV.rangeAux {k' : List Item} (hk : CmpK P C.nt V k' k) {a : Act} {l : Nat} {cs : List Frame} {fr : Frame} {w' : World} {v : Value} {M' : PHeap} {G' : Own}
  (hf : Fits C.nt ρ a) (hd : a.defers = C.ds) (hfl : fr.leaving P w' (.returned v)) (hst : C.St M' G' w') (hr : RangeEnd C V k ρ l M' G') :
  C.T cs (lone fr (C.b.atR a (.inRangeFunc l :: k') :: cs) w') := by
 obtain ⟨r, G1, hp, hb, hm⟩ := hr
 refine C.back (step_leave_returned hfl) ?_
 rw [finish_atR_inRangeFunc]
 have hst1 := hst.perm hp
 have hl := hst1.own (l, Obj.loop r) (List.mem_cons_self ..)
 refine C.back (stepR_endRangeFunc (run_endLoop hl hb)) ?_
 have hst2 : C.St M' G1 (w'.putObj l (.loop { r with state := .exhausted })) := (St.loopPut hst1).weaken (List.sublist_cons_self _ _)
 revert hst2
 cases hpe : r.pending with
 | none => rw [hpe] at hm; exact fun hst2 => hm _ hk a _ hf hd hst2 cs
 | some c =>
  rw [hpe] at hm
  cases c with
  | ret => exact fun hst2 => hm _ (.cons (.code .ret) hk) a _ hf hd hst2 cs
  | exit id => exact fun hst2 => hm _ (.cons (.code .exit) hk) a _ hf hd hst2 cs
  | _ => exact hm.elim

/-- A loop over a function, in a function's activation. -/
theorem EV.rangeF (hro : C.b.roundOf = none) (hfv : ev ρ f = some fv) (hfn : fn? fv = some (g, first, caps))
  (h : ∀ (l d : Nat) (r : Loop), LoopIs P V r C.b.fn C.nt ps asn bd ρ → r.state = .ready → r.pending = none →
   CallW (C.marks [d]) g (first ++ #[yv l] ++ caps) M ((l, Obj.loop r) :: (d, Obj.deferred (some [])) :: G) fun _ M' G' => RangeEnd (C.marks [d]) V k ρ l M' G') :
  EV C V (.code (.rangeF f ps asn bd) :: k) ρ M G := by
 intro k' hk a w hf hd hs cs
 have e0 := fn?_some hfn
 subst e0
 cases hk with
 | cons hx hk => cases hx with
  | code hc => cases hc with
   | @rangeF x _ ps' asn' bd' _ _ hA hps ha hb =>
    have hx := eval_cA hf hA hfv
    obtain ⟨hgo, hcall⟩ := h (w.heap.size + 1) w.heap.size { state := .ready, pending := none, fn := C.b.fn, tmps := a.tmps, params := ps', assign := asn', body := bd', defers := w.heap.size }
     ⟨rfl, rfl, hps, ⟨hf.1, hf.2⟩, ha, hb⟩ rfl rfl
    have he := run_enterLoop_outer (P := P) (w := w) C.b.fn a.tmps ps' asn' bd'
    rw [← hro] at he
    have hres := run_resolveF (P := P) (w.heap.size + 1) ((w.alloc (.deferred (some []))).alloc (.loop { state := .ready, pending := none, fn := C.b.fn, tmps := a.tmps, params := ps', assign := asn', body := bd', defers := w.heap.size })) hx
    have hinv := callFunc_go hgo (first ++ #[yv (w.heap.size + 1)] ++ caps) ((w.alloc (.deferred (some []))).alloc (.loop { state := .ready, pending := none, fn := C.b.fn, tmps := a.tmps, params := ps', assign := asn', body := bd', defers := w.heap.size }))
    refine C.back (stepR_rangeFunc he hres hinv) ?_
    have hst : (C.marks [w.heap.size]).St M ((w.heap.size + 1, Obj.loop { state := .ready, pending := none, fn := C.b.fn, tmps := a.tmps, params := ps', assign := asn', body := bd', defers := w.heap.size }) :: (w.heap.size, Obj.deferred (some [])) :: G)
      ((w.alloc (.deferred (some []))).alloc (.loop { state := .ready, pending := none, fn := C.b.fn, tmps := a.tmps, params := ps', assign := asn', body := bd', defers := w.heap.size })) := by
     have h1 := hs.alloc (.deferred (some []))
     have h2 := h1.alloc (.loop { state := .ready, pending := none, fn := C.b.fn, tmps := a.tmps, params := ps', assign := asn', body := bd', defers := w.heap.size })
     simpa [Cx.marks] using h2
    obtain ⟨e, w'', fr, ⟨v, he2, M', G', hst', hend⟩, hsteps, hfr, hlv⟩ := hcall _ hst (C.b.atR { a with defers := [{ target := .collected w.heap.size, args := #[] }] ++ a.defers } (.inRangeFunc (w.heap.size + 1) :: _) :: cs)
    subst he2
    refine back_steps C hsteps ?_
    refine EV.rangeAux (C := C.marks [w.heap.size]) (a := { a with defers := [{ target := .collected w.heap.size, args := #[] }] ++ a.defers }) hk ⟨hf.1, hf.2⟩ ?_ hlv hst' hend
    show [{ target := .collected w.heap.size, args := #[] }] ++ a.defers = marksOf [w.heap.size] ++ C.ds
    rw [hd]; rfl

/-- A loop over a function within a round. -/
theorem EV.rangeI {l0 : Nat} {r0 : Loop} (hro : C.b.roundOf = some l0) (hl0 : (l0, Obj.loop r0) ∈ G) (hfv : ev ρ f = some fv) (hfn : fn? fv = some (g, first, caps))
  (h : ∀ (l : Nat) (r : Loop), LoopIs P V r C.b.fn C.nt ps asn bd ρ → r.state = .ready → r.pending = none →
   CallW C g (first ++ #[yv l] ++ caps) M ((l, Obj.loop r) :: G) fun _ M' G' => RangeEnd C V k ρ l M' G') :
  EV C V (.code (.rangeF f ps asn bd) :: k) ρ M G := by
 intro k' hk a w hf hd hs cs
 have e0 := fn?_some hfn
 subst e0
 cases hk with
 | cons hx hk => cases hx with
  | code hc => cases hc with
   | @rangeF x _ ps' asn' bd' _ _ hA hps ha hb =>
    have hx := eval_cA hf hA hfv
    obtain ⟨hgo, hcall⟩ := h w.heap.size { state := .ready, pending := none, fn := C.b.fn, tmps := a.tmps, params := ps', assign := asn', body := bd', defers := r0.defers }
     ⟨rfl, rfl, hps, ⟨hf.1, hf.2⟩, ha, hb⟩ rfl rfl
    have he := run_enterLoop_inner (P := P) (w := w) (hs.own _ hl0) C.b.fn a.tmps ps' asn' bd'
    rw [← hro] at he
    have hres := run_resolveF (P := P) w.heap.size (w.alloc (.loop { state := .ready, pending := none, fn := C.b.fn, tmps := a.tmps, params := ps', assign := asn', body := bd', defers := r0.defers })) hx
    have hinv := callFunc_go hgo (first ++ #[yv w.heap.size] ++ caps) (w.alloc (.loop { state := .ready, pending := none, fn := C.b.fn, tmps := a.tmps, params := ps', assign := asn', body := bd', defers := r0.defers }))
    refine C.back (stepR_rangeFunc he hres hinv) ?_
    have hst := hs.alloc (.loop { state := .ready, pending := none, fn := C.b.fn, tmps := a.tmps, params := ps', assign := asn', body := bd', defers := r0.defers })
    obtain ⟨e, w'', fr, ⟨v, he2, M', G', hst', hend⟩, hsteps, hfr, hlv⟩ := hcall _ hst (C.b.atR { a with defers := [] ++ a.defers } (.inRangeFunc w.heap.size :: _) :: cs)
    subst he2
    refine back_steps C hsteps ?_
    exact EV.rangeAux (C := C) (a := { a with defers := [] ++ a.defers }) hk ⟨hf.1, hf.2⟩ hd hlv hst' hend
end

/-! ### Returns behind marks -/
section
variable {f : FuncId} {w0 : World} {F : List Nat} {M0 M : PHeap} {G : Own} {Φ : Value → PHeap → Own → Prop} {V Q : List Nat} {k : List RItem} {ρ : Env}

theorem unmark {cs : List Frame} : ∀ (ms : List Nat) {w : World} {fr : Frame}, St w0 F M0 M (msOwn ms ++ G) w → fr.mode = .returning → fr.defers = marksOf ms →
  ∃ w', St w0 F M0 M G w' ∧ Steps P (lone fr cs w) (lone { fr with defers := [] } cs w')
 | [], w, fr, hs, _, hd => by
  refine ⟨w, by simpa [msOwn] using hs, ?_⟩
  have : { fr with defers := [] } = fr := by
   cases fr; simp only [marksOf, List.map_nil] at hd; subst hd; rfl
  rw [this]; exact Steps.refl _ _
 | d :: ms, w, fr, hs, hm, hd => by
  have hs0 : St w0 F M0 M ((d, Obj.deferred (some [])) :: (msOwn ms ++ G)) w := by simpa [msOwn] using hs
  have hl := hs0.own (d, Obj.deferred (some [])) (List.mem_cons_self ..)
  have h1 := step_collected (P := P) (cs := cs) (fr := fr) (w := w) (d := { target := .collected d, args := #[] }) (r := d) (ds := marksOf ms) (calls := []) (by rw [hm]; simp) hd rfl (run_takeDeferred hl)
  have hs1 : St w0 F M0 M ((d, Obj.deferred none) :: (msOwn ms ++ G)) (w.putObj d (.deferred none)) :=
   hs0.put (i := 0) (o' := .deferred none) rfl rfl ⟨rfl, Nat.le_refl _⟩ rfl (by simp) (fun k hk => World.putObj_heap_other hk) (World.putObj_heap_same (hs0.lt (List.mem_cons_self ..)))
  obtain ⟨w', h2, h3⟩ := unmark ms (cs := cs) (fr := { fr with defers := [] ++ marksOf ms }) (hs1.weaken (List.sublist_cons_self _ _)) hm rfl
  exact ⟨w', h2, Steps.trans (.one h1) h3⟩

theorem EV.retM {R : RFun} (hR : compF P V Q f = some R) {ms : List Nat} {G1 : Own} (hG : G.Perm (msOwn ms ++ G1)) (h : retW R ρ M G1 Φ) : EV ((Cx.fn P f R.nt w0 F M0 Φ).marks ms) R.V (.code .ret :: k) ρ M G := by
 unfold compF at hR
 split at hR
 ·rename_i hgo
  simp only [Option.bind_eq_some_iff] at hR
  obtain ⟨fn, hfn, c, hc, r, hr, res, hres, e⟩ := hR
  cases e
  intro k' hk a w hf hd hs cs
  cases hk with
  | cons hx hk => cases hx with
   | code hc => cases hc with
    | ret =>
     have hd' : a.defers = marksOf ms := by rw [hd]; exact List.append_nil _
     obtain ⟨w', hs', hst⟩ := unmark (P := P) (cs := cs) ms (fr := { ((Cx.fn P f fn.ntmps w0 F M0 Φ).marks ms).b.atR a (.code .ret :: _) with mode := .returning }) (hs.perm hG) rfl hd'
     obtain ⟨v, hv, hΦ⟩ := run_results (P := P) (fn := fn) (Q := fun v => Φ v M G1) hf (fun b o hb => hs'.agreeAdd hb) (compRs_ok hres) h
     refine ⟨.returned v, w', _, ⟨v, rfl, M, G1, hs', hΦ⟩, Steps.trans (.one (stepR_ret rfl)) hst, rfl, ?_⟩
     exact ⟨rfl, rfl, rfl, fn, hfn, hv⟩
 ·cases hR

theorem EV.doneM {R : RFun} (hR : compF P V Q f = some R) {ms : List Nat} {G1 : Own} (hG : G.Perm (msOwn ms ++ G1)) (h : retW R ρ M G1 Φ) : EV ((Cx.fn P f R.nt w0 F M0 Φ).marks ms) R.V [] ρ M G := by
 unfold compF at hR
 split at hR
 ·rename_i hgo
  simp only [Option.bind_eq_some_iff] at hR
  obtain ⟨fn, hfn, c, hc, r, hr, res, hres, e⟩ := hR
  cases e
  intro k' hk a w hf hd hs cs
  cases hk with
  | nil =>
   have hd' : a.defers = marksOf ms := by rw [hd]; exact List.append_nil _
   obtain ⟨w', hs', hst⟩ := unmark (P := P) (cs := cs) ms (fr := { ((Cx.fn P f fn.ntmps w0 F M0 Φ).marks ms).b.atR a [] with mode := .returning }) (hs.perm hG) rfl hd'
   obtain ⟨v, hv, hΦ⟩ := run_results (P := P) (fn := fn) (Q := fun v => Φ v M G1) hf (fun b o hb => hs'.agreeAdd hb) (compRs_ok hres) h
   refine ⟨.returned v, w', _, ⟨v, rfl, M, G1, hs', hΦ⟩, Steps.trans (.one (stepR_end rfl)) hst, rfl, ?_⟩
   exact ⟨rfl, rfl, rfl, fn, hfn, hv⟩
 ·cases hR
end

/-! ### Exits out of a round -/
section
variable {l : Nat} {f : FuncId} {nt : Nat} {V : List Nat} {ρ : Env} {r : Loop} {M : PHeap} {G : Own} {Φ : Value → PHeap → Own → Prop} {w0 : World} {F : List Nat} {M0 : PHeap} {G0 : Own} {k : List RItem}

theorem loop_same {r : Loop} (h1 : r.state = .ready) (h2 : r.pending = none) : ({ { r with state := .busy } with state := .ready, pending := none } : Loop) = r := by
 cases r; simp only at h1 h2; subst h1 h2; rfl
end

/-! ### Iterators -/

/-- An iterator: it calls yield with the things of a list, one behind the other, until yield says no. -/
def Iter {α : Type} (P : Program) (g : FuncId) (first caps : Array Value) (M : PHeap) (L : List α) (El : α → Value → PHeap → Prop) : Prop :=
 ∀ (l : Nat) (I : List α → PHeap → Own → Prop) (S : PHeap → Own → Prop) (M1 : PHeap) (G : Own), M.le M1 →
  (∀ xs M2 M3 G2, M2.le M3 → I xs M2 G2 → I xs M3 G2) →
  (∀ xs x, x ∈ L → ∀ M2 G2 v, M1.le M2 → I xs M2 G2 → El x v M2 → YCon P l #[v] M2 G2 fun b M3 G3 => (b = .bool true ∧ I (xs ++ [x]) M3 G3) ∨ (b = .bool false ∧ S M3 G3)) →
  ∀ xs, I xs M1 G → Con P g (first ++ #[yv l] ++ caps) M1 G fun _ M' G' => I (xs ++ L) M' G' ∨ S M' G'

theorem Iter.mono {α : Type} {g : FuncId} {first caps : Array Value} {M M' : PHeap} {L : List α} {El : α → Value → PHeap → Prop} (h : Iter P g first caps M L El) (hM : M.le M') : Iter P g first caps M' L El :=
 fun l I S M1 G hle => h l I S M1 G (PHeap.le_trans hM hle)

/-- How a round ends: on to the next one, or by a jump out of the loop. -/
def RoundΦ (l : Nat) (r : Loop) (N : PHeap → Own → Prop) (S : Code → PHeap → Own → Prop) (b : Value) (M : PHeap) (G : Own) : Prop :=
 (b = .bool true ∧ ∃ G', G.Perm ((l, Obj.loop r) :: G') ∧ N M G') ∨
 (b = .bool false ∧ ∃ c G', G.Perm ((l, Obj.loop { r with state := .done, pending := some c }) :: G') ∧ S c M G')

/-- A round's activation whose end is told by N and S. -/
abbrev Cx.rnd (P : Program) (l : Nat) (r : Loop) (f : FuncId) (nt : Nat) (w0 : World) (F : List Nat) (M0 : PHeap) (N : PHeap → Own → Prop) (S : Code → PHeap → Own → Prop) : Cx P :=
 Cx.round P l f nt w0 F M0 (RoundΦ l r N S)

section
variable {l : Nat} {f : FuncId} {nt : Nat} {V : List Nat} {ρ : Env} {r : Loop} {M : PHeap} {G : Own} {N : PHeap → Own → Prop} {S : Code → PHeap → Own → Prop} {w0 : World} {F : List Nat} {M0 : PHeap} {G0 : Own} {k : List RItem}

theorem EV.rbegin (hst : r.state = .ready) (h : EV (Cx.rnd P l r f nt w0 F M0 N S) V k ρ M ((l, Obj.loop { r with state := .busy }) :: G0)) : EV (Cx.rnd P l r f nt w0 F M0 N S) V (.begins :: k) ρ M ((l, Obj.loop r) :: G0) := EV.begins hst h

theorem EV.rend (h1 : r.state = .ready) (h2 : r.pending = none) (hG : G.Perm ((l, Obj.loop { r with state := .busy }) :: G0)) (h : N M G0) : EV (Cx.rnd P l r f nt w0 F M0 N S) V [] ρ M G := by
 refine EV.permG (EV.endRound ?_) hG
 refine .inl ⟨rfl, G0, ?_, h⟩
 rw [loop_same h1 h2]

theorem EV.rret (hG : G.Perm ((l, Obj.loop { r with state := .busy }) :: G0)) (h : S .ret M G0) : EV (Cx.rnd P l r f nt w0 F M0 N S) V (.code .ret :: k) ρ M G := by
 refine EV.permG (EV.retRound ?_) hG
 exact .inr ⟨rfl, _, G0, List.Perm.refl _, h⟩

end

/-- What the code behind a loop is asked, by the jump. -/
def AfterW (C : Cx P) (V : List Nat) (k : List RItem) (ρ : Env) (c : Code) (M : PHeap) (G : Own) : Prop :=
 match c with
 | .ret => EV C V (.code .ret :: k) ρ M G
 | .exit id => EV C V (.code (.exit id) :: k) ρ M G
 | _ => False

section
variable {α : Type} {C : Cx P} {V : List Nat} {k : List RItem} {ρ : Env} {M : PHeap} {G : Own} {f : A} {ps : List Nat} {asn bd : RCode} {fv : Value} {g : FuncId} {first caps : Array Value}

/-- The rounds of a loop over an iterator: I: what holds between the rounds. -/
theorem iter_rounds {L : List α} {El : α → Value → PHeap → Prop} (hit : Iter P g first caps M L El) (I : List α → PHeap → Own → Prop) (S : Code → PHeap → Own → Prop)
  {l : Nat} {r : Loop} {fn : FuncId} {nt t : Nat} (hr : LoopIs P V r fn nt [t] asn bd ρ)
  (hmono : ∀ xs M2 M3 G2, M2.le M3 → I xs M2 G2 → I xs M3 G2)
  (hbody : ∀ xs x v M2 G2 w0 F, x ∈ L → M.le M2 → I xs M2 G2 → El x v M2 → EV (Cx.rnd P l r fn nt w0 F M2 (I (xs ++ [x])) S) V [.code asn, .begins, .code bd] ((t, v) :: ρ) M2 ((l, Obj.loop r) :: G2))
  {G0 : Own} (hI : I [] M G0) :
  Con P g (first ++ #[yv l] ++ caps) M ((l, Obj.loop r) :: G0) fun _ M' G' => (∃ G1, G'.Perm ((l, Obj.loop r) :: G1) ∧ I L M' G1) ∨ (∃ c G1, G'.Perm ((l, Obj.loop { r with state := .done, pending := some c }) :: G1) ∧ S c M' G1) := by
 have := hit l (fun xs M2 G2 => ∃ G1, G2.Perm ((l, Obj.loop r) :: G1) ∧ I xs M2 G1) (fun M2 G2 => ∃ c G1, G2.Perm ((l, Obj.loop { r with state := .done, pending := some c }) :: G1) ∧ S c M2 G1) M ((l, Obj.loop r) :: G0) (PHeap.le_refl _)
  (fun xs M2 M3 G2 hle ⟨G1, h1, h2⟩ => ⟨G1, h1, hmono _ _ _ _ hle h2⟩) ?_ [] ⟨G0, List.Perm.refl _, hI⟩
 ·exact this
 ·rintro xs x hx M2 G2 v hM2 ⟨G1, hp, h2⟩ hv
  have hy : YCon P l [v].toArray M2 ((l, Obj.loop r) :: G1) (RoundΦ l r (I (xs ++ [x])) S) :=
   YCon.enter (List.mem_cons_self ..) hr rfl fun w0 => hbody xs x v M2 G1 w0 _ hx hM2 h2 hv
  intro w hs
  obtain ⟨r', e1, e2, e3⟩ := hy w (by
   have hs' := hs.perm hp
   have : St w ((((l, Obj.loop r) :: G1)).map (·.1)) M2 M2 ((l, Obj.loop r) :: G1) w := St.enter hs'.agree hs'.own hs'.sep hs'.nodup
   exact this)
  refine ⟨r', e1, e2, e3.mono ?_⟩
  rintro b w' ⟨M', G', k1, k2⟩
  refine ⟨M', G', ?_, ?_⟩
  ·have hmem : ∀ b, b ∈ (((l, Obj.loop r) :: G1).map (·.1)) ↔ b ∈ G2.map (·.1) := fun b => ((hp.map (·.1)).mem_iff).symm
   exact ⟨k1.os, k1.tape, k1.output, k1.size, fun b hb hf => k1.frame b hb (fun h => hf ((hmem b).1 h)), k1.agree, k1.own, k1.sep, fun p hp' => (k1.new p hp').imp (hmem _).1 id, k1.nodup, k1.base,
    fun b o hm => (k1.fresh b o hm).imp id fun h => h.imp (hmem _).1 id⟩
  ·rcases k2 with ⟨rfl, G3, h3, h4⟩ | ⟨rfl, c, G3, h3, h4⟩
   ·exact .inl ⟨rfl, G3, h3, h4⟩
   ·exact .inr ⟨rfl, c, G3, h3, h4⟩

/-- A loop over an iterator, in a function's activation: I: what holds between the rounds; S: what holds where a round jumps out. -/
theorem EV.over {L : List α} {El : α → Value → PHeap → Prop} (hro : C.b.roundOf = none) (hfv : ev ρ f = some fv) (hfn : fn? fv = some (g, first, caps)) (hit : Iter P g first caps M L El)
  (I : Nat → List α → PHeap → Own → Prop) (S : Nat → Code → PHeap → Own → Prop) {t : Nat}
  (hmono : ∀ d xs M2 M3 G2, M2.le M3 → I d xs M2 G2 → I d xs M3 G2)
  (hI : ∀ d, I d [] M ((d, Obj.deferred (some [])) :: G))
  (hbody : ∀ l d (r : Loop), r.state = .ready → r.pending = none → ∀ xs x v M2 G2 w0 F, x ∈ L → M.le M2 → I d xs M2 G2 → El x v M2 →
   EV (Cx.rnd P l r C.b.fn C.nt w0 F M2 (I d (xs ++ [x])) (S d)) V [.code asn, .begins, .code bd] ((t, v) :: ρ) M2 ((l, Obj.loop r) :: G2))
  (hend : ∀ d M' G', M.le M' → I d L M' G' → EV (C.marks [d]) V k ρ M' G')
  (hjump : ∀ d c M' G', M.le M' → S d c M' G' → AfterW (C.marks [d]) V k ρ c M' G') :
  EV C V (.code (.rangeF f [t] asn bd) :: k) ρ M G := by
 refine EV.rangeF hro hfv hfn fun l d r hr h1 h2 => ?_
 refine Con.callA (G2 := []) (iter_rounds hit (I d) (S d) hr (hmono d) (fun xs x v M2 G2 w0 F => hbody l d r h1 h2 xs x v M2 G2 w0 F) (hI d)) (by simp) ?_
 rintro v M' G' hM' (⟨G1, hp, h3⟩ | ⟨c, G1, hp, h3⟩)
 ·refine ⟨r, G1, by simpa using hp, by rw [h1]; simp, ?_⟩
  rw [h2]; exact hend d M' G1 hM' h3
 ·refine ⟨_, G1, by simpa using hp, by simp, ?_⟩
  have := hjump d c M' G1 hM' h3
  cases c <;> first | exact this | exact this.elim

/-- The same within a round. -/
theorem EV.overI {L : List α} {El : α → Value → PHeap → Prop} {l0 : Nat} {r0 : Loop} (hro : C.b.roundOf = some l0) (hl0 : (l0, Obj.loop r0) ∈ G) (hfv : ev ρ f = some fv) (hfn : fn? fv = some (g, first, caps)) (hit : Iter P g first caps M L El)
  (I : List α → PHeap → Own → Prop) (S : Code → PHeap → Own → Prop) {t : Nat}
  (hmono : ∀ xs M2 M3 G2, M2.le M3 → I xs M2 G2 → I xs M3 G2)
  (hI : I [] M G)
  (hbody : ∀ l (r : Loop), r.state = .ready → r.pending = none → ∀ xs x v M2 G2 w0 F, x ∈ L → M.le M2 → I xs M2 G2 → El x v M2 →
   EV (Cx.rnd P l r C.b.fn C.nt w0 F M2 (I (xs ++ [x])) S) V [.code asn, .begins, .code bd] ((t, v) :: ρ) M2 ((l, Obj.loop r) :: G2))
  (hend : ∀ M' G', M.le M' → I L M' G' → EV C V k ρ M' G')
  (hjump : ∀ c M' G', M.le M' → S c M' G' → AfterW C V k ρ c M' G') :
  EV C V (.code (.rangeF f [t] asn bd) :: k) ρ M G := by
 refine EV.rangeI hro hl0 hfv hfn fun l r hr h1 h2 => ?_
 refine Con.callA (G2 := []) (iter_rounds hit I S hr hmono (fun xs x v M2 G2 w0 F => hbody l r h1 h2 xs x v M2 G2 w0 F) hI) (by simp) ?_
 rintro v M' G' hM' (⟨G1, hp, h3⟩ | ⟨c, G1, hp, h3⟩)
 ·refine ⟨r, G1, by simpa using hp, by rw [h1]; simp, ?_⟩
  rw [h2]; exact hend M' G1 hM' h3
 ·refine ⟨_, G1, by simpa using hp, by simp, ?_⟩
  have := hjump c M' G1 hM' h3
  cases c <;> first | exact this | exact this.elim
end

/-- A loop, from whatever state has what its head asks. -/
theorem EV.loopTo {C : Cx P} {V : List Nat} {k : List RItem} {ρ : Env} {M : PHeap} {G : Own} {c : RCode} {α : Type} (st : α → Env × PHeap × Own) (I : α → Prop) (μ : α → Nat) (x : α) (hM : (st x).2.1 = M) (hI : I x)
  (hρ : ∀ p ∈ (st x).1, get ρ p.1 = some p.2) (hG : (st x).2.2.Sublist G)
  (body : ∀ x, I x → (∀ x', I x' → μ x' < μ x → EV C V (.inLoop c :: k) (st x').1 (st x').2.1 (st x').2.2) → EV C V (.code c :: .inLoop c :: k) (st x).1 (st x).2.1 (st x).2.2) :
  EV C V (.code (.loop c) :: k) ρ M G := by
 subst hM
 exact EV.to (EV.loop st I μ x hI body) hρ hG

end Go.EV

namespace Go.EV
variable {P : Program}

theorem rd.pt {H : PHeap} {b off n : Nat} {cs out : List Value} (h : rd H b off n cs) (i k : Nat) (hm : i + k ≤ n) (e : (cs.drop i).take k = out) : rd H b (off + i) k out := e ▸ h.part hm

theorem row_part {α : Type} (f : α → Value) : ∀ (l : List α) {i : Nat} (h : i < l.length), ((l.map f).drop i).take 1 = [f l[i]]
 | x :: l, 0, _ => by simp
 | x :: l, i + 1, h => by
  have := row_part f l (i := i) (by simpa using h)
  simpa using this

section
variable {C : Cx P} {f : FuncId} {args : Array Value} {V : List Nat} {c : RItem} {k : List RItem} {ρ : Env} {M : PHeap} {G G2 G3 : Own} {K : Value → PHeap → Own → Prop}

theorem CallW.frz (hG : G.Perm (G2 ++ G3)) (h : CallW C f args (M.add G2) G3 K) : CallW C f args M G K :=
 ⟨h.1, fun w hs cs => h.2 w (hs.perm hG).freeze cs⟩

/-- What many roads lead to is walked on once. -/
theorem EV.thru (Φ : Env → PHeap → Own → Prop) (h1 : ∀ k', (∀ ρ' M' G', Φ ρ' M' G' → EV C V k' ρ' M' G') → EV C V (c :: k') ρ M G) (h2 : ∀ ρ' M' G', Φ ρ' M' G' → EV C V k ρ' M' G') : EV C V (c :: k) ρ M G := h1 k h2
end

/-- An owned row: one of its cells. -/
theorem rowAt {α : Type} {M : PHeap} {G : Own} {b : Nat} {T : TypeId} {f : α → Value} {xs : List α} {i : Nat} (hi : i < xs.length) [h : At G b T (xs.map f)] : rd (M.add G) b i 1 [f xs[i]] :=
 rd_at h.mem (row_part f xs hi) (by rw [List.length_map]; omega)

/-- An owned row with more behind it: one of its cells. -/
theorem rowAt2 {α : Type} {M : PHeap} {G : Own} {b : Nat} {T : TypeId} {f : α → Value} {xs : List α} {sp : List Value} {i : Nat} (hi : i < xs.length) [h : At G b T (xs.map f ++ sp)] : rd (M.add G) b i 1 [f xs[i]] := by
 refine rd_at h.mem ?_ (by rw [List.length_append, List.length_map]; omega)
 rw [List.drop_append_of_le_length (by rw [List.length_map]; omega), List.take_append_of_le_length (by rw [List.length_drop, List.length_map]; omega), row_part f xs hi]

/-- A row, one cell written. -/
theorem row_st {α : Type} (f : α → Value) (xs : List α) {i : Nat} (hi : i < xs.length) (x : α) : (xs.map f).take i ++ (f x :: (xs.map f).drop (i + 1)) = (xs.set i x).map f := by
 rw [List.map_set, List.set_eq_take_append_cons_drop, if_pos (by rw [List.length_map]; exact hi)]

abbrev vrow (b n c : Nat) : Value := .slice (some ⟨b, 0, none⟩) n c

/-! ### Owned blocks, found by search -/

/-- One block taken out. -/
class Pull (G : Own) (x : Nat × Obj) (R : outParam Own) : Prop where
 p : G.Perm (x :: R)
instance Pull.here {x : Nat × Obj} {G : Own} : Pull (x :: G) x G := ⟨List.Perm.refl _⟩
instance (priority := low) Pull.there {x y : Nat × Obj} {G R : Own} [h : Pull G x R] : Pull (y :: G) x (y :: R) := ⟨(List.Perm.cons y h.p).trans (List.Perm.swap x y R)⟩
instance (priority := low) Pull.app {x : Nat × Obj} {A G R : Own} [h : Pull G x R] : Pull (A ++ G) x (A ++ R) := ⟨(List.Perm.append_left A h.p).trans List.perm_middle⟩

/-- A piece taken out. -/
class PullL (G : Own) (A : Own) (R : outParam Own) : Prop where
 p : G.Perm (A ++ R)
instance PullL.here {A G : Own} : PullL (A ++ G) A G := ⟨List.Perm.refl _⟩
instance (priority := 900) PullL.all {A : Own} : PullL A A [] := ⟨by simp⟩
instance (priority := low) PullL.cons {A G R : Own} {y : Nat × Obj} [h : PullL G A R] : PullL (y :: G) A (y :: R) := ⟨(List.Perm.cons y h.p).trans List.perm_middle.symm⟩
instance (priority := low) PullL.app {A B G R : Own} [h : PullL G A R] : PullL (B ++ G) A (B ++ R) := ⟨(List.Perm.append_left B h.p).trans (by rw [← List.append_assoc, ← List.append_assoc]; exact List.Perm.append_right _ List.perm_append_comm)⟩

/-- Some blocks taken out, the rest told. -/
class SubS (G G' : Own) (R : outParam Own) : Prop where
 p : G.Perm (G' ++ R)
instance SubS.nil {G : Own} : SubS G [] G := ⟨List.Perm.refl _⟩
instance SubS.cons {G G1 t R : Own} {x : Nat × Obj} [h1 : Pull G x G1] [h2 : SubS G1 t R] : SubS G (x :: t) R := ⟨h1.p.trans (List.Perm.cons x h2.p)⟩
instance (priority := low) SubS.app {G G1 A t R : Own} [h1 : PullL G A G1] [h2 : SubS G1 t R] : SubS G (A ++ t) R := ⟨h1.p.trans ((List.Perm.append_left A h2.p).trans (by simp))⟩
instance (priority := low) SubS.last {G G1 A : Own} [h1 : PullL G A G1] : SubS G A G1 := ⟨h1.p⟩

section
variable {C : Cx P} {f : FuncId} {args : Array Value} {V : List Nat} {k : List RItem} {ρ ρ' : Env} {M : PHeap} {G G' R : Own} {K : Value → PHeap → Own → Prop} {Φ : Value → PHeap → Own → Prop}

/-- To a smaller state, the blocks in another order. -/
theorem EV.toS (h : EV C V k ρ' M G') (hρ : ∀ p ∈ ρ', get ρ p.1 = some p.2) [hG : SubS G G' R] : EV C V k ρ M G :=
 EV.permG (EV.to h hρ (List.sublist_append_left _ _)) hG.p

theorem EV.reS (h : EV C V k ρ M G') [hG : SubS G G' R] : EV C V k ρ M G :=
 EV.permG (EV.weaken h (fun _ _ h => h) (List.sublist_append_left _ _)) hG.p

/-- Blocks that are only read from now on. -/
theorem EV.frz (G' : Own) [hG : SubS G G' R] (h : EV C V k ρ (M.add G') R) : EV C V k ρ M G :=
 EV.permG (EV.freeze h) hG.p

theorem CallW.frzS (G' : Own) [hG : SubS G G' R] (h : CallW C f args (M.add G') R K) : CallW C f args M G K := CallW.frz hG.p h

/-- A call that takes some blocks. -/
theorem Con.callS {G1 : Own} (h : Con P f args M G1 Φ) [hG : SubS G G1 R] (hk : ∀ v M' G', M.le M' → Φ v M' G' → K v M' (G' ++ R)) : CallW C f args M G K :=
 ⟨h.1, fun w hs cs => by
  have hs' := hs.perm hG.p
  obtain ⟨e, w', fr, ⟨v, he, M', G', h1, h2⟩, r⟩ := h.2 w (hs'.part (PHeap.le_add _ _)) cs
  exact ⟨e, w', fr, ⟨v, he, M', G' ++ R, hs'.callA h1, hk v M' G' h1.base h2⟩, r⟩⟩

/-- A call that takes some blocks and reads the others; what it leaves to be read is forgotten. -/
theorem Con.callK {G1 : Own} {Mr : PHeap} (h : Con P f args Mr G1 Φ) [hG : SubS G G1 R] (hMr : Mr.le (M.add R)) (hk : ∀ v M' G', Φ v M' G' → K v M (G' ++ R)) : CallW C f args M G K :=
 ⟨h.1, fun w hs cs => by
  have hs' := hs.perm hG.p
  obtain ⟨e, w', fr, ⟨v, he, M', G', h1, h2⟩, r⟩ := h.2 w (hs'.part hMr) cs
  exact ⟨e, w', fr, ⟨v, he, M, G' ++ R, hs'.callB h1, hk v M' G' h2⟩, r⟩⟩

end

section
variable {C : Cx P} {f : FuncId} {l : Nat} {args : Array Value} {V : List Nat} {k : List RItem} {ρ : Env} {M : PHeap} {G G1 R : Own} {K : Value → PHeap → Own → Prop} {Φ : Value → PHeap → Own → Prop}

/-- All but some blocks are only read from now on. -/
theorem CallW.keep (G1 : Own) [h : PullL G G1 R] (k : CallW C f args (M.add R) G1 K) : CallW C f args M G K := CallW.frz (h.p.trans List.perm_append_comm) k
theorem EV.keep (G1 : Own) [h : PullL G G1 R] (h' : EV C V k ρ (M.add R) G1) : EV C V k ρ M G := EV.permG (EV.freeze h') (h.p.trans List.perm_append_comm)
theorem EV.keepS (G1 : Own) [h : SubS G G1 R] (h' : EV C V k ρ (M.add R) G1) : EV C V k ρ M G := EV.permG (EV.freeze h') (h.p.trans List.perm_append_comm)
theorem YieldW.keep (G1 : Own) [h : PullL G G1 R] (k : YieldW C l args (M.add R) G1 K) : YieldW C l args M G K :=
 fun w hs => k w (hs.perm (h.p.trans List.perm_append_comm)).freeze

/-- A round of the loop that yield belongs to, all owned blocks handed to it. -/
theorem YCon.run (h : YCon P l args M G Φ) (hk : ∀ v M' G', M.le M' → Φ v M' G' → K v M' G') : YieldW C l args M G K := by
 refine h.callA (G2 := []) (by simp) fun v M' G' hM hv => ?_
 rw [List.nil_append]; exact hk v M' G' hM hv
theorem YieldW.frzS (G1 : Own) [h : SubS G G1 R] (k : YieldW C l args (M.add G1) R K) : YieldW C l args M G K := fun w hs => k w (hs.perm h.p).freeze
theorem YCon.callS (h : YCon P l args M G1 Φ) [hG : SubS G G1 R] (hk : ∀ v M' G', M.le M' → Φ v M' G' → K v M' (R ++ G')) : YieldW C l args M G K := h.callA hG.p hk
theorem Con.run (h : Con P f args M G Φ) (hk : ∀ v M' G', M.le M' → Φ v M' G' → K v M' G') : CallW C f args M G K := by
 refine h.callA (G2 := []) (by simp) fun v M' G' hM hv => ?_
 rw [List.nil_append]; exact hk v M' G' hM hv
end

/-- A call that reads what is owned and makes something new. -/
theorem Con.callN {C : Cx P} {f : FuncId} {args : Array Value} {M : PHeap} {G : Own} {K : Value → PHeap → Own → Prop} {Φ : Value → PHeap → Own → Prop} (h : Con P f args (M.add G) [] Φ) (hk : ∀ v M' G', Φ v M' G' → K v M (G ++ G')) : CallW C f args M G K :=
 Con.callB (G1 := []) h (PHeap.le_refl _) (List.Perm.refl _) hk

/-! ### A region that draws its order, step by step -/
section
variable {C : Cx P} {ρ : Env} {Mk M : PHeap} {Gk G : Own} {K : Env → PHeap → Own → Prop} {KQ : Env → Prop}
theorem wA_fin {t : AT} (e : t = .fin) (h : K ρ M G) : wpA C t ρ Mk Gk M G K := by subst e; exact h
theorem wA_no {t : AT} (e : t = .no) : wpA C t ρ Mk Gk M G K := by subst e; trivial
theorem wA_q {t rest : AT} {l : QL} (e : t = .q l rest) (h : ∀ l' t', l' = l → t' = rest → wpQL C l' ρ Mk Gk fun ρ' => wpA C t' ρ' Mk Gk M G K) : wpA C t ρ Mk Gk M G K := by subst e; exact h _ _ rfl rfl
theorem wA_s {t0 : AT} {i : Nat} {d : Option Nat} {r : ROp} {t more : AT} (e : t0 = .s i d r false t more) (h : ∀ t', t' = t → opW C ρ M G (fun v M' G' => M.le M' ∧ (∀ p ∈ Gk, p ∈ G') ∧ wpA C t' (putE d v ρ) Mk Gk M' G' K) r) (h2 : ∀ t', t' = more → wpA C t' ρ Mk Gk M G K) : wpA C t0 ρ Mk Gk M G K := by
 subst e; simp only [wpA, Bool.false_eq_true, if_false]; exact ⟨h _ rfl, h2 _ rfl⟩
theorem wA_sT {t0 : AT} {i : Nat} {d : Option Nat} {r : ROp} {t more : AT} (e : t0 = .s i d r true t more) (h : ∀ t', t' = t → opW C ρ M G (fun v M' G' => wpA C t' (putE d v ρ) M' G' M' G' K) r) (h2 : ∀ t', t' = more → wpA C t' ρ Mk Gk M G K) : wpA C t0 ρ Mk Gk M G K := by
 subst e; simp only [wpA, if_true]; exact ⟨h _ rfl, h2 _ rfl⟩
theorem wA_br {t0 : AT} {s : Nat} {yes nay : AT} {c : Bool} (e : t0 = .br s yes nay) (hc : get ρ s = some (.bool c)) (h1 : ∀ t', t' = yes → c = true → wpA C t' ρ Mk Gk M G K) (h2 : ∀ t', t' = nay → c = false → wpA C t' ρ Mk Gk M G K) : wpA C t0 ρ Mk Gk M G K := by
 subst e; simp only [wpA, hc, onv_some, bool?]; exact ⟨h1 _ rfl, h2 _ rfl⟩
theorem wA_sk {t0 : AT} {i : Nat} {d : Option Nat} {rest : AT} (e : t0 = .sk i d rest) (h : ∀ t', t' = rest → wpA C t' ρ Mk Gk M G K) : wpA C t0 ρ Mk Gk M G K := by subst e; exact h rest rfl
theorem wQ_nil {l : QL} (e : l = .nil) (h : KQ ρ) : wpQL C l ρ M G KQ := by subst e; exact h
theorem wQ_op {l : QL} {i : Nat} {d : Option Nat} {r : ROp} {rest : QL} (e : l = .op i d r rest) (h : ∀ l', l' = rest → qW C ρ M G (fun v => wpQL C l' (putE d v ρ) M G KQ) r) : wpQL C l ρ M G KQ := by subst e; exact h _ rfl
theorem wQ_g {l : QL} {s : Nat} {want : Bool} {body : QL} {m d : Nat} {last : A} {rest : QL} {c : Bool} (e0 : l = .g s want body m d last rest) (hc : get ρ s = some (.bool c)) (e : Bool)
  (h1 : ∀ l', l' = body → c = want → wpQL C l' ρ M G fun ρ' => onv (ev ρ' last) fun u => onv (bool? u) fun e' => e' = e) (h2 : ∀ l', l' = rest → wpQL C l' ((d, .bool (if want then c && e else c || e)) :: ρ) M G KQ) : wpQL C l ρ M G KQ := by
 subst e0; simp only [wpQL, hc, onv_some, bool?]; exact ⟨e, h1 _ rfl, h2 _ rfl⟩
end

/-- What stands behind a place of a row. -/
theorem sl_from {wb wo n c i : Nat} (h2 : n ≤ c) : ∃ ro, (i < n → ro = wo + i) ∧ (if c = i then some (⟨wb, wo, none⟩ : Addr) else some ((⟨wb, wo, none⟩ : Addr).add i)) = some ⟨wb, ro, none⟩ := by
 by_cases h : c = i
 ·exact ⟨wo, fun h3 => by omega, by rw [if_pos h]⟩
 ·refine ⟨wo + i, fun _ => rfl, ?_⟩
  rw [if_neg h]
  simp only [Addr.add]
  split
  ·rename_i h0; rw [h0]; rfl
  ·rfl

theorem sl_to {a : Addr} {c : Nat} : (if c = 0 then some a else some (a.add 0)) = some a := by
 split
 ·rfl
 ·simp [Addr.add]

theorem rdS.pre {H : PHeap} {a : Option Addr} {n i : Nat} {cs : List Value} (h : rdS H 1 a n cs) (hi : i ≤ n) : rdS H 1 a i (cs.take i) := by
 rcases h with ⟨h0, rfl⟩ | ⟨b, off, e, h⟩
 ·exact .inl ⟨by omega, by simp⟩
 ·refine .inr ⟨b, off, e, ?_⟩
  have := h.part (i := 0) (m := i * 1) (by omega)
  rw [List.drop_zero, Nat.add_zero] at this
  rwa [Nat.mul_one] at this ⊢

theorem rd.suf {H : PHeap} {b off n i : Nat} {cs : List Value} (h : rd H b off n cs) (hi : i ≤ n) : rd H b (off + i) (n - i) (cs.drop i) := by
 have := h.part (i := i) (m := n - i) (by omega)
 have hl := h.length
 rwa [List.take_of_length_le (by rw [List.length_drop]; omega)] at this

/-- A row that has no less room than length. -/
def SlC {α : Type} (H : PHeap) (sz : Nat) (enc : α → List Value) (v : Value) (xs : List α) : Prop :=
 ∃ a c, v = .slice a xs.length c ∧ xs.length ≤ c ∧ rdS H sz a xs.length (xs.flatMap enc)
theorem SlC.sl {α : Type} {H : PHeap} {sz : Nat} {enc : α → List Value} {v : Value} {xs : List α} (h : SlC H sz enc v xs) : Sl H sz enc v xs :=
 let ⟨a, c, e, _, h⟩ := h; ⟨a, c, e, h⟩
theorem SlC.mono {α : Type} {H H' : PHeap} (hh : H.le H') {sz : Nat} {enc : α → List Value} {v : Value} {xs : List α} (h : SlC H sz enc v xs) : SlC H' sz enc v xs :=
 let ⟨a, c, e, hc, h⟩ := h; ⟨a, c, e, hc, h.mono hh⟩

/-- A row of such rows. -/
def SlSlC {α : Type} (H : PHeap) (sz : Nat) (enc : α → List Value) (v : Value) (xss : List (List α)) : Prop :=
 ∃ a c vs, v = .slice a xss.length c ∧ vs.length = xss.length ∧ rdS H 1 a xss.length vs ∧ ∀ i (h : i < vs.length) (h' : i < xss.length), SlC H sz enc vs[i] xss[i]
theorem SlSlC.mono {α : Type} {H H' : PHeap} (hh : H.le H') {sz : Nat} {enc : α → List Value} {v : Value} {xss : List (List α)} (h : SlSlC H sz enc v xss) : SlSlC H' sz enc v xss :=
 let ⟨a, c, vs, e, hl, h, k⟩ := h; ⟨a, c, vs, e, hl, h.mono hh, fun i h h' => (k i h h').mono hh⟩
theorem SlSlC.sl {α : Type} {H : PHeap} {sz : Nat} {enc : α → List Value} {v : Value} {xss : List (List α)} (h : SlSlC H sz enc v xss) : SlSl H sz enc v xss :=
 let ⟨a, c, vs, e, hl, h, k⟩ := h; ⟨a, c, vs, e, hl, h, fun i h h' => (k i h h').sl⟩

theorem SlSlC.at {α : Type} {H : PHeap} {sz : Nat} {enc : α → List Value} {a : Option Addr} {vs : List Value} {xss : List (List α)} (h : rdS H 1 a xss.length vs) (hl : vs.length = xss.length) (hk : ∀ i (h : i < vs.length) (h' : i < xss.length), SlC H sz enc vs[i] xss[i]) (hn : 0 < xss.length) :
  ∃ b off, a = some ⟨b, off, none⟩ ∧ ∀ i (hi : i < xss.length), ∃ a' c', rd H b (off + i * 1) 1 [.slice a' xss[i].length c'] ∧ xss[i].length ≤ c' ∧ rdS H sz a' xss[i].length (xss[i].flatMap enc) := by
 have h1 : rdS H 1 a vs.length (vs.flatMap fun v => [v]) := by rw [flatMap_single, hl]; exact h
 obtain ⟨b, off, e, hr⟩ := Sl.at (sz := 1) (enc := fun v => [v]) (fun _ => rfl) (by omega) h1 (by omega)
 refine ⟨b, off, e, fun i hi => ?_⟩
 have hr' := hr i (by omega)
 obtain ⟨a', c', e', hc', h'⟩ := hk i (by omega) hi
 rw [e'] at hr'
 exact ⟨a', c', hr', hc', h'⟩

end Go.EV

namespace Go.EV
open Go.Proofs

/-- An event. -/
structure Ev where
 op : OpV
 th : Int
 deriving DecidableEq

abbrev encEv (e : Ev) : List Value := [vi e.op.kind, vi e.op.loc, vi e.op.v, vi e.op.w, vi e.op.ord, vi e.th]
abbrev vev (e : Ev) : Value := .agg #[vi e.op.kind, vi e.op.loc, vi e.op.v, vi e.op.w, vi e.op.ord, vi e.th]

def Ev.reads (e : Ev) : Bool := decide (e.op.kind ≠ 1) && decide (e.op.kind ≠ 5)
def Ev.strong (e : Ev) : Bool := decide (e.op.kind = 5) && decide (e.op.ord = 4)
def Ev.acq (e : Ev) : Bool := acqP e.op.ord
def Ev.rel (e : Ev) : Bool := relP e.op.ord
instance : Inhabited Ev := ⟨⟨⟨0, 0, 0, 0, 0⟩, 0⟩⟩

/-- The events of threads, numbered from one on. -/
def evsGo : Nat → List (List OpV) → List Ev
 | _, [] => []
 | n, t :: ts => t.map (fun o => ⟨o, n⟩) ++ evsGo (n + 1) ts
def evsOf (ts : List (List OpV)) : List Ev := evsGo 0 (ts.map expT)

theorem evsGo_append : ∀ (l1 : List (List OpV)) (n : Nat) (l2 : List (List OpV)), evsGo n (l1 ++ l2) = evsGo n l1 ++ evsGo (n + l1.length) l2
 | [], n, l2 => by simp [evsGo]
 | t :: l1, n, l2 => by simp [evsGo, evsGo_append l1, Nat.add_assoc, Nat.add_comm 1]

theorem evsGo_take {l : List (List OpV)} {i : Nat} (hi : i < l.length) : evsGo 0 (l.take (i + 1)) = evsGo 0 (l.take i) ++ l[i].map (fun o => ⟨o, (i : Int)⟩) := by
 rw [List.take_succ_eq_append_getElem hi, evsGo_append]
 have : (l.take i).length = i := by simp; omega
 simp [evsGo, this]

theorem evsGo_len : ∀ (l : List (List OpV)) (n : Nat), (evsGo n l).length = l.flatten.length
 | [], n => rfl
 | t :: l, n => by simp [evsGo, evsGo_len l]

/-- The events of the first i threads, and of the next one's first j operations. -/
def evPart (q : List (List OpV)) (i j : Nat) : List Ev := evsGo 0 (q.take i) ++ ((q[i]?.getD []).take j).map (fun o => ⟨o, (i : Int)⟩)
theorem evPart_zero (q : List (List OpV)) (i : Nat) : evPart q i 0 = evsGo 0 (q.take i) := by simp [evPart]
theorem evPart_succ {q : List (List OpV)} {i j : Nat} (hi : i < q.length) (hj : j < q[i].length) : evPart q i (j + 1) = evPart q i j ++ [⟨q[i][j], i⟩] := by
 simp only [evPart, List.getElem?_eq_getElem hi, Option.getD_some]
 rw [List.take_succ_eq_append_getElem hj, List.map_append, List.append_assoc]; rfl
theorem evPart_all {q : List (List OpV)} {i : Nat} (hi : i < q.length) : evPart q i q[i].length = evsGo 0 (q.take (i + 1)) := by
 simp only [evPart, List.getElem?_eq_getElem hi, Option.getD_some]
 rw [List.take_length, evsGo_take hi]
theorem evPart_len {q : List (List OpV)} {i : Nat} (hi : i < q.length) (j : Nat) : (evPart q i j).length ≤ q.flatten.length := by
 have h : (evsGo 0 (q.take (i + 1))).length ≤ q.flatten.length := by rw [evsGo_len]; exact flat_take_le q (i + 1)
 rw [← evPart_all hi] at h
 simp only [evPart, List.getElem?_eq_getElem hi, Option.getD_some, List.length_append, List.length_map, List.length_take] at h ⊢
 omega
theorem evPart_len0 {q : List (List OpV)} {i : Nat} (hi : i < q.length) : q[i].length ≤ q.flatten.length := by
 have h := evPart_len hi q[i].length
 simp only [evPart, List.getElem?_eq_getElem hi, Option.getD_some, List.length_append, List.length_map, List.length_take] at h
 omega

section
variable {M : PHeap}

theorem ax_reads_q (e : Ev) : ConQ Tryz.prog 86 #[vev e] M (vb e.reads) := by
 refine Con.enter Q9_ok (args := [vev e]) (by simp [Q9]) fun w0 => ?_
 simp only [Q9, argE]
 repeat' first
   | refine EV.seq ?_
   | (refine EV.reg ?_; (conv => (arg 2; whnf)); (refine nx ?_; try with_reducible exact ⟨⟩))
   | with_reducible assumption
   | (refine condW.merge ?_ (fun hc K' hK => ?_) ?_; rotate_left)
   | (refine EV.ret Q9_ok ?_; simp only [wpS, wpA, wpQL, push_cast, Int.cast_ofNat_Int, reduceIte, Nat.reduceEqDiff, reduceCtorEq, Nat.reduceAdd, Nat.reduceSub, Nat.reduceMul, Int.reduceToNat, Nat.reduceLeDiff, Q9])
   | ((first | with_reducible intro b | refine xiA rfl ?_ | fail); try (refine nx ?_; try with_reducible exact ⟨⟩))
   | fail
 all_goals simp_all [Ev.reads]

theorem ax_strong_q (e : Ev) : ConQ Tryz.prog 76 #[vev e] M (vb e.strong) := by
 refine Con.enter Q11_ok (args := [vev e]) (by simp [Q11]) fun w0 => ?_
 simp only [Q11, argE]
 repeat' first
   | refine EV.seq ?_
   | (refine EV.reg ?_; (conv => (arg 2; whnf)); (refine nx ?_; try with_reducible exact ⟨⟩))
   | with_reducible assumption
   | (refine condW.merge ?_ (fun hc K' hK => ?_) ?_; rotate_left)
   | (refine EV.ret Q11_ok ?_; simp only [wpS, wpA, wpQL, push_cast, Int.cast_ofNat_Int, reduceIte, Nat.reduceEqDiff, reduceCtorEq, Nat.reduceAdd, Nat.reduceSub, Nat.reduceMul, Int.reduceToNat, Nat.reduceLeDiff, Q11])
   | ((first | with_reducible intro b | refine xiA rfl ?_ | fail); try (refine nx ?_; try with_reducible exact ⟨⟩))
   | fail
 all_goals simp_all [Ev.strong]

theorem ax_acq_q (e : Ev) (h : isOrderP e.op.ord = true) : ConQ Tryz.prog 138 #[vev e] M (vb e.acq) := by
 refine Con.enter Q8_ok (args := [vev e]) (by simp [Q8]) fun w0 => ?_
 simp only [Q8, argE]
 repeat' first
   | refine EV.seq ?_
   | (refine EV.reg ?_; (conv => (arg 2; whnf)); (refine nx ?_; try with_reducible exact ⟨⟩))
   | (refine ConQ.call (order_Acquires_q _ h) ?_; try (refine nx ?_; try with_reducible exact ⟨⟩))
   | (refine EV.ret Q8_ok ?_; simp only [wpS, wpA, wpQL, push_cast, Int.cast_ofNat_Int, reduceIte, Nat.reduceEqDiff, reduceCtorEq, Nat.reduceAdd, Nat.reduceSub, Nat.reduceMul, Int.reduceToNat, Nat.reduceLeDiff, Q8])
   | ((first | with_reducible intro b | refine xiA rfl ?_ | fail); try (refine nx ?_; try with_reducible exact ⟨⟩))
   | fail
 all_goals rfl

theorem ax_rel_q (e : Ev) (h : isOrderP e.op.ord = true) : ConQ Tryz.prog 137 #[vev e] M (vb e.rel) := by
 refine Con.enter Q10_ok (args := [vev e]) (by simp [Q10]) fun w0 => ?_
 simp only [Q10, argE]
 repeat' first
   | refine EV.seq ?_
   | (refine EV.reg ?_; (conv => (arg 2; whnf)); (refine nx ?_; try with_reducible exact ⟨⟩))
   | (refine ConQ.call (order_Releases_q _ h) ?_; try (refine nx ?_; try with_reducible exact ⟨⟩))
   | (refine EV.ret Q10_ok ?_; simp only [wpS, wpA, wpQL, push_cast, Int.cast_ofNat_Int, reduceIte, Nat.reduceEqDiff, reduceCtorEq, Nat.reduceAdd, Nat.reduceSub, Nat.reduceMul, Int.reduceToNat, Nat.reduceLeDiff, Q10])
   | ((first | with_reducible intro b | refine xiA rfl ?_ | fail); try (refine nx ?_; try with_reducible exact ⟨⟩))
   | fail
 all_goals rfl

theorem ax_of_c (ts : List (List OpV)) (s : Value) (hs : SlSl M 5 encOp s ts) (hb : Sized ts) :
  Con Tryz.prog 33 #[.agg #[s]] M [] fun v M' G' => G' = [] ∧ ((checkP ts ≠ 0 ∧ v = .tuple #[.slice none 0 0, vi (checkP ts)]) ∨ (checkP ts = 0 ∧ ∃ s', v = .tuple #[s', vi 0] ∧ Sl M' 6 encEv s' (evsOf ts))) := by
 have hs0 := hs
 obtain ⟨a, c, vs, rfl, hl, hrd, hk⟩ := hs
 refine Con.enter Q12_ok (args := [.agg #[.slice a ts.length c]]) (by simp [Q12]) fun w0 => ?_
 simp only [Q12, argE]
 repeat' first
   | refine EV.seq ?_
   | (refine EV.reg ?_; (conv => (arg 2; whnf)); (refine nx ?_; try with_reducible exact ⟨⟩))
   | ((first | with_reducible intro b | refine xrA rfl ?_ | fail); try (refine nx ?_; try with_reducible exact ⟨⟩))
   | fail
 refine Con.callA (G1 := []) (litmus_Expand_c ts _ hs0 hb) (List.Perm.refl _) ?_
 rintro v M1 G1 hM1 (⟨hne, rfl⟩ | ⟨hck, s', rfl, hs1⟩)
 ·simp only [wpS, wpA, wpQL, push_cast, Int.cast_ofNat_Int, reduceIte, Nat.reduceEqDiff, reduceCtorEq, Nat.reduceAdd, Nat.reduceSub, Nat.reduceMul, Int.reduceToNat, Nat.reduceLeDiff]
  repeat' first
    | refine EV.seq ?_
    | (refine EV.reg ?_; (conv => (arg 2; whnf)); (refine nx ?_; try with_reducible exact ⟨⟩))
    | (refine EV.condX rfl (fun h => ?_) (fun h => ?_) <;> try exact dead h)
    | (with_reducible intro b; try (refine nx ?_; try with_reducible exact ⟨⟩))
    | (refine xw ?_; (refine nx ?_; try with_reducible exact ⟨⟩))
    | fail
  refine EV.to (ρ' := [(2, .slice none 0 0), (3, vi (checkP ts))]) (G' := []) ?_ ?env0 (List.nil_sublist _)
  case env0 =>
   repeat' first
    | (refine List.forall_mem_cons.2 (And.intro ?_ ?_))
    | (intro _ hnil; cases hnil; done)
    | rfl
    | fail
  refine EV.ret Q12_ok ?_
  simp only [wpS, wpA, wpQL, push_cast, Int.cast_ofNat_Int, reduceIte, Nat.reduceEqDiff, reduceCtorEq, Nat.reduceAdd, Nat.reduceSub, Nat.reduceMul, Int.reduceToNat, Nat.reduceLeDiff, Q12]
  exact .inl hne
 ·have hsm := checkP_small hck
  have hs2 := hs1
  obtain ⟨a1, c1, vs1, rfl, hl1, hrd1, hk1⟩ := hs2
  generalize hq : ts.map expT = q at *
  have hqf : q.flatten.length ≤ 3 * ts.flatten.length := by
   subst hq
   clear hs0 hb hsm hl hrd hk hs1 hl1 hrd1 hk1 hck
   induction ts with
   | nil => simp
   | cons t ts ih =>
    have h1 : (expT t).length ≤ 3 * t.length := by
     clear ih
     induction t with
     | nil => simp [expT]
     | cons o t ih =>
      have := expOp_len o
      simp only [expT, List.flatMap_cons, List.length_append, List.length_cons] at ih ⊢
      omega
    simp only [List.map_cons, List.flatten_cons, List.length_append] at ih ⊢
    omega
  have hql : q.length = ts.length := by subst hq; simp
  simp only [wpS, wpA, wpQL, push_cast, Int.cast_ofNat_Int, reduceIte, Nat.reduceEqDiff, reduceCtorEq, Nat.reduceAdd, Nat.reduceSub, Nat.reduceMul, Int.reduceToNat, Nat.reduceLeDiff]
  repeat' first
    | refine EV.seq ?_
    | refine EV.skip ?_
    | refine EV.block ?_
    | (refine EV.reg ?_; (conv => (arg 2; whnf)); (refine nx ?_; try with_reducible exact ⟨⟩))
    | (refine EV.condX rfl (fun h => ?_) (fun h => ?_) <;> try exact dead h)
    | ((first | with_reducible intro b | refine xsA rfl ?_ | fail); try (refine nx ?_; try with_reducible exact ⟨⟩))
    | (refine xw ?_; (refine nx ?_; try with_reducible exact ⟨⟩))
    | fail
  refine EV.loopTo (fun x : Nat × Vec => ([(6, osv x.2 (evsGo 0 (q.take x.1)).length), (20, .slice a1 q.length c1), (21, vi q.length), (22, vi x.1)], M1, osg 121 x.2 ((evsGo 0 (q.take x.1)).flatMap encEv)))
   (fun x => x.1 ≤ q.length ∧ osok 6 x.2 (evsGo 0 (q.take x.1)).length ((evsGo 0 (q.take x.1)).flatMap encEv)) (fun x => q.length - x.1) (0, none) rfl ⟨Nat.zero_le _, rfl, rfl⟩ ?env1 (List.nil_sublist _) ?_
  case env1 =>
   repeat' first
    | (refine List.forall_mem_cons.2 (And.intro ?_ ?_))
    | (intro _ hnil; cases hnil; done)
    | rfl
    | fail
  rintro ⟨i, ov⟩ ⟨hi, hov⟩ ih
  dsimp only at hi hov ih ⊢
  repeat' first
    | refine EV.seq ?_
    | refine EV.skip ?_
    | refine EV.block ?_
    | (refine EV.reg ?_; (conv => (arg 2; whnf)); (refine nx ?_; try with_reducible exact ⟨⟩))
    | (refine EV.condX rfl (fun h => ?_) (fun h => ?_) <;> try exact dead h)
    | (refine EV.exit rfl ?_)
    | fail
  ·have hi' : i < q.length := by omega
   obtain ⟨pb, po, rfl, hat⟩ := SlSl.at hrd1 hl1 hk1 (by omega)
   obtain ⟨a', c', hr1, hr2⟩ := hat i hi'
   simp only [Nat.mul_one] at hr1
   have hlen : ∀ j, (evPart q i j).length ≤ q.flatten.length := fun j => evPart_len hi' j
   have hlen0 : q[i].length ≤ q.flatten.length := evPart_len0 hi'
   repeat' first
     | refine EV.seq ?_
     | refine EV.block ?_
     | (refine EV.reg ?_; (conv => (arg 2; whnf)); (refine nx ?_; try with_reducible exact ⟨⟩))
     | (refine And.intro (by omega) ?_)
     | (refine Exists.intro _ (Exists.intro _ (Exists.intro _ (And.intro (rd_M (by assumption)) ?_))); try (refine nx ?_; try with_reducible exact ⟨⟩))
     | fail
   refine EV.loopTo (fun x : Nat × Vec => ([(6, osv x.2 (evPart q i x.1).length), (7, vi i), (20, .slice (some ⟨pb, po, none⟩) q.length c1), (21, vi q.length), (22, vi i), (27, .slice a' q[i].length c'), (28, vi q[i].length), (29, vi x.1)], M1,
     osg 121 x.2 ((evPart q i x.1).flatMap encEv)))
    (fun x => x.1 ≤ q[i].length ∧ osok 6 x.2 (evPart q i x.1).length ((evPart q i x.1).flatMap encEv))
    (fun x => q[i].length - x.1) (0, ov) rfl ⟨Nat.zero_le _, by rw [evPart_zero]; exact hov⟩ ?env2 (by rw [evPart_zero]; exact List.Sublist.refl _) ?_
   case env2 =>
    repeat' first
     | (refine List.forall_mem_cons.2 (And.intro ?_ ?_))
     | (intro _ hnil; cases hnil; done)
     | rfl
     | (simp (disch := omega) only [get_cons, get_nil, reduceIte, Nat.reduceEqDiff, Option.some.injEq, Value.int.injEq, w64, Int.natCast_add, Int.natCast_one, Int.cast_ofNat_Int, Int.natCast_zero, evPart_zero]; done)
     | fail
   rintro ⟨j, o1⟩ ⟨hj, ho1⟩ ih2
   dsimp only at hj ho1 ih2 ⊢
   repeat' first
     | refine EV.seq ?_
     | refine EV.skip ?_
     | refine EV.block ?_
     | refine EV.inBlock ?_
     | (refine EV.reg ?_; (conv => (arg 2; whnf)); (refine nx ?_; try with_reducible exact ⟨⟩))
     | (refine EV.condX rfl (fun h => ?_) (fun h => ?_) <;> try exact dead h)
     | (refine EV.exit rfl ?_)
     | fail
   ·have hj' : j < q[i].length := by omega
    have hlj := hlen j
    obtain ⟨qb, qo, rfl, hat2⟩ := Sl.at (enc := encOp) (fun _ => rfl) (by omega) hr2 (by omega)
    have hr3 := hat2 j hj'
    repeat' first
      | (refine EV.reg ?_; (conv => (arg 2; whnf)); (refine nx ?_; try with_reducible exact ⟨⟩))
      | (with_reducible intro b; try (refine nx ?_; try with_reducible exact ⟨⟩))
      | (refine And.intro (by omega) ?_)
      | ((first | refine Exists.intro _ (And.intro (rd_M (by assumption)) ?_) | refine xrA rfl ?_ | fail); try (refine nx ?_; try with_reducible exact ⟨⟩))
      | (refine xw ?_; (refine nx ?_; try with_reducible exact ⟨⟩))
      | fail
    refine ⟨encEv ⟨q[i][j], i⟩, Or.inr ⟨b, 0, rfl, rd_own' 0 rfl rfl (by simp)⟩, by simp [ok1_cons, ok1_nil, Value.oneCell'], Or.inl ⟨o1, _, rfl, _, ho1, _, cat_pull [[_, _], osg 121 o1 _] 1 (by simp), ?_, ?_, ?_⟩⟩
    ·simp only [maxLen]; omega
    ·omega
    intro o2 ho2 _
    simp only [List.eraseIdx_cons_succ, List.eraseIdx_cons_zero, List.getElem_cons_succ, List.getElem_cons_zero, List.insertIdx_zero, List.insertIdx_succ_cons, cat_two, cat_one, cat_nil, List.nil_append, List.cons_append, List.append_assoc, List.append_nil]
    repeat' first
      | refine EV.inBlock ?_
      | (refine EV.reg ?_; (conv => (arg 2; whnf)); (refine nx ?_; try with_reducible exact ⟨⟩))
      | fail
    have e := evPart_succ hi' hj'
    have ih3 := ih2 (j + 1, o2) ⟨by dsimp only; omega, by rw [e, List.length_append, List.flatMap_append]; exact ho2⟩ (by dsimp only; omega)
    dsimp only at ih3
    rw [e, List.length_append, List.flatMap_append] at ih3
    refine EV.to ih3 ?_ (by (repeat' first | exact List.Sublist.refl _ | exact List.nil_sublist _ | exact List.sublist_append_left _ _ | refine List.Sublist.cons_cons _ ?_ | refine List.Sublist.append_left ?_ _ | refine List.sublist_append_of_sublist_right ?_ | refine List.Sublist.cons _ ?_))
    repeat' first
     | (refine List.forall_mem_cons.2 (And.intro ?_ ?_))
     | (intro _ hnil; cases hnil; done)
     | rfl
     | (refine env_w64 rfl (by first | rfl | (push_cast; first | rfl | omega)) (by omega) (by omega); done)
     | fail
   ·have hj' : j = q[i].length := by omega
    subst hj'
    rw [evPart_all hi'] at ho1 ⊢
    refine EV.to (ih (i + 1, o1) ⟨by dsimp only; omega, ho1⟩ (by dsimp only; omega)) ?_ (by (repeat' first | exact List.Sublist.refl _ | exact List.nil_sublist _ | exact List.sublist_append_left _ _ | refine List.Sublist.cons_cons _ ?_ | refine List.Sublist.append_left ?_ _ | refine List.sublist_append_of_sublist_right ?_ | refine List.Sublist.cons _ ?_))
    repeat' first
     | (refine List.forall_mem_cons.2 (And.intro ?_ ?_))
     | (intro _ hnil; cases hnil; done)
     | rfl
     | (refine env_w64 rfl (by first | rfl | (push_cast; first | rfl | omega)) (by omega) (by omega); done)
     | fail
  ·have hi2 : i = q.length := by omega
   subst hi2
   rw [List.take_length] at hov ⊢
   rw [← List.append_nil (osg _ _ _)]
   refine EV.freeze ?_
   refine EV.to (ρ' := [(2, osv ov (evsGo 0 q).length), (3, vi 0)]) (G' := []) ?_ ?env3 (List.nil_sublist _)
   case env3 =>
    repeat' first
     | (refine List.forall_mem_cons.2 (And.intro ?_ ?_))
     | (intro _ hnil; cases hnil; done)
     | rfl
     | fail
   refine EV.ret Q12_ok ?_
   simp only [wpS, wpA, wpQL, push_cast, Int.cast_ofNat_Int, reduceIte, Nat.reduceEqDiff, reduceCtorEq, Nat.reduceAdd, Nat.reduceSub, Nat.reduceMul, Int.reduceToNat, Nat.reduceLeDiff, Q12]
   subst hq
   exact .inr ⟨hck, _, rfl, _, _, rfl, rd_osg hov (fun p hp => hp)⟩

end
end Go.EV

namespace Go.EV
open Go.Proofs

abbrev ei (x : Int) : List Value := [vi x]
abbrev eb (b : Bool) : List Value := [vb b]

theorem flatMap_ei (xs : List Int) : xs.flatMap ei = xs.map vi := by induction xs <;> simp_all
theorem flatMap_eb (xs : List Bool) : xs.flatMap eb = xs.map vb := by induction xs <;> simp_all
theorem ok1_vi (xs : List Int) : ok1 (xs.map vi) := by
 intro v hv; obtain ⟨x, _, rfl⟩ := List.mem_map.1 hv; rfl
theorem ok1_vb (xs : List Bool) : ok1 (xs.map vb) := by
 intro v hv; obtain ⟨x, _, rfl⟩ := List.mem_map.1 hv; rfl

def evAt (p : List Ev) (i : Nat) : Ev := p[i]?.getD default
theorem evAt_eq {p : List Ev} {i : Nat} (h : i < p.length) : evAt p i = p[i] := by simp [evAt, h]

/-- The numbers below n that have a property. -/
def pickI (n : Nat) (f : Nat → Bool) : List Int := ((List.range n).filter f).map (fun (i : Nat) => (i : Int))

theorem pickI_succ (n : Nat) (f : Nat → Bool) : pickI (n + 1) f = pickI n f ++ if f n then [(n : Int)] else [] := by
 simp only [pickI, List.range_succ, List.filter_append, List.map_append]
 congr 1
 by_cases h : f n <;> simp [h]

theorem pickI_len (n : Nat) (f : Nat → Bool) : (pickI n f).length ≤ n := by
 simp only [pickI, List.length_map]
 exact Nat.le_trans (List.length_filter_le _ _) (by simp)

theorem mem_pickI {n : Nat} {f : Nat → Bool} {x : Int} : x ∈ pickI n f ↔ ∃ i : Nat, i < n ∧ f i = true ∧ x = i := by
 simp only [pickI, List.mem_map, List.mem_filter, List.mem_range]
 constructor
 ·rintro ⟨i, ⟨h1, h2⟩, rfl⟩; exact ⟨i, h1, h2, rfl⟩
 ·rintro ⟨i, h1, h2, rfl⟩; exact ⟨i, ⟨h1, h2⟩, rfl⟩

def writersI (p : List Ev) (dn : List Bool) (loc : Int) : List Int :=
 pickI p.length fun i => decide ((evAt p i).op.kind ≠ 5) && (dn[i]?.getD false) && decide ((evAt p i).op.loc = loc)

section
variable {M : PHeap}

/-- What hands back a new row of numbers. -/
def Ints (xs : List Int) (v : Value) (_ : PHeap) (G' : Own) : Prop := ∃ ov : Vec, v = osv ov xs.length ∧ osok 1 ov xs.length (xs.map vi) ∧ G' = osg 3 ov (xs.map vi)

theorem ax_pick_c (p : List Ev) (s : Value) (hs : Sl M 6 encEv s p) (hb : p.length < 1000000) (g : Nat) (caps : Array Value) (f : Nat → Bool)
  (hf : ∀ M', M.le M' → ∀ i : Nat, i < p.length → ConQ Tryz.prog g (#[vi i] ++ caps) M' (vb (f i))) :
  Con Tryz.prog 74 #[s, .func (.func g) #[] caps] M [] (Ints (pickI p.length f)) := by
 obtain ⟨a, c, rfl, hrd⟩ := hs
 refine Con.enter Q37_ok (args := [.slice a p.length c, .func (.func g) #[] caps]) (by simp [Q37]) fun w0 => ?_
 simp only [Q37, argE]
 repeat' first
   | refine EV.seq ?_
   | refine EV.block ?_
   | (refine EV.reg ?_; (conv => (arg 2; whnf)); (refine nx ?_; try with_reducible exact ⟨⟩))
   | fail
 refine EV.loopTo (fun x : Nat × Vec => ([(1, .func (.func g) #[] caps), (5, osv x.2 (pickI x.1 f).length), (8, vi p.length), (9, vi x.1)], M, osg 3 x.2 ((pickI x.1 f).map vi)))
  (fun x => x.1 ≤ p.length ∧ osok 1 x.2 (pickI x.1 f).length ((pickI x.1 f).map vi)) (fun x => p.length - x.1) (0, none) rfl ⟨Nat.zero_le _, rfl, rfl⟩ ?env1 (List.nil_sublist _) ?_
 case env1 =>
  repeat' first
   | (refine List.forall_mem_cons.2 (And.intro ?_ ?_))
   | (intro _ hnil; cases hnil; done)
   | rfl
   | fail
 rintro ⟨i, ov⟩ ⟨hi, hov⟩ ih
 dsimp only at hi hov ih ⊢
 repeat' first
   | refine EV.seq ?_
   | refine EV.skip ?_
   | refine EV.block ?_
   | (refine EV.reg ?_; (conv => (arg 2; whnf)); (refine nx ?_; try with_reducible exact ⟨⟩))
   | (refine EV.condX rfl (fun h => ?_) (fun h => ?_) <;> try exact dead h)
   | (refine EV.exit rfl ?_)
   | fail
 ·have hi' : i < p.length := by omega
  have hln := pickI_len i f
  repeat' first
    | refine EV.skip ?_
    | refine EV.inBlock ?_
    | (refine EV.reg ?_; (conv => (arg 2; whnf)); (refine nx ?_; try with_reducible exact ⟨⟩))
    | (refine ConQ.call (hf _ (PHeap.le_add _ _) i hi') ?_; try (refine nx ?_; try with_reducible exact ⟨⟩))
    | (refine EV.condX rfl (fun h => ?_) (fun h => ?_) <;> try exact dead h)
    | (with_reducible intro b; try (refine nx ?_; try with_reducible exact ⟨⟩))
    | fail
  ·refine ⟨[vi i], Or.inr ⟨b, 0, rfl, rd_own' 0 rfl rfl (by simp)⟩, by simp [ok1_cons, ok1_nil, Value.oneCell'], Or.inl ⟨ov, _, rfl, _, hov, _, cat_pull [[_], osg 3 ov _] 1 (by simp), ?_, ?_, ?_⟩⟩
   ·simp only [maxLen]; omega
   ·omega
   intro o2 ho2 _
   simp only [List.eraseIdx_cons_succ, List.eraseIdx_cons_zero, List.getElem_cons_succ, List.getElem_cons_zero, List.insertIdx_zero, List.insertIdx_succ_cons, cat_two, cat_one, cat_nil, List.nil_append, List.cons_append, List.append_assoc, List.append_nil]
   repeat' first
     | refine EV.inBlock ?_
     | (refine EV.reg ?_; (conv => (arg 2; whnf)); (refine nx ?_; try with_reducible exact ⟨⟩))
     | fail
   have e : pickI (i + 1) f = pickI i f ++ [(i : Int)] := by rw [pickI_succ, if_pos (by assumption)]
   have ih3 := ih (i + 1, o2) ⟨by dsimp only; omega, by rw [e, List.length_append, List.map_append]; exact ho2⟩ (by dsimp only; omega)
   dsimp only at ih3
   rw [e, List.length_append, List.map_append] at ih3
   refine EV.to ih3 ?_ (by (repeat' first | exact List.Sublist.refl _ | exact List.nil_sublist _ | exact List.sublist_append_left _ _ | refine List.Sublist.cons_cons _ ?_ | refine List.Sublist.append_left ?_ _ | refine List.sublist_append_of_sublist_right ?_ | refine List.Sublist.cons _ ?_))
   repeat' first
    | (refine List.forall_mem_cons.2 (And.intro ?_ ?_))
    | (intro _ hnil; cases hnil; done)
    | rfl
    | (refine env_w64 rfl (by first | rfl | (push_cast; first | rfl | omega)) (by omega) (by omega); done)
    | fail
  ·have e : pickI (i + 1) f = pickI i f := by rw [pickI_succ, if_neg (by simp_all), List.append_nil]
   have ih3 := ih (i + 1, ov) ⟨by dsimp only; omega, by rw [e]; exact hov⟩ (by dsimp only; omega)
   dsimp only at ih3
   rw [e] at ih3
   refine EV.to ih3 ?_ (by (repeat' first | exact List.Sublist.refl _ | exact List.nil_sublist _ | exact List.sublist_append_left _ _ | refine List.Sublist.cons_cons _ ?_ | refine List.Sublist.append_left ?_ _ | refine List.sublist_append_of_sublist_right ?_ | refine List.Sublist.cons _ ?_))
   repeat' first
    | (refine List.forall_mem_cons.2 (And.intro ?_ ?_))
    | (intro _ hnil; cases hnil; done)
    | rfl
    | (refine env_w64 rfl (by first | rfl | (push_cast; first | rfl | omega)) (by omega) (by omega); done)
    | fail
 ·have hi2 : i = p.length := by omega
  subst hi2
  refine EV.ret Q37_ok ?_
  simp only [wpS, wpA, wpQL, push_cast, Int.cast_ofNat_Int, reduceIte, Nat.reduceEqDiff, reduceCtorEq, Nat.reduceAdd, Nat.reduceSub, Nat.reduceMul, Int.reduceToNat, Nat.reduceLeDiff, Q37]
  exact ⟨ov, rfl, hov, rfl⟩

end
end Go.EV

namespace Go.EV
open Go.Proofs

section
variable {M : PHeap}

theorem ax_writers_S1_q (p : List Ev) (dn : List Bool) (loc : Int) {pb po pc db do' dc b1 b2 b3 : Nat} (h1 : rd M b1 0 1 [.slice (some ⟨pb, po, none⟩) p.length pc]) (h2 : rd M b2 0 1 [.slice (some ⟨db, do', none⟩) dn.length dc]) (h3 : rd M b3 0 1 [vi loc])
  (i : Nat) (hi : i < p.length) (hl : dn.length = p.length) (hp : rd M pb (po + i * 6) 6 (encEv (evAt p i))) (hd : rd M db (do' + i) 1 [vb (dn[i]?.getD false)]) :
  ConQ Tryz.prog 139 #[vi i, pv b1 0, pv b2 0, pv b3 0] M (vb (decide ((evAt p i).op.kind ≠ 5) && (dn[i]?.getD false) && decide ((evAt p i).op.loc = loc))) := by
 have hp0 := hp.pt 0 1 (by omega) rfl
 have hp1 := hp.pt 1 1 (by omega) rfl
 have hi' : (i : Int) < p.length := by omega
 have hid : (i : Int) < dn.length := by omega
 refine Con.enter Q45_ok (args := [vi i, pv b1 0, pv b2 0, pv b3 0]) (by simp [Q45]) fun w0 => ?_
 simp only [Q45, argE]
 repeat' first
   | refine EV.seq ?_
   | ((first | refine EV.reg ?_ | refine EV.any _ (List.Sublist.refl _) ?_ | fail); (conv => (arg 2; whnf)); (refine nx ?_; try with_reducible exact ⟨⟩))
   | (refine condQ.mk ?_ (fun hc => ?_) ?_; rotate_left; (try simp only [decide_eq_true_eq, decide_eq_false_iff_not, Bool.not_eq_true', Bool.not_eq_false', Bool.and_eq_true, Bool.or_eq_true, Bool.and_eq_false_iff, Bool.or_eq_false_iff] at hc))
   | (with_reducible rfl)
   | (refine EV.ret Q45_ok ?_; simp only [wpS, wpA, wpQL, push_cast, Int.cast_ofNat_Int, reduceIte, Nat.reduceEqDiff, reduceCtorEq, Nat.reduceAdd, Nat.reduceSub, Nat.reduceMul, Int.reduceToNat, Nat.reduceLeDiff, Q45])
   | (refine And.intro (by omega) ?_)
   | ((first | refine Exists.intro _ (And.intro (rd_M (by assumption)) ?_) | refine Exists.intro _ (Exists.intro _ (Exists.intro _ (And.intro (rd_M (by assumption)) ?_))) | fail); try (refine nx ?_; try with_reducible exact ⟨⟩))
   | fail
 all_goals simp_all

theorem Sl.evAt {p : List Ev} {pb po : Nat} (hat : ∀ i (hi : i < p.length), rd M pb (po + i * 6) 6 (encEv p[i])) (i : Nat) (hi : i < p.length) : rd M pb (po + i * 6) 6 (encEv (evAt p i)) := by
 rw [evAt_eq hi]; exact hat i hi

theorem ax_writers_c (p : List Ev) (s : Value) (hs : Sl M 6 encEv s p) (hb : p.length < 1000000) (dn : List Bool) (d : Value) (hd : Sl M 1 eb d dn) (hl : dn.length = p.length) (loc : Int) :
  Con Tryz.prog 110 #[s, d, vi loc] M [] fun v M' G' => ∃ G0, Ints (writersI p dn loc) v M' G0 ∧ G' = G0 := by
 obtain ⟨a, c, rfl, hrd⟩ := hs
 obtain ⟨da, dc, rfl, hrd2⟩ := hd
 refine Con.enter Q44_ok (args := [.slice a p.length c, .slice da dn.length dc, vi loc]) (by simp [Q44]) fun w0 => ?_
 simp only [Q44, argE]
 repeat' first
   | refine EV.seq ?_
   | (refine EV.reg ?_; (conv => (arg 2; whnf)); (refine nx ?_; try with_reducible exact ⟨⟩))
   | ((first | with_reducible intro b | refine xsA rfl ?_ | fail); try (refine nx ?_; try with_reducible exact ⟨⟩))
   | fail
 rename_i b1 b2
 refine CallW.frz (G3 := []) (by rw [List.append_nil]) ?_
 generalize hN : M.add _ = N
 have hMN : M.le N := hN ▸ PHeap.le_add _ _
 have hr1 : rd N b1 0 1 [.slice a p.length c] := hN ▸ rd_own' 2 rfl rfl (by simp)
 have hr2 : rd N b2 0 1 [.slice da dn.length dc] := hN ▸ rd_own' 1 rfl rfl (by simp)
 have hr3 : rd N b 0 1 [vi loc] := hN ▸ rd_own' 0 rfl rfl (by simp)
 clear hN
 refine Con.callA (G1 := []) (ax_pick_c p _ ⟨_, _, rfl, hrd.mono hMN⟩ hb _ _ (fun i => decide ((evAt p i).op.kind ≠ 5) && (dn[i]?.getD false) && decide ((evAt p i).op.loc = loc)) ?_) (List.Perm.refl _) ?_
 ·intro M' hM' i hi
  have h0 : 0 < p.length := by omega
  obtain ⟨pb, po, rfl, hat⟩ := Sl.at (enc := encEv) (fun _ => rfl) (by omega) hrd h0
  obtain ⟨db, do', rfl, hat2⟩ := Sl.at (sz := 1) (enc := eb) (fun _ => rfl) (by decide) hrd2 (by rw [hl]; exact h0)
  have hle := PHeap.le_trans hMN hM'
  have q2 := hat2 i (by omega)
  rw [Nat.mul_one] at q2
  refine ax_writers_S1_q p dn loc (hr1.mono hM') (hr2.mono hM') (hr3.mono hM') i hi hl ((Sl.evAt hat i hi).mono hle) ?_
  have : dn[i]?.getD false = dn[i] := by rw [List.getElem?_eq_getElem (by omega)]; rfl
  rw [this]; exact q2.mono hle
 ·rintro v M' G' hM' hv
  obtain ⟨ov, rfl, hov, rfl⟩ := hv
  simp only [wpS, wpA, wpQL, push_cast, Int.cast_ofNat_Int, reduceIte, Nat.reduceEqDiff, reduceCtorEq, Nat.reduceAdd, Nat.reduceSub, Nat.reduceMul, Int.reduceToNat, Nat.reduceLeDiff]
  repeat' first
    | fail
  refine EV.ret Q44_ok ?_
  simp only [wpS, wpA, wpQL, push_cast, Int.cast_ofNat_Int, reduceIte, Nat.reduceEqDiff, reduceCtorEq, Nat.reduceAdd, Nat.reduceSub, Nat.reduceMul, Int.reduceToNat, Nat.reduceLeDiff, Q44]
  exact ⟨_, ⟨ov, rfl, hov, rfl⟩, rfl⟩

end
end Go.EV

namespace Go.EV
open Go.Proofs

structure Wd where
 r : List Int
 w : List Int
 k : List Bool
 t : List Bool

def wdRead (p : List Ev) (f : List Int) (s : Wd) (i : Nat) : Wd :=
 if (evAt p i).reads && decide (f[i]?.getD 0 = -1) then { s with k := s.k.set i true }
 else if (evAt p i).reads && (s.t[(f[i]?.getD 0).toNat]?.getD false) then { s with r := s.r.set i (s.w[(f[i]?.getD 0).toNat]?.getD 0), k := s.k.set i true } else s
def wdWrite (p : List Ev) (s : Wd) (i : Nat) : Wd :=
 if (evAt p i).op.kind = 1 then { s with w := s.w.set i (evAt p i).op.v, t := s.t.set i true }
 else if (evAt p i).op.kind = 2 then { s with w := s.w.set i (IntKind.i64.wrap (s.r[i]?.getD 0 + (evAt p i).op.v)), t := s.t.set i (s.k[i]?.getD false) }
 else if (evAt p i).op.kind = 3 ∨ (evAt p i).op.kind = 4 then { s with w := s.w.set i (evAt p i).op.w, t := s.t.set i true } else s
def wdStep (p : List Ev) (f : List Int) (s : Wd) (i : Nat) : Wd := wdWrite p (wdRead p f s i) i
def wdRow (p : List Ev) (f : List Int) (s : Wd) : Nat → Wd
 | 0 => s
 | n + 1 => wdStep p f (wdRow p f s n) n
def wd0 (n : Nat) : Wd := ⟨List.replicate n 0, List.replicate n 0, List.replicate n false, List.replicate n false⟩
def wdIter (p : List Ev) (f : List Int) : Nat → Wd
 | 0 => wd0 p.length
 | k + 1 => wdRow p f (wdIter p f k) p.length
def wordsP (p : List Ev) (f : List Int) : Wd := wdIter p f (p.length + 1)

structure Wd.Len (s : Wd) (n : Nat) : Prop where
 r : s.r.length = n
 w : s.w.length = n
 k : s.k.length = n
 t : s.t.length = n

theorem wdRead_len {p : List Ev} {f : List Int} {s : Wd} {i n : Nat} (h : s.Len n) : (wdRead p f s i).Len n := by
 unfold wdRead
 split
 ·exact ⟨h.r, h.w, by simp [h.k], h.t⟩
 ·split
  ·exact ⟨by simp [h.r], h.w, by simp [h.k], h.t⟩
  ·exact h
theorem wdWrite_len {p : List Ev} {s : Wd} {i n : Nat} (h : s.Len n) : (wdWrite p s i).Len n := by
 unfold wdWrite
 split
 ·exact ⟨h.r, by simp [h.w], h.k, by simp [h.t]⟩
 ·split
  ·exact ⟨h.r, by simp [h.w], h.k, by simp [h.t]⟩
  ·split
   ·exact ⟨h.r, by simp [h.w], h.k, by simp [h.t]⟩
   ·exact h
theorem wdStep_len {p : List Ev} {f : List Int} {s : Wd} {i n : Nat} (h : s.Len n) : (wdStep p f s i).Len n := wdWrite_len (wdRead_len h)
theorem wd0_len (n : Nat) : (wd0 n).Len n := by constructor <;> simp [wd0]

theorem wdRow_len {p : List Ev} {f : List Int} {s : Wd} {n : Nat} (h : s.Len n) : ∀ i, (wdRow p f s i).Len n
 | 0 => h
 | i + 1 => wdStep_len (wdRow_len h i)
theorem wdIter_len (p : List Ev) (f : List Int) : ∀ k, (wdIter p f k).Len p.length
 | 0 => wd0_len _
 | k + 1 => wdRow_len (wdIter_len p f k) _

/-- Where events read from, so far as the words ask. -/
def FromOk (p : List Ev) (f : List Int) : Prop := f.length = p.length ∧ ∀ i, i < p.length → (evAt p i).reads = true → f[i]?.getD 0 = -1 ∨ (0 ≤ f[i]?.getD 0 ∧ f[i]?.getD 0 < p.length)

/-- The rows while the words are reckoned. -/
abbrev wdG (s : Wd) (xb rb wb kb tb : Nat) (f d o n : Value) : Own :=
 [(tb, Cl 4 (s.t.map vb)), (rb, Cl 3 (s.r.map vi)), (wb, Cl 3 (s.w.map vi)), (kb, Cl 4 (s.k.map vb)), (xb, Cl 45 [f, d, o, n])]

section
variable {M : PHeap}

theorem flatten_rep {α : Type} (n : Nat) (v : α) : (List.replicate n [v]).flatten = List.replicate n v := by simp

set_option maxHeartbeats 4000000 in
theorem ax_words_c (p : List Ev) (s : Value) (hs : Sl M 6 encEv s p) (hb : p.length < 1000000) (fr : List Int) (f d o n : Value) (hf : Sl M 1 ei f fr) (hfo : FromOk p fr) :
  Con Tryz.prog 85 #[s, .agg #[f, d, o, n]] M [] fun v M' _ => ∃ rv wv kv, v = .tuple #[rv, wv, kv] ∧ Sl M' 1 ei rv (wordsP p fr).r ∧ Sl M' 1 ei wv (wordsP p fr).w ∧ Sl M' 1 eb kv (wordsP p fr).k := by
 obtain ⟨a, c, rfl, hrd⟩ := hs
 obtain ⟨fa, fc, rfl, hrf⟩ := hf
 obtain ⟨hfl, hfo⟩ := hfo
 refine Con.enter Q43_ok (args := [.slice a p.length c, .agg #[.slice fa fr.length fc, d, o, n]]) (by simp [Q43]) fun w0 => ?_
 simp only [Q43, argE]
 refine EV.seq (EV.reg ?_)
 simp only [wpS, wpA, wpQL, push_cast, Int.cast_ofNat_Int, reduceIte, Nat.reduceEqDiff, reduceCtorEq, Nat.reduceAdd, Nat.reduceSub, Nat.reduceMul, Int.reduceToNat, Nat.reduceLeDiff, Q43_0]
 intro xb
 refine EV.seq (EV.thru (fun ρ' M' G' => ∃ rb wb kb, M' = M ∧ get ρ' 0 = some (.slice a p.length c) ∧ get ρ' 3 = some (pv xb 0) ∧ get ρ' 4 = some (vrow rb p.length p.length) ∧ get ρ' 5 = some (vrow wb p.length p.length) ∧ get ρ' 6 = some (vrow kb p.length p.length) ∧
  G' = [(rb, Cl 3 (List.replicate p.length (vi 0))), (wb, Cl 3 (List.replicate p.length (vi 0))), (kb, Cl 4 (List.replicate p.length (vb false))), (xb, Cl 45 [.slice fa fr.length fc, d, o, n])]) ?_ ?_)
 ·intro k' key
  repeat' first
    | (refine EV.any _ (List.Sublist.refl _) ?_; (conv => (arg 2; whnf)); simp only [wpS, wpA, wpQL, push_cast, Int.cast_ofNat_Int, reduceIte, Nat.reduceEqDiff, reduceCtorEq, Nat.reduceAdd, Nat.reduceSub, Nat.reduceMul, Int.reduceToNat, Nat.reduceLeDiff, flatten_rep])
    | (with_reducible intro b; try simp only [wpS, wpA, wpQL, push_cast, Int.cast_ofNat_Int, reduceIte, Nat.reduceEqDiff, reduceCtorEq, Nat.reduceAdd, Nat.reduceSub, Nat.reduceMul, Int.reduceToNat, Nat.reduceLeDiff, flatten_rep])
    | (refine And.intro (by omega) ?_)
    | (refine And.intro (PHeap.le_refl _) (And.intro (fun p hp => List.mem_cons_of_mem _ hp) ?_))
    | (refine And.intro (PHeap.le_refl _) (And.intro (fun p hp => List.mem_cons_of_mem _ (List.mem_cons_of_mem _ hp)) ?_))
    | (refine And.intro (PHeap.le_refl _) (And.intro (mem_of_sub ?_) ?_); focus ((repeat' first | exact List.Sublist.refl _ | exact List.nil_sublist _ | exact List.sublist_append_left _ _ | refine List.Sublist.cons_cons _ ?_ | refine List.Sublist.append_left ?_ _ | refine List.sublist_append_of_sublist_right ?_ | refine List.Sublist.cons _ ?_); done); try simp only [wpS, wpA, wpQL, push_cast, Int.cast_ofNat_Int, reduceIte, Nat.reduceEqDiff, reduceCtorEq, Nat.reduceAdd, Nat.reduceSub, Nat.reduceMul, Int.reduceToNat, Nat.reduceLeDiff, flatten_rep])
    | refine And.intro ?_ ?_
    | fail
  all_goals exact EV.reS (key _ _ _ ⟨_, _, _, rfl, rfl, rfl, rfl, rfl, rfl, rfl⟩)
 rintro ρ1 M1 G1 ⟨rb, wb, kb, rfl, e0, e3, e4, e5, e6, rfl⟩
 refine EV.toS (ρ' := [(0, .slice a p.length c), (3, pv xb 0), (4, vrow rb p.length p.length), (5, vrow wb p.length p.length), (6, vrow kb p.length p.length)])
  (G' := [(rb, Cl 3 (List.replicate p.length (vi 0))), (wb, Cl 3 (List.replicate p.length (vi 0))), (kb, Cl 4 (List.replicate p.length (vb false))), (xb, Cl 45 [.slice fa fr.length fc, d, o, n])]) ?_
  (by simp only [List.forall_mem_cons]; exact ⟨e0, e3, e4, e5, e6, fun _ h => nomatch h⟩)
 clear e0 e3 e4 e5 e6
 repeat' first
   | refine EV.seq ?_
   | refine EV.block ?_
   | (refine EV.reg ?_; (conv => (arg 2; whnf)); simp only [wpS, wpA, wpQL, push_cast, Int.cast_ofNat_Int, reduceIte, Nat.reduceEqDiff, reduceCtorEq, Nat.reduceAdd, Nat.reduceSub, Nat.reduceMul, Int.reduceToNat, Nat.reduceLeDiff, flatten_rep])
   | (with_reducible intro b; try simp only [wpS, wpA, wpQL, push_cast, Int.cast_ofNat_Int, reduceIte, Nat.reduceEqDiff, reduceCtorEq, Nat.reduceAdd, Nat.reduceSub, Nat.reduceMul, Int.reduceToNat, Nat.reduceLeDiff, flatten_rep])
   | (refine And.intro (by omega) ?_)
   | fail
 rename Nat => tb
 have hw1 : IntKind.i64.wrap ((p.length : Int) + 1) = (p.length : Int) + 1 := w64 (by omega) (by omega)
 rw [hw1]
 refine EV.loopTo (fun x : Nat => ([(0, .slice a p.length c), (3, pv xb 0), (4, vrow rb p.length p.length), (5, vrow wb p.length p.length), (6, vrow kb p.length p.length), (7, vrow tb p.length p.length), (25, vi ((p.length : Int) + 1)), (26, vi x)], M1,
   wdG (wdIter p fr x) xb rb wb kb tb (.slice fa fr.length fc) d o n))
  (fun x => x ≤ p.length + 1) (fun x => p.length + 1 - x) 0 rfl (Nat.zero_le _) ?env1 ?sub1 ?_
 case env1 =>
  repeat' first
   | (refine List.forall_mem_cons.2 (And.intro ?_ ?_))
   | (intro _ hnil; cases hnil; done)
   | rfl
   | fail
 case sub1 =>
  simp only [wdG, wdIter, wd0, List.map_replicate]
  exact List.Sublist.refl _
 intro x hx ih
 dsimp only at hx ih ⊢
 repeat' first
   | refine EV.seq ?_
   | refine EV.skip ?_
   | refine EV.block ?_
   | (refine EV.reg ?_; (conv => (arg 2; whnf)); (refine nx ?_; try with_reducible exact ⟨⟩))
   | (refine EV.condX rfl (fun h => ?_) (fun h => ?_) <;> try exact dead h)
   | (refine EV.exit rfl ?_)
   | fail
 ·generalize hsx : wdIter p fr x = sx at *
  have hlx : sx.Len p.length := hsx ▸ wdIter_len p fr x
  refine EV.loopTo (fun i : Nat => ([(0, .slice a p.length c), (3, pv xb 0), (4, vrow rb p.length p.length), (5, vrow wb p.length p.length), (6, vrow kb p.length p.length), (7, vrow tb p.length p.length), (25, vi ((p.length : Int) + 1)), (26, vi x), (28, .slice a p.length c), (29, vi p.length), (30, vi i)], M1,
    wdG (wdRow p fr sx i) xb rb wb kb tb (.slice fa fr.length fc) d o n))
   (fun i => i ≤ p.length) (fun i => p.length - i) 0 rfl (Nat.zero_le _) ?env2 (List.Sublist.refl _) ?_
  case env2 =>
   repeat' first
    | (refine List.forall_mem_cons.2 (And.intro ?_ ?_))
    | (intro _ hnil; cases hnil; done)
    | rfl
    | fail
  intro i hi ih2
  dsimp only at hi ih2 ⊢
  repeat' first
    | refine EV.seq ?_
    | refine EV.skip ?_
    | refine EV.block ?_
    | refine EV.inBlock ?_
    | (refine EV.reg ?_; (conv => (arg 2; whnf)); (refine nx ?_; try with_reducible exact ⟨⟩))
    | (refine EV.condX rfl (fun h => ?_) (fun h => ?_) <;> try exact dead h)
    | (refine EV.exit rfl ?_)
    | fail
  ·have hi' : i < p.length := by omega
   obtain ⟨pb, po, rfl, hat⟩ := Sl.at (enc := encEv) (fun _ => rfl) (by omega) hrd (by omega)
   obtain ⟨fb, fo, rfl, hat2⟩ := Sl.at (sz := 1) (enc := ei) (fun _ => rfl) (by decide) hrf (by omega)
   have hpi := Sl.evAt hat i hi'
   have hfi : rd M1 fb (fo + i) 1 [vi (fr[i]?.getD 0)] := by
    have := hat2 i (by omega)
    rw [Nat.mul_one] at this
    rwa [List.getElem?_eq_getElem (by omega : i < fr.length)]
   have hwr := hfo i hi'
   have hiI : (i : Int) < fr.length := by omega
   generalize hsi : wdRow p fr sx i = s at *
   have hls : s.Len p.length := hsi ▸ wdRow_len hlx i
   have hstep : wdRow p fr sx (i + 1) = wdWrite p (wdRead p fr s i) i := by simp only [wdRow, hsi, wdStep]
   have hlr := hls.r
   have hlw := hls.w
   have hlk := hls.k
   have hlt := hls.t
   have hri : i < s.r.length := by omega
   have hki : i < s.k.length := by omega
   have ih3 := ih2 (i + 1) (by omega) (by omega)
   rw [hstep] at ih3
   clear ih ih2 hat hat2 hrd hrf
   repeat' first
     | (with_reducible intro b; try (refine nx ?_; try with_reducible exact ⟨⟩))
     | (refine And.intro (by omega) ?_)
     | (refine Exists.intro _ (And.intro (rd_M (by assumption)) ?_); try (refine nx ?_; try with_reducible exact ⟨⟩))
     | (refine xw ?_; (refine nx ?_; try with_reducible exact ⟨⟩))
     | fail
   rename Nat => eb0
   refine EV.seq (EV.thru (fun ρ' M' G' => M' = M1 ∧ (∀ q ∈ [(0, .slice (some ⟨pb, po, none⟩) p.length c), (3, pv xb 0), (4, vrow rb p.length p.length), (5, vrow wb p.length p.length), (6, vrow kb p.length p.length), (7, vrow tb p.length p.length), (8, vi i), (9, pv eb0 0), (25, vi ((p.length : Int) + 1)), (26, vi x), (28, .slice (some ⟨pb, po, none⟩) p.length c), (29, vi p.length), (30, vi i)], get ρ' q.1 = some q.2) ∧
    G' = (eb0, Cl 121 (encEv (evAt p i))) :: wdG (wdRead p fr s i) xb rb wb kb tb (.slice (some ⟨fb, fo, none⟩) fr.length fc) d o n) ?_ ?_)
   ·intro k' key
    clear ih3
    cases hre : (evAt p i).reads with
    | false =>
     have e1 : wdRead p fr s i = s := by simp [wdRead, hre]
     rw [e1] at key
     repeat' first
       | refine EV.seq ?_
       | refine EV.skip ?_
       | refine EV.block ?_
       | refine EV.inBlock ?_
       | (refine EV.reg ?_; (conv => (arg 2; whnf)); simp only [wpS, wpA, wpQL, push_cast, Int.cast_ofNat_Int, reduceIte, Nat.reduceEqDiff, reduceCtorEq, Nat.reduceAdd, Nat.reduceSub, Nat.reduceMul, Int.reduceToNat, Nat.reduceLeDiff, hre, Bool.false_and, Bool.true_and])
       | (refine ConQ.call (ax_reads_q (evAt p i)) ?_; try simp only [wpS, wpA, wpQL, push_cast, Int.cast_ofNat_Int, reduceIte, Nat.reduceEqDiff, reduceCtorEq, Nat.reduceAdd, Nat.reduceSub, Nat.reduceMul, Int.reduceToNat, Nat.reduceLeDiff, hre, Bool.false_and, Bool.true_and])
       | with_reducible assumption
       | (refine condW.merge ?_ (fun hc K' hK => ?_) ?_; rotate_left)
       | (refine EV.condX rfl (fun h => ?_) (fun h => ?_) <;> try exact dead h)
       | (refine And.intro (by omega) ?_)
       | ((first | refine Exists.intro _ (And.intro (rd_M (by assumption)) ?_) | refine xrA rfl ?_ | refine xsA rfl ?_ | fail); try simp only [wpS, wpA, wpQL, push_cast, Int.cast_ofNat_Int, reduceIte, Nat.reduceEqDiff, reduceCtorEq, Nat.reduceAdd, Nat.reduceSub, Nat.reduceMul, Int.reduceToNat, Nat.reduceLeDiff, hre, Bool.false_and, Bool.true_and])
       | (exfalso; simp at hc; done)
       | exact false
       | fail
     refine key _ _ _ ⟨rfl, ?_, rfl⟩
     repeat' first
      | (refine List.forall_mem_cons.2 (And.intro ?_ ?_))
      | (intro _ hnil; cases hnil; done)
      | rfl
      | fail
    | true =>
     have hwr := hwr hre
     by_cases hm1 : fr[i]?.getD 0 = -1
     ·have e1 : wdRead p fr s i = { s with k := s.k.set i true } := by simp [wdRead, hre, hm1]
      rw [e1] at key
      repeat' first
        | refine EV.seq ?_
        | refine EV.block ?_
        | refine EV.inBlock ?_
        | (refine EV.reg ?_; (conv => (arg 2; whnf)); simp only [wpS, wpA, wpQL, push_cast, Int.cast_ofNat_Int, reduceIte, Nat.reduceEqDiff, reduceCtorEq, Nat.reduceAdd, Nat.reduceSub, Nat.reduceMul, Int.reduceToNat, Nat.reduceLeDiff, hre, Bool.false_and, Bool.true_and, row_st, List.length_map, hlr, hlw, hlk, hlt, hi'])
        | (refine ConQ.call (ax_reads_q (evAt p i)) ?_; try simp only [wpS, wpA, wpQL, push_cast, Int.cast_ofNat_Int, reduceIte, Nat.reduceEqDiff, reduceCtorEq, Nat.reduceAdd, Nat.reduceSub, Nat.reduceMul, Int.reduceToNat, Nat.reduceLeDiff, hre, Bool.false_and, Bool.true_and, row_st, List.length_map, hlr, hlw, hlk, hlt, hi'])
        | with_reducible assumption
        | (refine condW.merge ?_ (fun hc K' hK => ?_) ?_; rotate_left)
        | (refine EV.condX rfl (fun h => ?_) (fun h => ?_) <;> try exact dead h)
        | (refine And.intro (by omega) ?_)
        | ((first | refine Exists.intro _ (And.intro (rd_M (by assumption)) ?_) | refine xrA rfl ?_ | refine xsA rfl ?_ | fail); try simp only [wpS, wpA, wpQL, push_cast, Int.cast_ofNat_Int, reduceIte, Nat.reduceEqDiff, reduceCtorEq, Nat.reduceAdd, Nat.reduceSub, Nat.reduceMul, Int.reduceToNat, Nat.reduceLeDiff, hre, Bool.false_and, Bool.true_and, row_st, List.length_map, hlr, hlw, hlk, hlt, hi'])
        | (refine xw ?_; simp only [wpS, wpA, wpQL, push_cast, Int.cast_ofNat_Int, reduceIte, Nat.reduceEqDiff, reduceCtorEq, Nat.reduceAdd, Nat.reduceSub, Nat.reduceMul, Int.reduceToNat, Nat.reduceLeDiff, hre, Bool.false_and, Bool.true_and, row_st, List.length_map, hlr, hlw, hlk, hlt, hi'])
        | fail
      refine key _ _ _ ⟨rfl, ?_, rfl⟩
      repeat' first
       | (refine List.forall_mem_cons.2 (And.intro ?_ ?_))
       | (intro _ hnil; cases hnil; done)
       | rfl
       | fail
     ·have hge := hwr.resolve_left hm1
      have hft : (fr[i]?.getD 0).toNat < s.t.length := by omega
      have hfw : (fr[i]?.getD 0).toNat < s.w.length := by omega
      have et : s.t[(fr[i]?.getD 0).toNat]?.getD false = s.t[(fr[i]?.getD 0).toNat] := by rw [List.getElem?_eq_getElem hft]; rfl
      have ew : s.w[(fr[i]?.getD 0).toNat]?.getD 0 = s.w[(fr[i]?.getD 0).toNat] := by rw [List.getElem?_eq_getElem hfw]; rfl
      have e1 : wdRead p fr s i = if s.t[(fr[i]?.getD 0).toNat] = true then { s with r := s.r.set i (s.w[(fr[i]?.getD 0).toNat]), k := s.k.set i true } else s := by
       simp only [wdRead, hre, hm1, et, ew]; simp
      rw [e1] at key
      clear et ew e1
      repeat' first
        | refine EV.seq ?_
        | refine EV.skip ?_
        | refine EV.block ?_
        | refine EV.inBlock ?_
        | (refine EV.reg ?_; (conv => (arg 2; whnf)); simp only [wpS, wpA, wpQL, push_cast, Int.cast_ofNat_Int, reduceIte, Nat.reduceEqDiff, reduceCtorEq, Nat.reduceAdd, Nat.reduceSub, Nat.reduceMul, Int.reduceToNat, Nat.reduceLeDiff, hre, Bool.false_and, Bool.true_and, row_st, List.length_map, hlr, hlw, hlk, hlt, hi'])
        | ((first | refine Exists.intro _ (And.intro (rowAt (f := vi) hfw) ?_) | refine Exists.intro _ (And.intro (rowAt (f := vb) hft) ?_) | refine ConQ.call (ax_reads_q (evAt p i)) ?_ | fail); try simp only [wpS, wpA, wpQL, push_cast, Int.cast_ofNat_Int, reduceIte, Nat.reduceEqDiff, reduceCtorEq, Nat.reduceAdd, Nat.reduceSub, Nat.reduceMul, Int.reduceToNat, Nat.reduceLeDiff, hre, Bool.false_and, Bool.true_and, row_st, List.length_map, hlr, hlw, hlk, hlt, hi'])
        | with_reducible assumption
        | (refine condW.merge ?_ (fun hc K' hK => ?_) ?_; rotate_left)
        | (refine EV.condX rfl (fun h => ?_) (fun h => ?_) <;> try exact dead h)
        | (refine And.intro (by omega) ?_)
        | ((first | refine Exists.intro _ (And.intro (rd_M (by assumption)) ?_) | refine xrA rfl ?_ | refine xsA rfl ?_ | fail); try simp only [wpS, wpA, wpQL, push_cast, Int.cast_ofNat_Int, reduceIte, Nat.reduceEqDiff, reduceCtorEq, Nat.reduceAdd, Nat.reduceSub, Nat.reduceMul, Int.reduceToNat, Nat.reduceLeDiff, hre, Bool.false_and, Bool.true_and, row_st, List.length_map, hlr, hlw, hlk, hlt, hi'])
        | (refine xw ?_; simp only [wpS, wpA, wpQL, push_cast, Int.cast_ofNat_Int, reduceIte, Nat.reduceEqDiff, reduceCtorEq, Nat.reduceAdd, Nat.reduceSub, Nat.reduceMul, Int.reduceToNat, Nat.reduceLeDiff, hre, Bool.false_and, Bool.true_and, row_st, List.length_map, hlr, hlw, hlk, hlt, hi'])
        | fail
      ·rw [if_pos (by assumption)] at key
       refine key _ _ _ ⟨rfl, ?_, rfl⟩
       repeat' first
        | (refine List.forall_mem_cons.2 (And.intro ?_ ?_))
        | (intro _ hnil; cases hnil; done)
        | rfl
        | fail
      ·rw [if_neg (by simp_all)] at key
       refine key _ _ _ ⟨rfl, ?_, rfl⟩
       repeat' first
        | (refine List.forall_mem_cons.2 (And.intro ?_ ?_))
        | (intro _ hnil; cases hnil; done)
        | rfl
        | fail
   rintro ρ2 M2 G2 ⟨rfl, hq, rfl⟩
   refine EV.toS (G' := (eb0, Cl 121 (encEv (evAt p i))) :: wdG (wdRead p fr s i) xb rb wb kb tb (.slice (some ⟨fb, fo, none⟩) fr.length fc) d o n) ?_ hq
   clear hq
   have hls2 : (wdRead p fr s i).Len p.length := wdRead_len hls
   generalize wdRead p fr s i = s2 at *
   have hlr2 := hls2.r
   have hlw2 := hls2.w
   have hlk2 := hls2.k
   have hlt2 := hls2.t
   have hri2 : i < s2.r.length := by omega
   have hki2 : i < s2.k.length := by omega
   have er : s2.r[i]?.getD 0 = s2.r[i] := by rw [List.getElem?_eq_getElem hri2]; rfl
   have ek : s2.k[i]?.getD false = s2.k[i] := by rw [List.getElem?_eq_getElem hki2]; rfl
   have e1 : wdWrite p s2 i = if (evAt p i).op.kind = 1 then { s2 with w := s2.w.set i (evAt p i).op.v, t := s2.t.set i true }
    else if (evAt p i).op.kind = 2 then { s2 with w := s2.w.set i (IntKind.i64.wrap (s2.r[i] + (evAt p i).op.v)), t := s2.t.set i s2.k[i] }
    else if (evAt p i).op.kind = 3 ∨ (evAt p i).op.kind = 4 then { s2 with w := s2.w.set i (evAt p i).op.w, t := s2.t.set i true } else s2 := by simp only [wdWrite, er, ek]
   rw [e1] at ih3
   clear er ek e1 hwr hfi hfo
   repeat' first
     | refine EV.seq ?_
     | refine EV.skip ?_
     | refine EV.block ?_
     | refine EV.inBlock ?_
     | (refine EV.reg ?_; (conv => (arg 2; whnf)); simp only [wpS, wpA, wpQL, push_cast, Int.cast_ofNat_Int, reduceIte, Nat.reduceEqDiff, reduceCtorEq, Nat.reduceAdd, Nat.reduceSub, Nat.reduceMul, Int.reduceToNat, Nat.reduceLeDiff, row_st, List.length_map, hlr2, hlw2, hlk2, hlt2, hi'])
     | (refine EV.condX rfl (fun h => ?_) (fun h => ?_) <;> try exact dead h)
     | (refine And.intro (by omega) ?_)
     | (refine xiA rfl ?_; try simp only [wpS, wpA, wpQL, push_cast, Int.cast_ofNat_Int, reduceIte, Nat.reduceEqDiff, reduceCtorEq, Nat.reduceAdd, Nat.reduceSub, Nat.reduceMul, Int.reduceToNat, Nat.reduceLeDiff, row_st, List.length_map, hlr2, hlw2, hlk2, hlt2, hi'])
     | (refine xw ?_; simp only [wpS, wpA, wpQL, push_cast, Int.cast_ofNat_Int, reduceIte, Nat.reduceEqDiff, reduceCtorEq, Nat.reduceAdd, Nat.reduceSub, Nat.reduceMul, Int.reduceToNat, Nat.reduceLeDiff, row_st, List.length_map, hlr2, hlw2, hlk2, hlt2, hi'])
     | fail
   rotate_left
   ·refine EV.any (t := Q43_17) [(eb0, Cl 121 (encEv (evAt p i))), (rb, Cl 3 (s2.r.map vi)), (kb, Cl 4 (s2.k.map vb))] (by (repeat' first | exact List.Sublist.refl _ | exact List.nil_sublist _ | exact List.sublist_append_left _ _ | refine List.Sublist.cons_cons _ ?_ | refine List.Sublist.append_left ?_ _ | refine List.sublist_append_of_sublist_right ?_ | refine List.Sublist.cons _ ?_)) ?_
    simp only [wpS, wpA, wpQL, push_cast, Int.cast_ofNat_Int, reduceIte, Nat.reduceEqDiff, reduceCtorEq, Nat.reduceAdd, Nat.reduceSub, Nat.reduceMul, Int.reduceToNat, Nat.reduceLeDiff, Q43_17]
    repeat' first
      | refine EV.inBlock ?_
      | (refine EV.reg ?_; (conv => (arg 2; whnf)); simp only [wpS, wpA, wpQL, push_cast, Int.cast_ofNat_Int, reduceIte, Nat.reduceEqDiff, reduceCtorEq, Nat.reduceAdd, Nat.reduceSub, Nat.reduceMul, Int.reduceToNat, Nat.reduceLeDiff, row_st, List.length_map, hlr2, hlw2, hlk2, hlt2, hi'])
      | ((first | refine Exists.intro _ (And.intro (rowAt (f := vb) (i := i) hki2) ?_) | refine Exists.intro _ (And.intro (rowAt (f := vi) (i := i) hri2) ?_) | fail); try simp only [wpS, wpA, wpQL, push_cast, Int.cast_ofNat_Int, reduceIte, Nat.reduceEqDiff, reduceCtorEq, Nat.reduceAdd, Nat.reduceSub, Nat.reduceMul, Int.reduceToNat, Nat.reduceLeDiff, row_st, List.length_map, hlr2, hlw2, hlk2, hlt2, hi'])
      | (refine And.intro (by omega) ?_)
      | (refine xiA rfl ?_; try simp only [wpS, wpA, wpQL, push_cast, Int.cast_ofNat_Int, reduceIte, Nat.reduceEqDiff, reduceCtorEq, Nat.reduceAdd, Nat.reduceSub, Nat.reduceMul, Int.reduceToNat, Nat.reduceLeDiff, row_st, List.length_map, hlr2, hlw2, hlk2, hlt2, hi'])
      | (refine xw ?_; simp only [wpS, wpA, wpQL, push_cast, Int.cast_ofNat_Int, reduceIte, Nat.reduceEqDiff, reduceCtorEq, Nat.reduceAdd, Nat.reduceSub, Nat.reduceMul, Int.reduceToNat, Nat.reduceLeDiff, row_st, List.length_map, hlr2, hlw2, hlk2, hlt2, hi'])
      | (refine And.intro (PHeap.le_refl _) (And.intro (mem_of_sub ?_) ?_); focus ((repeat' first | exact List.Sublist.refl _ | exact List.nil_sublist _ | exact List.sublist_append_left _ _ | refine List.Sublist.cons_cons _ ?_ | refine List.Sublist.append_left ?_ _ | refine List.sublist_append_of_sublist_right ?_ | refine List.Sublist.cons _ ?_); done); try simp only [wpS, wpA, wpQL, push_cast, Int.cast_ofNat_Int, reduceIte, Nat.reduceEqDiff, reduceCtorEq, Nat.reduceAdd, Nat.reduceSub, Nat.reduceMul, Int.reduceToNat, Nat.reduceLeDiff, row_st, List.length_map, hlr2, hlw2, hlk2, hlt2, hi'])
      | fail
    rw [if_neg (show ¬ (evAt p i).op.kind = 1 by assumption), if_pos (show (evAt p i).op.kind = 2 by assumption)] at ih3
    refine EV.toS ih3 ?_
    repeat' first
     | (refine List.forall_mem_cons.2 (And.intro ?_ ?_))
     | (intro _ hnil; cases hnil; done)
     | rfl
     | (refine env_w64 rfl (by first | rfl | (push_cast; first | rfl | omega)) (by omega) (by omega); done)
     | fail
   all_goals
    first
     | rw [if_pos (show (evAt p i).op.kind = 1 by assumption)] at ih3
     | rw [if_neg (show ¬ (evAt p i).op.kind = 1 by assumption), if_pos (show (evAt p i).op.kind = 2 by assumption)] at ih3
     | rw [if_neg (show ¬ (evAt p i).op.kind = 1 by assumption), if_neg (show ¬ (evAt p i).op.kind = 2 by assumption), if_pos (show (evAt p i).op.kind = 3 ∨ (evAt p i).op.kind = 4 by omega)] at ih3
     | rw [if_neg (show ¬ (evAt p i).op.kind = 1 by assumption), if_neg (show ¬ (evAt p i).op.kind = 2 by assumption), if_neg (show ¬ ((evAt p i).op.kind = 3 ∨ (evAt p i).op.kind = 4) by omega)] at ih3
    refine EV.toS ih3 ?_
    repeat' first
     | (refine List.forall_mem_cons.2 (And.intro ?_ ?_))
     | (intro _ hnil; cases hnil; done)
     | rfl
     | (refine env_w64 rfl (by first | rfl | (push_cast; first | rfl | omega)) (by omega) (by omega); done)
     | fail
  ·have hi2 : i = p.length := by omega
   subst hi2
   have ih3 := ih (x + 1) (by omega) (by omega)
   simp only [wdIter, hsx] at ih3
   refine EV.toS ih3 ?_
   repeat' first
    | (refine List.forall_mem_cons.2 (And.intro ?_ ?_))
    | (intro _ hnil; cases hnil; done)
    | rfl
    | (refine env_w64 rfl (by first | rfl | (push_cast; first | rfl | omega)) (by omega) (by omega); done)
    | fail
 ·have hx2 : x = p.length + 1 := by omega
  subst hx2
  have hlx := wdIter_len p fr (p.length + 1)
  refine EV.frz (wdG (wdIter p fr (p.length + 1)) xb rb wb kb tb (.slice fa fr.length fc) d o n) ?_
  refine EV.ret Q43_ok ?_
  simp only [wpS, wpA, wpQL, push_cast, Int.cast_ofNat_Int, reduceIte, Nat.reduceEqDiff, reduceCtorEq, Nat.reduceAdd, Nat.reduceSub, Nat.reduceMul, Int.reduceToNat, Nat.reduceLeDiff, Q43]
  have er := hlx.r
  have ew := hlx.w
  have ek := hlx.k
  refine ⟨vrow rb p.length p.length, vrow wb p.length p.length, vrow kb p.length p.length, rfl, ⟨some ⟨rb, 0, none⟩, p.length, by rw [wordsP, er], Or.inr ⟨rb, 0, rfl, ?_⟩⟩, ⟨some ⟨wb, 0, none⟩, p.length, by rw [wordsP, ew], Or.inr ⟨wb, 0, rfl, ?_⟩⟩, ⟨some ⟨kb, 0, none⟩, p.length, by rw [wordsP, ek], Or.inr ⟨kb, 0, rfl, ?_⟩⟩⟩
  ·exact rd_own' 1 rfl (by rw [flatMap_ei, wordsP, Nat.mul_one, List.drop_zero, List.take_of_length_le (by rw [List.length_map]; exact Nat.le_refl _)]) (by rw [List.length_map, wordsP]; omega)
  ·exact rd_own' 2 rfl (by rw [flatMap_ei, wordsP, Nat.mul_one, List.drop_zero, List.take_of_length_le (by rw [List.length_map]; exact Nat.le_refl _)]) (by rw [List.length_map, wordsP]; omega)
  ·exact rd_own' 3 rfl (by rw [flatMap_eb, wordsP, Nat.mul_one, List.drop_zero, List.take_of_length_le (by rw [List.length_map]; exact Nat.le_refl _)]) (by rw [List.length_map, wordsP]; omega)

end
end Go.EV

namespace Go.EV
open Go.Proofs

abbrev vu (n : Nat) : Value := .int .u32 n
abbrev Rel := List Nat
def hasR (r : Rel) (a b : Nat) : Bool := (r[a]?.getD 0).testBit b
def orR (r : Rel) (a m : Nat) : Rel := r.set a (r[a]?.getD 0 ||| m)
def putR (r : Rel) (a b : Nat) : Rel := orR r a (2 ^ b)
def closeRow (r : Rel) (k : Nat) : Nat → Rel
 | 0 => r
 | a + 1 => if hasR (closeRow r k a) a k then orR (closeRow r k a) a ((closeRow r k a)[k]?.getD 0) else closeRow r k a
def closeGo (r : Rel) : Nat → Rel
 | 0 => r
 | k + 1 => closeRow (closeGo r k) k r.length
def closeR (r : Rel) : Rel := closeGo r r.length
def circleR (r : Rel) : Bool := (List.range r.length).any fun a => hasR r a a

structure RelOk (n : Nat) (r : Rel) : Prop where
 len : r.length = n
 lt : ∀ a : Nat, r[a]?.getD 0 < 2 ^ n

theorem RelOk.or {n : Nat} {r : Rel} (h : RelOk n r) (a : Nat) {m : Nat} (hm : m < 2 ^ n) : RelOk n (orR r a m) := by
 refine ⟨by simp [orR, h.len], fun b => ?_⟩
 simp only [orR, List.getElem?_set]
 split
 ·split
  ·simp only [Option.getD_some]; exact Nat.or_lt_two_pow (h.lt a) hm
  ·simp only [Option.getD_none]; exact Nat.two_pow_pos n
 ·exact h.lt b

theorem RelOk.put {n : Nat} {r : Rel} (h : RelOk n r) (a : Nat) {b : Nat} (hb : b < n) : RelOk n (putR r a b) := h.or a (Nat.pow_lt_pow_right (by decide) hb)

theorem RelOk.zero (n : Nat) : RelOk n (List.replicate n 0) := by
 refine ⟨by simp, fun a => ?_⟩
 rw [List.getElem?_replicate]
 split <;> simp [Nat.two_pow_pos]

theorem RelOk.closeRow {n : Nat} {r : Rel} (h : RelOk n r) (k : Nat) : ∀ a, RelOk n (closeRow r k a)
 | 0 => h
 | a + 1 => by
  simp only [EV.closeRow]
  split
  ·exact (RelOk.closeRow h k a).or a ((RelOk.closeRow h k a).lt k)
  ·exact RelOk.closeRow h k a
theorem RelOk.closeGo {n : Nat} {r : Rel} (h : RelOk n r) : ∀ k, RelOk n (closeGo r k)
 | 0 => h
 | k + 1 => RelOk.closeRow (RelOk.closeGo h k) k _
theorem RelOk.close {n : Nat} {r : Rel} (h : RelOk n r) : RelOk n (closeR r) := RelOk.closeGo h _

/-! ### Words of 32 bits -/
theorem u32_of {x : Nat} (h : x < 2 ^ 32) : BitVec.ofInt IntKind.u32.bits (x : Int) = (BitVec.ofNat 32 x : BitVec IntKind.u32.bits) := BitVec.ofInt_natCast 32 x

theorem u32_wrap {x : Nat} (h : x < 2 ^ 32) : IntKind.u32.wrap (x : Int) = x := by
 have e : (2 : Int) ^ IntKind.u32.bits = 4294967296 := rfl
 have e3 : IntKind.u32.signed = false := rfl
 have h' : x < 4294967296 := h
 simp only [IntKind.wrap, e, e3, Bool.false_and]
 simp only [Bool.false_eq_true, if_false]
 omega

theorem u32_or {x y : Nat} (hx : x < 2 ^ 32) (hy : y < 2 ^ 32) : IntKind.u32.wrap ((BitVec.ofInt IntKind.u32.bits (x : Int) ||| BitVec.ofInt IntKind.u32.bits (y : Int)).toNat : Int) = ((x ||| y : Nat) : Int) := by
 rw [u32_of hx, u32_of hy]
 have e : (BitVec.ofNat 32 x ||| BitVec.ofNat 32 y).toNat = x ||| y := by
  rw [BitVec.toNat_or, BitVec.toNat_ofNat, BitVec.toNat_ofNat, Nat.mod_eq_of_lt hx, Nat.mod_eq_of_lt hy]
 show IntKind.u32.wrap ((BitVec.ofNat 32 x ||| BitVec.ofNat 32 y).toNat : Int) = _
 rw [e]
 exact u32_wrap (Nat.or_lt_two_pow hx hy)

theorem u32_shl {b : Nat} (hb : b < 32) : IntKind.u32.wrap (1 * 2 ^ min b IntKind.u32.bits) = ((2 ^ b : Nat) : Int) := by
 rw [show IntKind.u32.bits = 32 from rfl, Nat.min_eq_left (by omega), Int.one_mul]
 rw [show ((2 : Int) ^ b) = ((2 ^ b : Nat) : Int) from by simp]
 exact u32_wrap (Nat.pow_lt_pow_right (by decide) hb)

theorem u32_or2 {x b : Nat} (hx : x < 2 ^ 32) (hb : b < 32) : IntKind.u32.wrap ((BitVec.ofInt IntKind.u32.bits (x : Int) ||| BitVec.ofInt IntKind.u32.bits (2 ^ b)).toNat : Int) = ((x ||| 2 ^ b : Nat) : Int) := by
 have := u32_or (y := 2 ^ b) hx (Nat.pow_lt_pow_right (by decide) hb)
 rwa [show ((2 ^ b : Nat) : Int) = 2 ^ b from by simp] at this

theorem u32_bit {x b : Nat} (hx : x < 2 ^ 32) (hb : b < 32) : decide (IntKind.u32.wrap ((BitVec.ofInt IntKind.u32.bits ((x : Int).fdiv (2 ^ min b IntKind.u32.bits)) &&& BitVec.ofInt IntKind.u32.bits 1).toNat : Int) = 1) = x.testBit b := by
 have e0 : min b IntKind.u32.bits = b := Nat.min_eq_left (show b ≤ 32 by omega)
 rw [e0]
 have e1 : (x : Int).fdiv (2 ^ b) = ((x / 2 ^ b : Nat) : Int) := by
  rw [Int.fdiv_eq_ediv_of_nonneg _ (by exact_mod_cast Nat.zero_le _)]; simp
 have hd : x / 2 ^ b < 2 ^ 32 := Nat.lt_of_le_of_lt (Nat.div_le_self _ _) hx
 rw [e1, u32_of hd]
 have e : (BitVec.ofNat 32 (x / 2 ^ b) &&& BitVec.ofInt 32 1).toNat = (x / 2 ^ b) % 2 := by
  rw [BitVec.toNat_and, BitVec.toNat_ofNat, Nat.mod_eq_of_lt hd]
  show (x / 2 ^ b) &&& 1 = _
  exact Nat.and_one_is_mod _
 show decide (IntKind.u32.wrap ((BitVec.ofNat 32 (x / 2 ^ b) &&& BitVec.ofInt 32 1).toNat : Int) = 1) = _
 rw [e, u32_wrap (by omega)]
 rw [Nat.testBit_eq_decide_div_mod_eq]
 simp only [decide_eq_decide]
 omega

section
variable {M : PHeap}

theorem ax_relation_c (s : Value) (p : List Ev) (hs : Sl M 6 encEv s p) (hb : p.length ≤ 32) : Con Tryz.prog 136 #[s] M [] fun v _ G' => ∃ b, v = vrow b p.length p.length ∧ G' = [(b, Cl 144 ((List.replicate p.length 0).map vu))] := by
 obtain ⟨a, c, rfl, hrd⟩ := hs
 refine Con.enter Q39_ok (args := [.slice a p.length c]) (by simp [Q39]) fun w0 => ?_
 simp only [Q39, argE]
 repeat' first
   | refine EV.seq ?_
   | (refine EV.reg ?_; (conv => (arg 2; whnf)); simp only [wpS, wpA, wpQL, push_cast, Int.cast_ofNat_Int, reduceIte, Nat.reduceEqDiff, reduceCtorEq, Nat.reduceAdd, Nat.reduceSub, Nat.reduceMul, Int.reduceToNat, Nat.reduceLeDiff, flatten_rep])
   | (with_reducible intro b; try simp only [wpS, wpA, wpQL, push_cast, Int.cast_ofNat_Int, reduceIte, Nat.reduceEqDiff, reduceCtorEq, Nat.reduceAdd, Nat.reduceSub, Nat.reduceMul, Int.reduceToNat, Nat.reduceLeDiff, flatten_rep])
   | (refine And.intro (by omega) ?_)
   | fail
 refine EV.ret Q39_ok ?_
 simp only [wpS, wpA, wpQL, push_cast, Int.cast_ofNat_Int, reduceIte, Nat.reduceEqDiff, reduceCtorEq, Nat.reduceAdd, Nat.reduceSub, Nat.reduceMul, Int.reduceToNat, Nat.reduceLeDiff, Q39]
 exact ⟨b, rfl, by simp⟩

theorem ax_has_q {b n a j c x : Nat} (h : rd M b a 1 [vu x]) (ha : a < n) (hn : n < 1000000) (hj : j < 32) (hx : x < 2 ^ 32) : ConQ Tryz.prog 68 #[vrow b n c, vi a, vi j] M (vb (x.testBit j)) := by
 refine Con.enter Q48_ok (args := [vrow b n c, vi a, vi j]) (by simp [Q48]) fun w0 => ?_
 simp only [Q48, argE]
 have ha' : (a : Int) < n := by omega
 have hjn : ¬ ((j : Int) < 0) := by omega
 repeat' first
   | refine EV.seq ?_
   | (refine EV.reg ?_; (conv => (arg 2; whnf)); simp only [wpS, wpA, wpQL, push_cast, Int.cast_ofNat_Int, reduceIte, Nat.reduceEqDiff, reduceCtorEq, Nat.reduceAdd, Nat.reduceSub, Nat.reduceMul, Int.reduceToNat, Nat.reduceLeDiff, hjn])
   | (refine EV.ret Q48_ok ?_; simp only [wpS, wpA, wpQL, push_cast, Int.cast_ofNat_Int, reduceIte, Nat.reduceEqDiff, reduceCtorEq, Nat.reduceAdd, Nat.reduceSub, Nat.reduceMul, Int.reduceToNat, Nat.reduceLeDiff, hjn, Q48])
   | (refine And.intro (by omega) ?_)
   | (refine Exists.intro _ (And.intro (rd_M (by assumption)) ?_); try simp only [wpS, wpA, wpQL, push_cast, Int.cast_ofNat_Int, reduceIte, Nat.reduceEqDiff, reduceCtorEq, Nat.reduceAdd, Nat.reduceSub, Nat.reduceMul, Int.reduceToNat, Nat.reduceLeDiff, hjn])
   | fail
 rw [u32_bit hx hj]

theorem ax_put_c {b n a j c : Nat} {r : Rel} (hr : RelOk n r) (hn : n ≤ 32) (ha : a < n) (hj : j < n) : Con Tryz.prog 121 #[vrow b n c, vi a, vi j] M [(b, Cl 144 (r.map vu))] fun _ _ G' => G' = [(b, Cl 144 ((putR r a j).map vu))] := by
 refine Con.enter Q49_ok (args := [vrow b n c, vi a, vi j]) (by simp [Q49]) fun w0 => ?_
 simp only [Q49, argE]
 have ha' : (a : Int) < n := by omega
 have hjn : ¬ ((j : Int) < 0) := by omega
 have hal : a < r.length := by rw [hr.len]; exact ha
 have hx : r[a] < 2 ^ 32 := by
  have := hr.lt a
  rw [List.getElem?_eq_getElem hal] at this
  exact Nat.lt_of_lt_of_le this (Nat.pow_le_pow_right (by decide) hn)
 have h2 : 2 ^ j < 2 ^ 32 := Nat.pow_lt_pow_right (by decide) (by omega)
 repeat' first
   | (refine EV.any _ (List.Sublist.refl _) ?_; (conv => (arg 2; whnf)); simp only [wpS, wpA, wpQL, push_cast, Int.cast_ofNat_Int, reduceIte, Nat.reduceEqDiff, reduceCtorEq, Nat.reduceAdd, Nat.reduceSub, Nat.reduceMul, Int.reduceToNat, Nat.reduceLeDiff, hjn, row_st, hal, ha, List.length_map, hr.len, u32_shl (show j < 32 by omega), u32_or2 hx (show j < 32 by omega)])
   | (refine Exists.intro _ (And.intro (rowAt (f := vu) hal) ?_); try simp only [wpS, wpA, wpQL, push_cast, Int.cast_ofNat_Int, reduceIte, Nat.reduceEqDiff, reduceCtorEq, Nat.reduceAdd, Nat.reduceSub, Nat.reduceMul, Int.reduceToNat, Nat.reduceLeDiff, hjn, row_st, hal, ha, List.length_map, hr.len, u32_shl (show j < 32 by omega), u32_or2 hx (show j < 32 by omega)])
   | (refine And.intro (by omega) ?_)
   | (refine xw ?_; simp only [wpS, wpA, wpQL, push_cast, Int.cast_ofNat_Int, reduceIte, Nat.reduceEqDiff, reduceCtorEq, Nat.reduceAdd, Nat.reduceSub, Nat.reduceMul, Int.reduceToNat, Nat.reduceLeDiff, hjn, row_st, hal, ha, List.length_map, hr.len, u32_shl (show j < 32 by omega), u32_or2 hx (show j < 32 by omega)])
   | fail
 refine EV.done Q49_ok ?_
 simp only [wpS, wpA, wpQL, push_cast, Int.cast_ofNat_Int, reduceIte, Nat.reduceEqDiff, reduceCtorEq, Nat.reduceAdd, Nat.reduceSub, Nat.reduceMul, Int.reduceToNat, Nat.reduceLeDiff, Q49]
 simp only [putR, orR, List.getElem?_eq_getElem hal, Option.getD_some]

theorem ax_putI_c {b n c : Nat} {a j : Int} {r : Rel} (hr : RelOk n r) (hn : n ≤ 32) (ha0 : 0 ≤ a) (ha : a < n) (hj0 : 0 ≤ j) (hj : j < n) : Con Tryz.prog 121 #[vrow b n c, vi a, vi j] M [(b, Cl 144 (r.map vu))] fun _ _ G' => G' = [(b, Cl 144 ((putR r a.toNat j.toNat).map vu))] := by
 obtain ⟨a', rfl⟩ := Int.eq_ofNat_of_zero_le ha0
 obtain ⟨j', rfl⟩ := Int.eq_ofNat_of_zero_le hj0
 simp only [Int.toNat_natCast]
 exact ax_put_c hr hn (by omega) (by omega)

theorem RelOk.at {n : Nat} {r : Rel} (h : RelOk n r) (hn : n ≤ 32) (a : Nat) : r[a]?.getD 0 < 2 ^ 32 := Nat.lt_of_lt_of_le (h.lt a) (Nat.pow_le_pow_right (by decide) hn)
theorem RelOk.get {n : Nat} {r : Rel} (h : RelOk n r) {a : Nat} (ha : a < n) : ∃ h' : a < r.length, r[a]?.getD 0 = r[a] := by
 have h' : a < r.length := by rw [h.len]; exact ha
 exact ⟨h', by rw [List.getElem?_eq_getElem h']; rfl⟩

theorem ax_close_c {b n c : Nat} {r : Rel} (hr : RelOk n r) (hn : n ≤ 32) : Con Tryz.prog 106 #[vrow b n c] M [(b, Cl 144 (r.map vu))] fun v _ G' => v = vrow b n c ∧ G' = [(b, Cl 144 ((closeR r).map vu))] := by
 refine Con.enter Q47_ok (args := [vrow b n c]) (by simp [Q47]) fun w0 => ?_
 simp only [Q47, argE]
 repeat' first
   | refine EV.seq ?_
   | refine EV.block ?_
   | (refine EV.reg ?_; (conv => (arg 2; whnf)); (refine nx ?_; try with_reducible exact ⟨⟩))
   | fail
 refine EV.loopTo (fun k : Nat => ([(0, vrow b n c), (6, vi n), (7, vi k)], M, [(b, Cl 144 ((closeGo r k).map vu))])) (fun k => k ≤ n) (fun k => n - k) 0 rfl (Nat.zero_le _) ?env1 (List.Sublist.refl _) ?_
 case env1 =>
  repeat' first
   | (refine List.forall_mem_cons.2 (And.intro ?_ ?_))
   | (intro _ hnil; cases hnil; done)
   | rfl
   | fail
 intro k hk ih
 dsimp only at hk ih ⊢
 have hrk := RelOk.closeGo hr k
 repeat' first
   | refine EV.seq ?_
   | refine EV.skip ?_
   | refine EV.block ?_
   | (refine EV.reg ?_; (conv => (arg 2; whnf)); (refine nx ?_; try with_reducible exact ⟨⟩))
   | (refine EV.condX rfl (fun h => ?_) (fun h => ?_) <;> try exact dead h)
   | (refine EV.exit rfl ?_)
   | fail
 ·refine EV.loopTo (fun a : Nat => ([(0, vrow b n c), (3, vi k), (6, vi n), (7, vi k), (11, vi n), (12, vi a)], M, [(b, Cl 144 ((closeRow (closeGo r k) k a).map vu))])) (fun a => a ≤ n) (fun a => n - a) 0 rfl (Nat.zero_le _) ?env2 (List.Sublist.refl _) ?_
  case env2 =>
   repeat' first
    | (refine List.forall_mem_cons.2 (And.intro ?_ ?_))
    | (intro _ hnil; cases hnil; done)
    | rfl
    | fail
  intro a ha ih2
  dsimp only at ha ih2 ⊢
  have hra := RelOk.closeRow hrk k a
  repeat' first
    | refine EV.seq ?_
    | refine EV.skip ?_
    | refine EV.block ?_
    | refine EV.inBlock ?_
    | (refine EV.reg ?_; (conv => (arg 2; whnf)); (refine nx ?_; try with_reducible exact ⟨⟩))
    | (refine EV.condX rfl (fun h => ?_) (fun h => ?_) <;> try exact dead h)
    | (refine EV.exit rfl ?_)
    | fail
  ·have ha' : a < n := by omega
   have hk' : k < n := by omega
   have ih3 := ih2 (a + 1) (by omega) (by omega)
   have hs : closeRow (closeGo r k) k (a + 1) = if hasR (closeRow (closeGo r k) k a) a k then orR (closeRow (closeGo r k) k a) a ((closeRow (closeGo r k) k a)[k]?.getD 0) else closeRow (closeGo r k) k a := rfl
   rw [hs] at ih3
   clear hs ih ih2
   generalize closeRow (closeGo r k) k a = q at *
   obtain ⟨hal, ea⟩ := hra.get ha'
   obtain ⟨hkl, ek⟩ := hra.get hk'
   have hxa := hra.at (by omega) a
   have hxk := hra.at (by omega) k
   simp only [hasR, orR, ea, ek] at ih3 hxa hxk
   have hqn := hra.len
   repeat' first
     | refine EV.skip ?_
     | refine EV.inBlock ?_
     | ((first | refine EV.reg ?_ | refine EV.any _ (List.Sublist.refl _) ?_ | fail); (conv => (arg 2; whnf)); simp only [wpS, wpA, wpQL, push_cast, Int.cast_ofNat_Int, reduceIte, Nat.reduceEqDiff, reduceCtorEq, Nat.reduceAdd, Nat.reduceSub, Nat.reduceMul, Int.reduceToNat, Nat.reduceLeDiff, row_st, ha', List.length_map, u32_or hxa hxk, hqn])
     | ((first | refine Exists.intro _ (And.intro (rowAt (f := vu) hkl) ?_) | refine Exists.intro _ (And.intro (rowAt (f := vu) hal) ?_) | refine ConQ.call (ax_has_q (j := k) (rowAt (f := vu) hal) ha' (by omega) (by omega) hxa) ?_ | fail); try simp only [wpS, wpA, wpQL, push_cast, Int.cast_ofNat_Int, reduceIte, Nat.reduceEqDiff, reduceCtorEq, Nat.reduceAdd, Nat.reduceSub, Nat.reduceMul, Int.reduceToNat, Nat.reduceLeDiff, row_st, ha', List.length_map, u32_or hxa hxk, hqn])
     | (refine EV.condX rfl (fun h => ?_) (fun h => ?_) <;> try exact dead h)
     | (refine And.intro (by omega) ?_)
     | (refine xw ?_; simp only [wpS, wpA, wpQL, push_cast, Int.cast_ofNat_Int, reduceIte, Nat.reduceEqDiff, reduceCtorEq, Nat.reduceAdd, Nat.reduceSub, Nat.reduceMul, Int.reduceToNat, Nat.reduceLeDiff, row_st, ha', List.length_map, u32_or hxa hxk, hqn])
     | fail
   ·rw [if_pos (by assumption)] at ih3
    refine EV.toS ih3 ?_
    repeat' first
     | (refine List.forall_mem_cons.2 (And.intro ?_ ?_))
     | (intro _ hnil; cases hnil; done)
     | rfl
     | (refine env_w64 rfl (by first | rfl | (push_cast; first | rfl | omega)) (by omega) (by omega); done)
     | fail
   ·rw [if_neg (by simp_all)] at ih3
    refine EV.toS ih3 ?_
    repeat' first
     | (refine List.forall_mem_cons.2 (And.intro ?_ ?_))
     | (intro _ hnil; cases hnil; done)
     | rfl
     | (refine env_w64 rfl (by first | rfl | (push_cast; first | rfl | omega)) (by omega) (by omega); done)
     | fail
  ·have hi2 : a = n := by omega
   subst hi2
   have ih3 := ih (k + 1) (by omega) (by omega)
   have e : closeGo r (k + 1) = closeRow (closeGo r k) k a := by rw [closeGo, hr.len]
   rw [e] at ih3
   refine EV.toS ih3 ?_
   repeat' first
    | (refine List.forall_mem_cons.2 (And.intro ?_ ?_))
    | (intro _ hnil; cases hnil; done)
    | rfl
    | (refine env_w64 rfl (by first | rfl | (push_cast; first | rfl | omega)) (by omega) (by omega); done)
    | fail
 ·have hi2 : k = n := by omega
  subst hi2
  refine EV.ret Q47_ok ?_
  simp only [wpS, wpA, wpQL, push_cast, Int.cast_ofNat_Int, reduceIte, Nat.reduceEqDiff, reduceCtorEq, Nat.reduceAdd, Nat.reduceSub, Nat.reduceMul, Int.reduceToNat, Nat.reduceLeDiff, Q47]
  simp only [closeR, hr.len]

theorem circle_no {r : Rel} {i : Nat} (h : ∀ a, a < i → hasR r a a = false) (hi : r.length ≤ i) : circleR r = false := by
 simp only [circleR, List.any_eq_false, List.mem_range]
 intro a ha
 rw [h a (by omega)]; simp

theorem ax_circle_q {b n c : Nat} {r : Rel} (hr : RelOk n r) (hn : n ≤ 32) (hrw : rd M b 0 n (r.map vu)) : ConQ Tryz.prog 122 #[vrow b n c] M (vb (circleR r)) := by
 refine Con.enter Q46_ok (args := [vrow b n c]) (by simp [Q46]) fun w0 => ?_
 simp only [Q46, argE]
 repeat' first
   | refine EV.seq ?_
   | refine EV.block ?_
   | (refine EV.reg ?_; (conv => (arg 2; whnf)); (refine nx ?_; try with_reducible exact ⟨⟩))
   | fail
 refine EV.loopTo (fun k : Nat => ([(0, vrow b n c), (5, vi n), (6, vi k)], M, [])) (fun k => k ≤ n ∧ ∀ a, a < k → hasR r a a = false) (fun k => n - k) 0 rfl ⟨Nat.zero_le _, fun a ha => absurd ha (Nat.not_lt_zero _)⟩ ?env1 (List.Sublist.refl _) ?_
 case env1 =>
  repeat' first
   | (refine List.forall_mem_cons.2 (And.intro ?_ ?_))
   | (intro _ hnil; cases hnil; done)
   | rfl
   | fail
 rintro k ⟨hk, hno⟩ ih
 dsimp only at hk hno ih ⊢
 repeat' first
   | refine EV.seq ?_
   | refine EV.skip ?_
   | refine EV.block ?_
   | (refine EV.reg ?_; (conv => (arg 2; whnf)); (refine nx ?_; try with_reducible exact ⟨⟩))
   | (refine EV.condX rfl (fun h => ?_) (fun h => ?_) <;> try exact dead h)
   | (refine EV.exit rfl ?_)
   | fail
 ·have hk' : k < n := by omega
  obtain ⟨hkl, ek⟩ := hr.get hk'
  have hxk := hr.at (by omega) k
  have hq : rd M b k 1 [vu r[k]] := by
   have := hrw.pt k 1 (by omega) (row_part vu r hkl)
   rwa [Nat.zero_add] at this
  rw [ek] at hxk
  repeat' first
    | refine EV.seq ?_
    | refine EV.skip ?_
    | refine EV.inBlock ?_
    | (refine EV.reg ?_; (conv => (arg 2; whnf)); (refine nx ?_; try with_reducible exact ⟨⟩))
    | (refine ConQ.call (ax_has_q (j := k) (rd_M hq) hk' (by omega) (by omega) hxk) ?_; try (refine nx ?_; try with_reducible exact ⟨⟩))
    | (refine EV.condX rfl (fun h => ?_) (fun h => ?_) <;> try exact dead h)
    | fail
  ·refine EV.ret Q46_ok ?_
   simp only [wpS, wpA, wpQL, push_cast, Int.cast_ofNat_Int, reduceIte, Nat.reduceEqDiff, reduceCtorEq, Nat.reduceAdd, Nat.reduceSub, Nat.reduceMul, Int.reduceToNat, Nat.reduceLeDiff, Q46]
   have : circleR r = true := by
    simp only [circleR, List.any_eq_true, List.mem_range]
    exact ⟨k, hkl, by simp only [hasR, ek]; assumption⟩
   rw [this]
  ·refine EV.toS (ih (k + 1) ⟨by omega, fun a ha => ?_⟩ (by omega)) ?_
   ·by_cases e : a = k
    ·subst e; simp only [hasR, ek]; assumption
    ·exact hno a (by omega)
   ·repeat' first
     | (refine List.forall_mem_cons.2 (And.intro ?_ ?_))
     | (intro _ hnil; cases hnil; done)
     | rfl
     | (refine env_w64 rfl (by first | rfl | (push_cast; first | rfl | omega)) (by omega) (by omega); done)
     | fail
 ·refine EV.ret Q46_ok ?_
  simp only [wpS, wpA, wpQL, push_cast, Int.cast_ofNat_Int, reduceIte, Nat.reduceEqDiff, reduceCtorEq, Nat.reduceAdd, Nat.reduceSub, Nat.reduceMul, Int.reduceToNat, Nat.reduceLeDiff, Q46]
  rw [circle_no hno (by rw [hr.len]; omega)]

end
end Go.EV

namespace Go.EV
open Go.Proofs

def OrdOk (p : List Ev) : Prop := ∀ i, i < p.length → isOrderP (evAt p i).op.ord = true

def startsGo (p : List Ev) (w : Nat) : Nat → Nat → Nat
 | 0, s => s
 | a + 1, s => if (evAt p a).th = (evAt p w).th then startsGo p w a (if (evAt p a).op.kind = 5 ∧ (evAt p a).rel = true then s ||| 2 ^ a else s) else s
def startsP (p : List Ev) (w : Nat) : Nat := startsGo p w w (if (evAt p w).rel then 2 ^ w else 0)
def endsGo (p : List Ev) (r : Nat) : Nat → Nat → Nat → Nat
 | 0, _, s => s
 | f + 1, b, s => if (evAt p b).th = (evAt p r).th then endsGo p r f (b + 1) (if (evAt p b).op.kind = 5 ∧ (evAt p b).acq = true then s ||| 2 ^ b else s) else s
def endsP (p : List Ev) (r : Nat) : Nat := endsGo p r (p.length - (r + 1)) (r + 1) (if (evAt p r).acq then 2 ^ r else 0)

theorem startsGo_lt {p : List Ev} {w n : Nat} : ∀ (a s : Nat), a ≤ n → s < 2 ^ n → startsGo p w a s < 2 ^ n
 | 0, s, _, h => h
 | a + 1, s, ha, h => by
  simp only [startsGo]
  split
  ·refine startsGo_lt a _ (by omega) ?_
   split
   ·exact Nat.or_lt_two_pow h (Nat.pow_lt_pow_right (by decide) (by omega))
   ·exact h
  ·exact h
theorem startsP_lt {p : List Ev} {w : Nat} (hw : w < p.length) : startsP p w < 2 ^ p.length := by
 refine startsGo_lt _ _ (by omega) ?_
 split
 ·exact Nat.pow_lt_pow_right (by decide) hw
 ·exact Nat.two_pow_pos _
theorem endsGo_lt {p : List Ev} {r n : Nat} : ∀ (f b s : Nat), b + f ≤ n → s < 2 ^ n → endsGo p r f b s < 2 ^ n
 | 0, _, s, _, h => h
 | f + 1, b, s, hb, h => by
  simp only [endsGo]
  split
  ·refine endsGo_lt f _ _ (by omega) ?_
   split
   ·exact Nat.or_lt_two_pow h (Nat.pow_lt_pow_right (by decide) (by omega))
   ·exact h
  ·exact h
theorem endsP_lt {p : List Ev} {r : Nat} (hr : r < p.length) : endsP p r < 2 ^ p.length := by
 refine endsGo_lt _ _ _ (by omega) ?_
 split
 ·exact Nat.pow_lt_pow_right (by decide) hr
 ·exact Nat.two_pow_pos _

theorem pow32 {s n : Nat} (h : s < 2 ^ n) (hn : n ≤ 32) : s < 2 ^ 32 := Nat.lt_of_lt_of_le h (Nat.pow_le_pow_right (by decide) hn)

def stepsA (p : List Ev) : Nat → Rel
 | 0 => List.replicate p.length 0
 | i + 1 => if (evAt p (i + 1)).th = (evAt p i).th then putR (stepsA p i) i (i + 1) else stepsA p i
def stepsB (r : Rel) (fen : List Int) : Nat → Rel
 | 0 => r
 | k + 1 => putR (stepsB r fen k) (fen[k]?.getD 0).toNat (fen[k + 1]?.getD 0).toNat
def stepsP (p : List Ev) (fen : List Int) : Rel := stepsB (stepsA p (p.length - 1)) fen (fen.length - 1)

/-- The numbers are those of events. -/
def InEv (p : List Ev) (l : List Int) : Prop := ∀ x ∈ l, 0 ≤ x ∧ x < p.length

theorem InEv.at {p : List Ev} {l : List Int} (h : InEv p l) {k : Nat} (hk : k < l.length) : 0 ≤ l[k]?.getD 0 ∧ l[k]?.getD 0 < p.length := by
 rw [List.getElem?_eq_getElem hk]; exact h _ (List.getElem_mem hk)

theorem stepsA_ok (p : List Ev) : ∀ i, i ≤ p.length - 1 → RelOk p.length (stepsA p i)
 | 0, _ => RelOk.zero _
 | i + 1, h => by
  simp only [stepsA]
  split
  ·exact (stepsA_ok p i (by omega)).put i (by omega)
  ·exact stepsA_ok p i (by omega)
theorem stepsB_ok {p : List Ev} {r : Rel} (hr : RelOk p.length r) {fen : List Int} (hf : InEv p fen) : ∀ k, k ≤ fen.length - 1 → RelOk p.length (stepsB r fen k)
 | 0, _ => hr
 | k + 1, h => by
  have := hf.at (k := k + 1) (by omega)
  exact (stepsB_ok hr hf k (by omega)).put _ (by omega)
theorem stepsP_ok {p : List Ev} {fen : List Int} (hf : InEv p fen) : RelOk p.length (stepsP p fen) := stepsB_ok (stepsA_ok p _ (Nat.le_refl _)) hf _ (Nat.le_refl _)

section
variable {M : PHeap}

theorem ax_exchanged_q (p : List Ev) (s : Value) (hs : Sl M 6 encEv s p) (hb : p.length < 1000000) (f d o n : Value) (dn : List Bool) (hd : Sl M 1 eb d dn) (w : Nat) (hw : w < p.length) (hl : dn.length = p.length) :
  ConQ Tryz.prog 104 #[s, .agg #[f, d, o, n], vi w] M (vb ((evAt p w).reads && (dn[w]?.getD false))) := by
 obtain ⟨a, c, rfl, hrd⟩ := hs
 obtain ⟨da, dc, rfl, hrd2⟩ := hd
 obtain ⟨pb, po, rfl, hat⟩ := Sl.at (enc := encEv) (fun _ => rfl) (by decide) hrd (by omega)
 obtain ⟨db, do', rfl, hat2⟩ := Sl.at (sz := 1) (enc := eb) (fun _ => rfl) (by decide) hrd2 (by omega)
 have hpw := Sl.evAt hat w hw
 have hdw : rd M db (do' + w) 1 [vb (dn[w]?.getD false)] := by
  have := hat2 w (by omega)
  rw [Nat.mul_one] at this
  rwa [List.getElem?_eq_getElem (by omega : w < dn.length)]
 have hw1 : (w : Int) < p.length := by omega
 have hw2 : (w : Int) < dn.length := by omega
 refine Con.enter Q20_ok (args := [.slice (some ⟨pb, po, none⟩) p.length c, .agg #[f, .slice (some ⟨db, do', none⟩) dn.length dc, o, n], vi w]) (by simp [Q20]) fun w0 => ?_
 simp only [Q20, argE]
 repeat' first
   | refine EV.seq ?_
   | (refine EV.reg ?_; (conv => (arg 2; whnf)); (refine nx ?_; try with_reducible exact ⟨⟩))
   | (refine ConQ.call (ax_reads_q (evAt p w)) ?_; try (refine nx ?_; try with_reducible exact ⟨⟩))
   | with_reducible assumption
   | (refine condW.merge ?_ (fun hc K' hK => ?_) ?_; rotate_left)
   | (refine EV.ret Q20_ok ?_; simp only [wpS, wpA, wpQL, push_cast, Int.cast_ofNat_Int, reduceIte, Nat.reduceEqDiff, reduceCtorEq, Nat.reduceAdd, Nat.reduceSub, Nat.reduceMul, Int.reduceToNat, Nat.reduceLeDiff, Q20])
   | (with_reducible intro b; try (refine nx ?_; try with_reducible exact ⟨⟩))
   | (refine And.intro (by omega) ?_)
   | ((first | refine Exists.intro _ (And.intro (rd_M (by assumption)) ?_) | refine xsA rfl ?_ | fail); try (refine nx ?_; try with_reducible exact ⟨⟩))
   | fail
 all_goals simp_all

theorem ax_starts_q (p : List Ev) (s : Value) (hs : Sl M 6 encEv s p) (hb : p.length ≤ 32) (ho : OrdOk p) (w : Nat) (hw : w < p.length) :
  ConQ Tryz.prog 103 #[s, vi w] M (vu (startsP p w)) := by
 obtain ⟨a, c, rfl, hrd⟩ := hs
 obtain ⟨pb, po, rfl, hat⟩ := Sl.at (enc := encEv) (fun _ => rfl) (by decide) hrd (by omega)
 have hat := Sl.evAt hat
 have hpw := hat w hw
 have hpw5 := hpw.pt 5 1 (by omega) rfl
 have hw1 : (w : Int) < p.length := by omega
 have hwn : ¬ ((w : Int) < 0) := by omega
 refine Con.enter Q41_ok (args := [.slice (some ⟨pb, po, none⟩) p.length c, vi w]) (by simp [Q41]) fun w0 => ?_
 simp only [Q41, argE]
 refine EV.seq (EV.reg ?_)
 simp only [wpS, wpA, wpQL, push_cast, Int.cast_ofNat_Int, reduceIte, Nat.reduceEqDiff, reduceCtorEq, Nat.reduceAdd, Nat.reduceSub, Nat.reduceMul, Int.reduceToNat, Nat.reduceLeDiff, Q41_0]
 refine EV.seq (EV.reg ?_)
 simp only [wpS, wpA, wpQL, push_cast, Int.cast_ofNat_Int, reduceIte, Nat.reduceEqDiff, reduceCtorEq, Nat.reduceAdd, Nat.reduceSub, Nat.reduceMul, Int.reduceToNat, Nat.reduceLeDiff, Q41_1]
 refine EV.seq (EV.thru (fun ρ' M' G' => M' = M ∧ (∀ q ∈ [(0, .slice (some ⟨pb, po, none⟩) p.length c), (1, vi w), (5, vu (if (evAt p w).rel then 2 ^ w else 0))], get ρ' q.1 = some q.2) ∧ G' = []) ?_ ?_)
 ·intro k' key
  have h0 : IntKind.u32.wrap ((BitVec.ofInt IntKind.u32.bits (0 : Int) ||| BitVec.ofInt IntKind.u32.bits (2 ^ w)).toNat : Int) = ((2 ^ w : Nat) : Int) := by
   have := u32_or2 (x := 0) (b := w) (by decide) (by omega)
   simpa using this
  repeat' first
    | refine EV.seq ?_
    | refine EV.skip ?_
    | (refine EV.reg ?_; (conv => (arg 2; whnf)); simp only [wpS, wpA, wpQL, push_cast, Int.cast_ofNat_Int, reduceIte, Nat.reduceEqDiff, reduceCtorEq, Nat.reduceAdd, Nat.reduceSub, Nat.reduceMul, Int.reduceToNat, Nat.reduceLeDiff, hwn, u32_shl (show w < 32 by omega), h0])
    | (refine ConQ.call (ax_rel_q (evAt p w) (ho w hw)) ?_; try simp only [wpS, wpA, wpQL, push_cast, Int.cast_ofNat_Int, reduceIte, Nat.reduceEqDiff, reduceCtorEq, Nat.reduceAdd, Nat.reduceSub, Nat.reduceMul, Int.reduceToNat, Nat.reduceLeDiff, hwn, u32_shl (show w < 32 by omega), h0])
    | (refine EV.condX rfl (fun h => ?_) (fun h => ?_) <;> try exact dead h)
    | (refine And.intro (by omega) ?_)
    | (refine Exists.intro _ (And.intro (rd_M (by assumption)) ?_); try simp only [wpS, wpA, wpQL, push_cast, Int.cast_ofNat_Int, reduceIte, Nat.reduceEqDiff, reduceCtorEq, Nat.reduceAdd, Nat.reduceSub, Nat.reduceMul, Int.reduceToNat, Nat.reduceLeDiff, hwn, u32_shl (show w < 32 by omega), h0])
    | fail
  all_goals
   refine key _ _ _ ⟨rfl, ?_, rfl⟩
   simp only [*, Bool.false_eq_true, if_true, if_false]
   repeat' first
    | (refine List.forall_mem_cons.2 (And.intro ?_ ?_))
    | (intro _ hnil; cases hnil; done)
    | rfl
    | fail
 rintro ρ2 M2 G2 ⟨rfl, hq, rfl⟩
 refine EV.to (G' := []) ?_ hq (List.Sublist.refl _)
 clear hq
 generalize hs0 : (if (evAt p w).rel then 2 ^ w else 0) = s0
 have hs0l : s0 < 2 ^ p.length := by
  rw [← hs0]; split
  ·exact Nat.pow_lt_pow_right (by decide) hw
  ·exact Nat.two_pow_pos _
 have hww : IntKind.i64.wrap ((w : Int) - 1) = (w : Int) - 1 := w64 (by omega) (by omega)
 repeat' first
   | refine EV.seq ?_
   | refine EV.block ?_
   | (refine EV.reg ?_; (conv => (arg 2; whnf)); simp only [wpS, wpA, wpQL, push_cast, Int.cast_ofNat_Int, reduceIte, Nat.reduceEqDiff, reduceCtorEq, Nat.reduceAdd, Nat.reduceSub, Nat.reduceMul, Int.reduceToNat, Nat.reduceLeDiff, hww])
   | fail
 refine EV.loopTo (fun x : Nat × Nat => ([(0, .slice (some ⟨pb, po, none⟩) p.length c), (1, vi w), (5, vu x.2), (6, vi ((x.1 : Int) - 1))], M2, [])) (fun x => x.1 ≤ w ∧ x.2 < 2 ^ p.length ∧ startsGo p w x.1 x.2 = startsP p w) (fun x => x.1) (w, s0) rfl ⟨Nat.le_refl _, hs0l, by rw [← hs0]; rfl⟩ ?env1 (List.Sublist.refl _) ?_
 case env1 =>
  repeat' first
   | (refine List.forall_mem_cons.2 (And.intro ?_ ?_))
   | (intro _ hnil; cases hnil; done)
   | rfl
   | fail
 rintro ⟨x, s⟩ ⟨hx, hsl, hst⟩ ih
 dsimp only at hx hsl hst ih ⊢
 cases x with
 | zero =>
  have e0 : decide (0 ≤ ((0 : Nat) : Int) - 1) = false := by decide
  repeat' first
    | refine EV.seq ?_
    | ((first | refine EV.reg ?_ | refine EV.any _ (List.Sublist.refl _) ?_ | fail); (conv => (arg 2; whnf)); simp only [wpS, wpA, wpQL, push_cast, Int.cast_ofNat_Int, reduceIte, Nat.reduceEqDiff, reduceCtorEq, Nat.reduceAdd, Nat.reduceSub, Nat.reduceMul, Int.reduceToNat, Nat.reduceLeDiff, e0])
    | (refine condQ.mk ?_ (fun hc => ?_) ?_; rotate_left; (try simp only [decide_eq_true_eq, decide_eq_false_iff_not, Bool.not_eq_true', Bool.not_eq_false', Bool.and_eq_true, Bool.or_eq_true, Bool.and_eq_false_iff, Bool.or_eq_false_iff] at hc))
    | (refine EV.condX rfl (fun h => ?_) (fun h => ?_) <;> try exact dead h)
    | (refine EV.exit rfl ?_)
    | (refine And.intro (by omega) ?_)
    | (exfalso; simp at hc; done)
    | exact false
    | fail
  refine EV.ret Q41_ok ?_
  simp only [wpS, wpA, wpQL, push_cast, Int.cast_ofNat_Int, reduceIte, Nat.reduceEqDiff, reduceCtorEq, Nat.reduceAdd, Nat.reduceSub, Nat.reduceMul, Int.reduceToNat, Nat.reduceLeDiff, Q41]
  rw [← hst]; rfl
 | succ a =>
  have ea : ((a + 1 : Nat) : Int) - 1 = a := by omega
  have hge : decide ((a : Int) ≥ 0) = true := by simp
  have hge2 : decide (0 ≤ (a : Int)) = true := by simp
  have hpa := hat a (by omega)
  have hpa5 := hpa.pt 5 1 (by omega) rfl
  have hpa0 := hpa.pt 0 1 (by omega) rfl
  have ha1 : (a : Int) < p.length := by omega
  have han : ¬ ((a : Int) < 0) := by omega
  have ew : IntKind.i64.wrap ((a : Int) - 1) = (a : Int) - 1 := w64 (by omega) (by omega)
  have hor := u32_or2 (x := s) (b := a) (pow32 hsl hb) (by omega)
  rw [ea]
  simp only [startsGo] at hst
  repeat' first
    | refine EV.seq ?_
    | refine EV.skip ?_
    | refine EV.block ?_
    | refine EV.inBlock ?_
    | ((first | refine EV.reg ?_ | refine EV.any _ (List.Sublist.refl _) ?_ | fail); (conv => (arg 2; whnf)); simp only [wpS, wpA, wpQL, push_cast, Int.cast_ofNat_Int, reduceIte, Nat.reduceEqDiff, reduceCtorEq, Nat.reduceAdd, Nat.reduceSub, Nat.reduceMul, Int.reduceToNat, Nat.reduceLeDiff, hge, hge2, han, u32_shl (show a < 32 by omega), hor, ew])
    | (refine ConQ.call (ax_rel_q (evAt p a) (ho a (by omega))) ?_; try simp only [wpS, wpA, wpQL, push_cast, Int.cast_ofNat_Int, reduceIte, Nat.reduceEqDiff, reduceCtorEq, Nat.reduceAdd, Nat.reduceSub, Nat.reduceMul, Int.reduceToNat, Nat.reduceLeDiff, hge, hge2, han, u32_shl (show a < 32 by omega), hor, ew])
    | with_reducible assumption
    | (refine condW.merge ?_ (fun hc K' hK => ?_) ?_; rotate_left)
    | (refine condQ.mk ?_ (fun hc => ?_) ?_; rotate_left; (try simp only [decide_eq_true_eq, decide_eq_false_iff_not, Bool.not_eq_true', Bool.not_eq_false', Bool.and_eq_true, Bool.or_eq_true, Bool.and_eq_false_iff, Bool.or_eq_false_iff] at hc))
    | (with_reducible rfl)
    | (refine EV.condX rfl (fun h => ?_) (fun h => ?_) <;> try exact dead h)
    | (refine EV.exit rfl ?_)
    | (refine And.intro (by omega) ?_)
    | (refine Exists.intro _ (And.intro (rd_M (by assumption)) ?_); try simp only [wpS, wpA, wpQL, push_cast, Int.cast_ofNat_Int, reduceIte, Nat.reduceEqDiff, reduceCtorEq, Nat.reduceAdd, Nat.reduceSub, Nat.reduceMul, Int.reduceToNat, Nat.reduceLeDiff, hge, hge2, han, u32_shl (show a < 32 by omega), hor, ew])
    | fail
  ·rw [if_pos (by simp_all), if_pos (by simp_all)] at hst
   refine EV.to (ih (a, s ||| 2 ^ a) ⟨by dsimp only; omega, Nat.or_lt_two_pow hsl (Nat.pow_lt_pow_right (by decide) (by omega)), hst⟩ (by dsimp only; omega)) ?_ (List.Sublist.refl _)
   repeat' first
    | (refine List.forall_mem_cons.2 (And.intro ?_ ?_))
    | (intro _ hnil; cases hnil; done)
    | rfl
    | fail
  ·rw [if_pos (by simp_all), if_neg (by grind)] at hst
   refine EV.to (ih (a, s) ⟨by dsimp only; omega, hsl, hst⟩ (by dsimp only; omega)) ?_ (List.Sublist.refl _)
   repeat' first
    | (refine List.forall_mem_cons.2 (And.intro ?_ ?_))
    | (intro _ hnil; cases hnil; done)
    | rfl
    | fail
  ·rw [if_neg (by simp_all)] at hst
   refine EV.ret Q41_ok ?_
   simp only [wpS, wpA, wpQL, push_cast, Int.cast_ofNat_Int, reduceIte, Nat.reduceEqDiff, reduceCtorEq, Nat.reduceAdd, Nat.reduceSub, Nat.reduceMul, Int.reduceToNat, Nat.reduceLeDiff, Q41]
   rw [← hst]

theorem ax_ends_q (p : List Ev) (s : Value) (hs : Sl M 6 encEv s p) (hb : p.length ≤ 32) (ho : OrdOk p) (w : Nat) (hw : w < p.length) :
  ConQ Tryz.prog 105 #[s, vi w] M (vu (endsP p w)) := by
 obtain ⟨a, c, rfl, hrd⟩ := hs
 obtain ⟨pb, po, rfl, hat⟩ := Sl.at (enc := encEv) (fun _ => rfl) (by decide) hrd (by omega)
 have hat := Sl.evAt hat
 have hpw := hat w hw
 have hpw5 := hpw.pt 5 1 (by omega) rfl
 have hw1 : (w : Int) < p.length := by omega
 have hwn : ¬ ((w : Int) < 0) := by omega
 refine Con.enter Q19_ok (args := [.slice (some ⟨pb, po, none⟩) p.length c, vi w]) (by simp [Q19]) fun w0 => ?_
 simp only [Q19, argE]
 refine EV.seq (EV.reg ?_)
 simp only [wpS, wpA, wpQL, push_cast, Int.cast_ofNat_Int, reduceIte, Nat.reduceEqDiff, reduceCtorEq, Nat.reduceAdd, Nat.reduceSub, Nat.reduceMul, Int.reduceToNat, Nat.reduceLeDiff, Q19_0]
 refine EV.seq (EV.reg ?_)
 simp only [wpS, wpA, wpQL, push_cast, Int.cast_ofNat_Int, reduceIte, Nat.reduceEqDiff, reduceCtorEq, Nat.reduceAdd, Nat.reduceSub, Nat.reduceMul, Int.reduceToNat, Nat.reduceLeDiff, Q19_1]
 refine EV.seq (EV.thru (fun ρ' M' G' => M' = M ∧ (∀ q ∈ [(0, .slice (some ⟨pb, po, none⟩) p.length c), (1, vi w), (5, vu (if (evAt p w).acq then 2 ^ w else 0))], get ρ' q.1 = some q.2) ∧ G' = []) ?_ ?_)
 ·intro k' key
  have h0 : IntKind.u32.wrap ((BitVec.ofInt IntKind.u32.bits (0 : Int) ||| BitVec.ofInt IntKind.u32.bits (2 ^ w)).toNat : Int) = ((2 ^ w : Nat) : Int) := by
   have := u32_or2 (x := 0) (b := w) (by decide) (by omega)
   simpa using this
  repeat' first
    | refine EV.seq ?_
    | refine EV.skip ?_
    | (refine EV.reg ?_; (conv => (arg 2; whnf)); simp only [wpS, wpA, wpQL, push_cast, Int.cast_ofNat_Int, reduceIte, Nat.reduceEqDiff, reduceCtorEq, Nat.reduceAdd, Nat.reduceSub, Nat.reduceMul, Int.reduceToNat, Nat.reduceLeDiff, hwn, u32_shl (show w < 32 by omega), h0])
    | (refine ConQ.call (ax_acq_q (evAt p w) (ho w hw)) ?_; try simp only [wpS, wpA, wpQL, push_cast, Int.cast_ofNat_Int, reduceIte, Nat.reduceEqDiff, reduceCtorEq, Nat.reduceAdd, Nat.reduceSub, Nat.reduceMul, Int.reduceToNat, Nat.reduceLeDiff, hwn, u32_shl (show w < 32 by omega), h0])
    | (refine EV.condX rfl (fun h => ?_) (fun h => ?_) <;> try exact dead h)
    | (refine And.intro (by omega) ?_)
    | (refine Exists.intro _ (And.intro (rd_M (by assumption)) ?_); try simp only [wpS, wpA, wpQL, push_cast, Int.cast_ofNat_Int, reduceIte, Nat.reduceEqDiff, reduceCtorEq, Nat.reduceAdd, Nat.reduceSub, Nat.reduceMul, Int.reduceToNat, Nat.reduceLeDiff, hwn, u32_shl (show w < 32 by omega), h0])
    | fail
  all_goals
   refine key _ _ _ ⟨rfl, ?_, rfl⟩
   simp only [*, Bool.false_eq_true, if_true, if_false]
   repeat' first
    | (refine List.forall_mem_cons.2 (And.intro ?_ ?_))
    | (intro _ hnil; cases hnil; done)
    | rfl
    | fail
 rintro ρ2 M2 G2 ⟨rfl, hq, rfl⟩
 refine EV.to (G' := []) ?_ hq (List.Sublist.refl _)
 clear hq
 generalize hs0 : (if (evAt p w).acq then 2 ^ w else 0) = s0
 have hs0l : s0 < 2 ^ p.length := by
  rw [← hs0]; split
  ·exact Nat.pow_lt_pow_right (by decide) hw
  ·exact Nat.two_pow_pos _
 have hww : IntKind.i64.wrap ((w : Int) + 1) = ((w + 1 : Nat) : Int) := w64 (by omega) (by omega)
 repeat' first
   | refine EV.seq ?_
   | refine EV.block ?_
   | (refine EV.reg ?_; (conv => (arg 2; whnf)); (refine nx ?_; try with_reducible exact ⟨⟩))
   | fail
 rw [hww]
 refine EV.loopTo (fun x : Nat × Nat => ([(0, .slice (some ⟨pb, po, none⟩) p.length c), (1, vi w), (5, vu x.2), (6, vi x.1)], M2, [])) (fun x => x.1 ≤ p.length ∧ x.2 < 2 ^ p.length ∧ endsGo p w (p.length - x.1) x.1 x.2 = endsP p w) (fun x => p.length - x.1) (w + 1, s0) rfl ⟨hw, hs0l, by rw [← hs0]; rfl⟩ ?env1 (List.Sublist.refl _) ?_
 case env1 =>
  repeat' first
   | (refine List.forall_mem_cons.2 (And.intro ?_ ?_))
   | (intro _ hnil; cases hnil; done)
   | rfl
   | fail
 rintro ⟨a, s⟩ ⟨hx, hsl, hst⟩ ih
 dsimp only at hx hsl hst ih ⊢
 by_cases ha : a < p.length
 ·have hlt : decide ((a : Int) < p.length) = true := by simpa using ha
  have hpa := hat a (by omega)
  have hpa5 := hpa.pt 5 1 (by omega) rfl
  have hpa0 := hpa.pt 0 1 (by omega) rfl
  have ha1 : (a : Int) < p.length := by omega
  have han : ¬ ((a : Int) < 0) := by omega
  have hor := u32_or2 (x := s) (b := a) (pow32 hsl hb) (by omega)
  have ef : p.length - a = (p.length - (a + 1)) + 1 := by omega
  rw [ef] at hst
  simp only [endsGo] at hst
  repeat' first
    | refine EV.seq ?_
    | refine EV.skip ?_
    | refine EV.block ?_
    | refine EV.inBlock ?_
    | ((first | refine EV.reg ?_ | refine EV.any _ (List.Sublist.refl _) ?_ | fail); (conv => (arg 2; whnf)); simp only [wpS, wpA, wpQL, push_cast, Int.cast_ofNat_Int, reduceIte, Nat.reduceEqDiff, reduceCtorEq, Nat.reduceAdd, Nat.reduceSub, Nat.reduceMul, Int.reduceToNat, Nat.reduceLeDiff, hlt, han, u32_shl (show a < 32 by omega), hor])
    | (refine ConQ.call (ax_acq_q (evAt p a) (ho a (by omega))) ?_; try simp only [wpS, wpA, wpQL, push_cast, Int.cast_ofNat_Int, reduceIte, Nat.reduceEqDiff, reduceCtorEq, Nat.reduceAdd, Nat.reduceSub, Nat.reduceMul, Int.reduceToNat, Nat.reduceLeDiff, hlt, han, u32_shl (show a < 32 by omega), hor])
    | with_reducible assumption
    | (refine condW.merge ?_ (fun hc K' hK => ?_) ?_; rotate_left)
    | (refine condQ.mk ?_ (fun hc => ?_) ?_; rotate_left; (try simp only [decide_eq_true_eq, decide_eq_false_iff_not, Bool.not_eq_true', Bool.not_eq_false', Bool.and_eq_true, Bool.or_eq_true, Bool.and_eq_false_iff, Bool.or_eq_false_iff] at hc))
    | (with_reducible rfl)
    | (refine EV.condX rfl (fun h => ?_) (fun h => ?_) <;> try exact dead h)
    | (refine EV.exit rfl ?_)
    | (refine And.intro (by omega) ?_)
    | (refine Exists.intro _ (And.intro (rd_M (by assumption)) ?_); try simp only [wpS, wpA, wpQL, push_cast, Int.cast_ofNat_Int, reduceIte, Nat.reduceEqDiff, reduceCtorEq, Nat.reduceAdd, Nat.reduceSub, Nat.reduceMul, Int.reduceToNat, Nat.reduceLeDiff, hlt, han, u32_shl (show a < 32 by omega), hor])
    | fail
  ·rw [if_pos (by simp_all), if_pos (by simp_all)] at hst
   refine EV.to (ih (a + 1, s ||| 2 ^ a) ⟨by dsimp only; omega, Nat.or_lt_two_pow hsl (Nat.pow_lt_pow_right (by decide) (by omega)), hst⟩ (by dsimp only; omega)) ?_ (List.Sublist.refl _)
   repeat' first
    | (refine List.forall_mem_cons.2 (And.intro ?_ ?_))
    | (intro _ hnil; cases hnil; done)
    | rfl
    | (refine env_w64 rfl (by first | rfl | (push_cast; first | rfl | omega)) (by omega) (by omega); done)
    | fail
  ·rw [if_pos (by simp_all), if_neg (by grind)] at hst
   refine EV.to (ih (a + 1, s) ⟨by dsimp only; omega, hsl, hst⟩ (by dsimp only; omega)) ?_ (List.Sublist.refl _)
   repeat' first
    | (refine List.forall_mem_cons.2 (And.intro ?_ ?_))
    | (intro _ hnil; cases hnil; done)
    | rfl
    | (refine env_w64 rfl (by first | rfl | (push_cast; first | rfl | omega)) (by omega) (by omega); done)
    | fail
  ·rw [if_neg (by simp_all)] at hst
   refine EV.ret Q19_ok ?_
   simp only [wpS, wpA, wpQL, push_cast, Int.cast_ofNat_Int, reduceIte, Nat.reduceEqDiff, reduceCtorEq, Nat.reduceAdd, Nat.reduceSub, Nat.reduceMul, Int.reduceToNat, Nat.reduceLeDiff, Q19]
   rw [← hst]
 ·have e0 : decide ((a : Int) < p.length) = false := by simp; omega
  have ea : p.length - a = 0 := by omega
  rw [ea] at hst
  repeat' first
    | refine EV.seq ?_
    | ((first | refine EV.reg ?_ | refine EV.any _ (List.Sublist.refl _) ?_ | fail); (conv => (arg 2; whnf)); simp only [wpS, wpA, wpQL, push_cast, Int.cast_ofNat_Int, reduceIte, Nat.reduceEqDiff, reduceCtorEq, Nat.reduceAdd, Nat.reduceSub, Nat.reduceMul, Int.reduceToNat, Nat.reduceLeDiff, e0])
    | (refine condQ.mk ?_ (fun hc => ?_) ?_; rotate_left; (try simp only [decide_eq_true_eq, decide_eq_false_iff_not, Bool.not_eq_true', Bool.not_eq_false', Bool.and_eq_true, Bool.or_eq_true, Bool.and_eq_false_iff, Bool.or_eq_false_iff] at hc))
    | (refine EV.condX rfl (fun h => ?_) (fun h => ?_) <;> try exact dead h)
    | (refine EV.exit rfl ?_)
    | (refine And.intro (by omega) ?_)
    | (exfalso; simp at hc; done)
    | exact false
    | fail
  refine EV.ret Q19_ok ?_
  simp only [wpS, wpA, wpQL, push_cast, Int.cast_ofNat_Int, reduceIte, Nat.reduceEqDiff, reduceCtorEq, Nat.reduceAdd, Nat.reduceSub, Nat.reduceMul, Int.reduceToNat, Nat.reduceLeDiff, Q19]
  rw [← hst]; rfl

theorem ax_steps_c (p : List Ev) (s : Value) (hs : Sl M 6 encEv s p) (hb : p.length ≤ 32) (f d o n : Value) (fen : List Int) (hn : Sl M 1 ei n fen) (hin : InEv p fen) (hfl : fen.length < 1000000) :
  Con Tryz.prog 102 #[s, .agg #[f, d, o, n]] M [] fun v _ G' => ∃ b, v = vrow b p.length p.length ∧ G' = [(b, Cl 144 ((stepsP p fen).map vu))] := by
 have hs0 := hs
 obtain ⟨a, c, rfl, hrd⟩ := hs
 obtain ⟨na, nc, rfl, hrn⟩ := hn
 refine Con.enter Q42_ok (args := [.slice a p.length c, .agg #[f, d, o, .slice na fen.length nc]]) (by simp [Q42]) fun w0 => ?_
 simp only [Q42, argE]
 repeat' first
   | refine EV.seq ?_
   | (refine EV.reg ?_; (conv => (arg 2; whnf)); (refine nx ?_; try with_reducible exact ⟨⟩))
   | (with_reducible intro b; try (refine nx ?_; try with_reducible exact ⟨⟩))
   | fail
 rename Nat => xb
 refine Con.callB (G1 := []) (ax_relation_c _ p (hs0.mono (PHeap.le_add _ _)) hb) (PHeap.le_refl _) (List.Perm.refl _) ?_
 rintro v M' G' ⟨rb, rfl, rfl⟩
 simp only [wpS, wpA, wpQL, push_cast, Int.cast_ofNat_Int, reduceIte, Nat.reduceEqDiff, reduceCtorEq, Nat.reduceAdd, Nat.reduceSub, Nat.reduceMul, Int.reduceToNat, Nat.reduceLeDiff]
 repeat' first
   | refine EV.seq ?_
   | refine EV.block ?_
   | (refine EV.reg ?_; (conv => (arg 2; whnf)); (refine nx ?_; try with_reducible exact ⟨⟩))
   | fail
 refine EV.loopTo (fun x : Nat => ([(0, .slice a p.length c), (3, pv xb 0), (5, vrow rb p.length p.length), (6, vi ((x : Int) + 1))], M, [(xb, Cl 45 [f, d, o, .slice na fen.length nc]), (rb, Cl 144 ((stepsA p x).map vu))]))
  (fun x => x ≤ p.length - 1) (fun x => p.length - x) 0 rfl (Nat.zero_le _) ?env1 (List.Sublist.refl _) ?_
 case env1 =>
  repeat' first
   | (refine List.forall_mem_cons.2 (And.intro ?_ ?_))
   | (intro _ hnil; cases hnil; done)
   | rfl
   | fail
 intro x hx ih
 dsimp only at hx ih ⊢
 have ht : ((x : Int) + 1).toNat = x + 1 := by omega
 have hw1 : IntKind.i64.wrap ((x : Int) + 1 - 1) = x := w64 (by omega) (by omega) |>.trans (by omega)
 repeat' first
   | refine EV.seq ?_
   | refine EV.skip ?_
   | refine EV.block ?_
   | ((first | refine EV.reg ?_ | refine EV.any _ (List.Sublist.refl _) ?_ | fail); (conv => (arg 2; whnf)); simp only [wpS, wpA, wpQL, push_cast, Int.cast_ofNat_Int, reduceIte, Nat.reduceEqDiff, reduceCtorEq, Nat.reduceAdd, Nat.reduceSub, Nat.reduceMul, Int.reduceToNat, Nat.reduceLeDiff, ht, hw1])
   | (refine EV.condX rfl (fun h => ?_) (fun h => ?_) <;> try exact dead h)
   | (refine EV.exit rfl ?_)
   | fail
 ·have hx' : x + 1 < p.length := by omega
  obtain ⟨pb, po, rfl, hat⟩ := Sl.at (enc := encEv) (fun _ => rfl) (by decide) hrd (by omega)
  have hat := Sl.evAt hat
  have hp1 := (hat (x + 1) (by omega)).pt 5 1 (by omega) rfl
  have hp0 := (hat x (by omega)).pt 5 1 (by omega) rfl
  have ih3 := ih (x + 1) (by omega) (by omega)
  rw [show stepsA p (x + 1) = if (evAt p (x + 1)).th = (evAt p x).th then putR (stepsA p x) x (x + 1) else stepsA p x from rfl] at ih3
  have hok := stepsA_ok p x (by omega)
  clear ih
  repeat' first
    | refine EV.skip ?_
    | refine EV.inBlock ?_
    | (refine EV.reg ?_; (conv => (arg 2; whnf)); simp only [wpS, wpA, wpQL, push_cast, Int.cast_ofNat_Int, reduceIte, Nat.reduceEqDiff, reduceCtorEq, Nat.reduceAdd, Nat.reduceSub, Nat.reduceMul, Int.reduceToNat, Nat.reduceLeDiff, ht, hw1])
    | (refine EV.condX rfl (fun h => ?_) (fun h => ?_) <;> try exact dead h)
    | (refine And.intro (by omega) ?_)
    | (refine Exists.intro _ (And.intro (rd_M (by assumption)) ?_); try simp only [wpS, wpA, wpQL, push_cast, Int.cast_ofNat_Int, reduceIte, Nat.reduceEqDiff, reduceCtorEq, Nat.reduceAdd, Nat.reduceSub, Nat.reduceMul, Int.reduceToNat, Nat.reduceLeDiff, ht, hw1])
    | fail
  ·refine Con.callK (ax_putI_c hok hb (by omega) (by omega) (by omega) (by omega)) (PHeap.le_add _ _) ?_
   rintro v M' G' rfl
   rw [if_pos h] at ih3
   simp only [Int.toNat_natCast, ht]
   simp only [wpS, wpA, wpQL, push_cast, Int.cast_ofNat_Int, reduceIte, Nat.reduceEqDiff, reduceCtorEq, Nat.reduceAdd, Nat.reduceSub, Nat.reduceMul, Int.reduceToNat, Nat.reduceLeDiff]
   repeat' first
     | refine EV.inBlock ?_
     | (refine EV.reg ?_; (conv => (arg 2; whnf)); (refine nx ?_; try with_reducible exact ⟨⟩))
     | fail
   refine EV.toS ih3 ?_
   repeat' first
    | (refine List.forall_mem_cons.2 (And.intro ?_ ?_))
    | (intro _ hnil; cases hnil; done)
    | rfl
    | (refine env_w64 rfl (by first | rfl | (push_cast; first | rfl | omega)) (by omega) (by omega); done)
    | fail
  ·rw [if_neg (by simp_all)] at ih3
   refine EV.toS ih3 ?_
   repeat' first
    | (refine List.forall_mem_cons.2 (And.intro ?_ ?_))
    | (intro _ hnil; cases hnil; done)
    | rfl
    | (refine env_w64 rfl (by first | rfl | (push_cast; first | rfl | omega)) (by omega) (by omega); done)
    | fail
 ·have hxe : x = p.length - 1 := by omega
  subst hxe
  clear ih
  have hok := stepsA_ok p (p.length - 1) (Nat.le_refl _)
  repeat' first
    | fail
  refine EV.loopTo (fun x : Nat => ([(0, .slice a p.length c), (3, pv xb 0), (5, vrow rb p.length p.length), (7, vi ((x : Int) + 1))], M, [(xb, Cl 45 [f, d, o, .slice na fen.length nc]), (rb, Cl 144 ((stepsB (stepsA p (p.length - 1)) fen x).map vu))]))
   (fun x => x ≤ fen.length - 1) (fun x => fen.length - x) 0 rfl (Nat.zero_le _) ?env2 (List.Sublist.refl _) ?_
  case env2 =>
   repeat' first
    | (refine List.forall_mem_cons.2 (And.intro ?_ ?_))
    | (intro _ hnil; cases hnil; done)
    | rfl
    | fail
  intro x hx ih
  dsimp only at hx ih ⊢
  have ht : ((x : Int) + 1).toNat = x + 1 := by omega
  have hw1 : IntKind.i64.wrap ((x : Int) + 1 - 1) = x := w64 (by omega) (by omega) |>.trans (by omega)
  repeat' first
    | refine EV.seq ?_
    | refine EV.skip ?_
    | refine EV.block ?_
    | (refine EV.reg ?_; (conv => (arg 2; whnf)); simp only [wpS, wpA, wpQL, push_cast, Int.cast_ofNat_Int, reduceIte, Nat.reduceEqDiff, reduceCtorEq, Nat.reduceAdd, Nat.reduceSub, Nat.reduceMul, Int.reduceToNat, Nat.reduceLeDiff, ht, hw1])
    | (refine EV.condX rfl (fun h => ?_) (fun h => ?_) <;> try exact dead h)
    | (refine EV.exit rfl ?_)
    | (refine xsA rfl ?_; try simp only [wpS, wpA, wpQL, push_cast, Int.cast_ofNat_Int, reduceIte, Nat.reduceEqDiff, reduceCtorEq, Nat.reduceAdd, Nat.reduceSub, Nat.reduceMul, Int.reduceToNat, Nat.reduceLeDiff, ht, hw1])
    | fail
  ·have hx' : x + 1 < fen.length := by omega
   obtain ⟨pb, po, rfl, hat⟩ := Sl.at (sz := 1) (enc := ei) (fun _ => rfl) (by decide) hrn (by omega)
   have hp1 := hat (x + 1) (by omega)
   have hp0 := hat x (by omega)
   have q1 := hin.at (k := x + 1) hx'
   have q0 := hin.at (k := x) (by omega)
   rw [Nat.mul_one] at hp1 hp0
   rw [← show fen[x + 1]?.getD 0 = fen[x + 1] from by rw [List.getElem?_eq_getElem hx']; rfl] at hp1
   rw [← show fen[x]?.getD 0 = fen[x] from by rw [List.getElem?_eq_getElem]; rfl] at hp0
   have ih3 := ih (x + 1) (by omega) (by omega)
   rw [show stepsB (stepsA p (p.length - 1)) fen (x + 1) = putR (stepsB (stepsA p (p.length - 1)) fen x) (fen[x]?.getD 0).toNat (fen[x + 1]?.getD 0).toNat from rfl] at ih3
   have hokb := stepsB_ok hok hin x (by omega)
   generalize fen[x]?.getD 0 = ea at *
   generalize fen[x + 1]?.getD 0 = eb2 at *
   clear ih
   refine EV.any (t := Q42_9) _ (List.Sublist.refl _) ?_
   simp only [wpS, wpA, wpQL, push_cast, Int.cast_ofNat_Int, reduceIte, Nat.reduceEqDiff, reduceCtorEq, Nat.reduceAdd, Nat.reduceSub, Nat.reduceMul, Int.reduceToNat, Nat.reduceLeDiff, Q42_9]
   repeat' first
     | (refine And.intro (by omega) ?_)
     | ((first | refine Exists.intro _ (And.intro (rd_M (by assumption)) ?_) | refine xsA rfl ?_ | fail); try simp only [wpS, wpA, wpQL, push_cast, Int.cast_ofNat_Int, reduceIte, Nat.reduceEqDiff, reduceCtorEq, Nat.reduceAdd, Nat.reduceSub, Nat.reduceMul, Int.reduceToNat, Nat.reduceLeDiff, ht, hw1])
     | fail
   refine Con.callK (ax_putI_c hokb hb (by omega) (by omega) (by omega) (by omega)) (PHeap.le_add _ _) ?_
   rintro v M' G' rfl
   simp only [wpS, wpA, wpQL, push_cast, Int.cast_ofNat_Int, reduceIte, Nat.reduceEqDiff, reduceCtorEq, Nat.reduceAdd, Nat.reduceSub, Nat.reduceMul, Int.reduceToNat, Nat.reduceLeDiff]
   repeat' first
     | refine EV.inBlock ?_
     | (refine EV.reg ?_; (conv => (arg 2; whnf)); simp only [wpS, wpA, wpQL, push_cast, Int.cast_ofNat_Int, reduceIte, Nat.reduceEqDiff, reduceCtorEq, Nat.reduceAdd, Nat.reduceSub, Nat.reduceMul, Int.reduceToNat, Nat.reduceLeDiff, ht, hw1])
     | fail
   refine EV.toS ih3 ?_
   repeat' first
    | (refine List.forall_mem_cons.2 (And.intro ?_ ?_))
    | (intro _ hnil; cases hnil; done)
    | rfl
    | (refine env_w64 rfl (by first | rfl | (push_cast; first | rfl | omega)) (by omega) (by omega); done)
    | fail
  ·have hxe : x = fen.length - 1 := by omega
   subst hxe
   refine EV.toS (ρ' := [(4, vrow rb p.length p.length)]) (G' := [(rb, Cl 144 ((stepsB (stepsA p (p.length - 1)) fen (fen.length - 1)).map vu))]) ?_ ?env3
   case env3 =>
    repeat' first
     | (refine List.forall_mem_cons.2 (And.intro ?_ ?_))
     | (intro _ hnil; cases hnil; done)
     | rfl
     | fail
   refine EV.ret Q42_ok ?_
   simp only [wpS, wpA, wpQL, push_cast, Int.cast_ofNat_Int, reduceIte, Nat.reduceEqDiff, reduceCtorEq, Nat.reduceAdd, Nat.reduceSub, Nat.reduceMul, Int.reduceToNat, Nat.reduceLeDiff, Q42]
   exact ⟨rb, rfl, rfl⟩

end
end Go.EV

namespace Go.EV
open Go.Proofs

/-- An execution. -/
structure Exec where
 frm : List Int
 dn : List Bool
 ord : List (List Int)
 fen : List Int

structure POk (p : List Ev) : Prop where
 len : p.length ≤ 32
 ord : OrdOk p
 loc : ∀ i, i < p.length → 0 ≤ (evAt p i).op.loc ∧ (evAt p i).op.loc < 3

structure XOk (p : List Ev) (e : Exec) : Prop where
 fl : e.frm.length = p.length
 dl : e.dn.length = p.length
 ol : e.ord.length = 3
 fr : ∀ i : Nat, i < p.length → e.frm[i]?.getD 0 < p.length ∧ ((evAt p i).reads = true → -1 ≤ e.frm[i]?.getD 0)
 oin : ∀ l ∈ e.ord, InEv p l ∧ l.length ≤ p.length
 fin : InEv p e.fen ∧ e.fen.length ≤ p.length

theorem XOk.fromOk {p : List Ev} {e : Exec} (h : XOk p e) : FromOk p e.frm := ⟨h.fl, fun i hi hr => by
 have := h.fr i hi
 have h2 := this.2 hr
 omega⟩

def IsX (M : PHeap) (v : Value) (e : Exec) : Prop := ∃ f d o n, v = .agg #[f, d, o, n] ∧ Sl M 1 ei f e.frm ∧ Sl M 1 eb d e.dn ∧ SlSlC M 1 ei o e.ord ∧ Sl M 1 ei n e.fen

theorem IsX.mono {M M' : PHeap} (hM : M.le M') {v : Value} {e : Exec} (h : IsX M v e) : IsX M' v e := by
 obtain ⟨f, d, o, n, rfl, h1, h2, h3, h4⟩ := h
 exact ⟨f, d, o, n, rfl, h1.mono hM, h2.mono hM, h3.mono hM, h4.mono hM⟩

def exchP (p : List Ev) (e : Exec) (w : Nat) : Bool := (evAt p w).reads && (e.dn[w]?.getD false)
def frmAt (e : Exec) (i : Nat) : Int := e.frm[i]?.getD 0

def chainGo (p : List Ev) (e : Exec) : Nat → Nat → Nat → Nat
 | 0, _, s => s
 | k + 1, w, s => if exchP p e w = true ∧ 0 ≤ frmAt e w then chainGo p e k (frmAt e w).toNat (s ||| startsP p w) else s ||| startsP p w
def headsP (p : List Ev) (e : Exec) (r : Nat) : Nat := chainGo p e p.length (frmAt e r).toNat 0
def orAll (q : Rel) (set to : Nat) : Nat → Rel
 | 0 => q
 | a + 1 => if set.testBit a then orR (orAll q set to a) a to else orAll q set to a
def befGo (p : List Ev) (e : Exec) : Nat → Rel
 | 0 => stepsP p e.fen
 | r + 1 => if (evAt p r).reads = true ∧ 0 ≤ frmAt e r then orAll (befGo p e r) (headsP p e r) (endsP p r) p.length else befGo p e r
def beforeP (p : List Ev) (e : Exec) : Rel := closeR (befGo p e p.length)

theorem chainGo_lt {p : List Ev} {e : Exec} (hx : XOk p e) : ∀ (k w s : Nat), w < p.length → s < 2 ^ p.length → chainGo p e k w s < 2 ^ p.length
 | 0, _, _, _, h => h
 | k + 1, w, s, hw, h => by
  have hs : s ||| startsP p w < 2 ^ p.length := Nat.or_lt_two_pow h (startsP_lt hw)
  simp only [chainGo]
  split
  ·rename_i hc
   have := (hx.fr w hw).1
   exact chainGo_lt hx k _ _ (by simp only [frmAt] at hc ⊢; omega) hs
  ·exact hs

theorem orAll_ok {n : Nat} {q : Rel} (hq : RelOk n q) {set to : Nat} (ht : to < 2 ^ n) : ∀ a, RelOk n (orAll q set to a)
 | 0 => hq
 | a + 1 => by
  simp only [orAll]
  split
  ·exact (orAll_ok hq ht a).or a ht
  ·exact orAll_ok hq ht a

theorem befGo_ok {p : List Ev} {e : Exec} (hx : XOk p e) : ∀ r, r ≤ p.length → RelOk p.length (befGo p e r)
 | 0, _ => stepsP_ok hx.fin.1
 | r + 1, h => by
  simp only [befGo]
  split
  ·exact orAll_ok (befGo_ok hx r (by omega)) (endsP_lt (by omega)) _
  ·exact befGo_ok hx r (by omega)

section
variable {M : PHeap}

set_option maxHeartbeats 4000000 in
theorem ax_before_c (p : List Ev) (s : Value) (hs : Sl M 6 encEv s p) (hp : POk p) (e : Exec) (v : Value) (hv : IsX M v e) (hx : XOk p e) :
  Con Tryz.prog 67 #[s, v] M [] fun v _ G' => ∃ b, v = vrow b p.length p.length ∧ G' = [(b, Cl 144 ((beforeP p e).map vu))] := by
 have hs0 := hs
 have hb := hp.len
 obtain ⟨a, c, rfl, hrd⟩ := hs
 obtain ⟨f, d, o, n, rfl, hf, hd, ho, hn⟩ := hv
 have hd0 := hd
 obtain ⟨fa, fc, rfl, hrf⟩ := hf
 obtain ⟨da, dc, rfl, hrdn⟩ := hd
 have hfl := hx.fl
 refine Con.enter Q13_ok (args := [.slice a p.length c, .agg #[.slice fa e.frm.length fc, .slice da e.dn.length dc, o, n]]) (by simp [Q13]) fun w0 => ?_
 simp only [Q13, argE]
 repeat' first
   | refine EV.seq ?_
   | (refine EV.reg ?_; (conv => (arg 2; whnf)); (refine nx ?_; try with_reducible exact ⟨⟩))
   | ((first | with_reducible intro b | refine xrA rfl ?_ | fail); try (refine nx ?_; try with_reducible exact ⟨⟩))
   | fail
 rename Nat => xb
 have hxf := hx.fin.2
 refine Con.callB (G1 := []) (ax_steps_c p _ (hs0.mono (PHeap.le_add _ _)) hb _ _ _ _ e.fen (hn.mono (PHeap.le_add _ _)) hx.fin.1 (by omega)) (PHeap.le_refl _) (List.Perm.refl _) ?_
 rintro v M' G' ⟨rb, rfl, rfl⟩
 simp only [wpS, wpA, wpQL, push_cast, Int.cast_ofNat_Int, reduceIte, Nat.reduceEqDiff, reduceCtorEq, Nat.reduceAdd, Nat.reduceSub, Nat.reduceMul, Int.reduceToNat, Nat.reduceLeDiff]
 repeat' first
   | refine EV.seq ?_
   | refine EV.block ?_
   | (refine EV.reg ?_; (conv => (arg 2; whnf)); (refine nx ?_; try with_reducible exact ⟨⟩))
   | fail
 refine EV.loopTo (fun r : Nat => ([(0, .slice a p.length c), (3, pv xb 0), (5, vrow rb p.length p.length), (15, vi p.length), (16, vi r)], M, [(xb, Cl 45 [.slice fa e.frm.length fc, .slice da e.dn.length dc, o, n]), (rb, Cl 144 ((befGo p e r).map vu))]))
  (fun r => r ≤ p.length) (fun r => p.length - r) 0 rfl (Nat.zero_le _) ?env1 (List.Sublist.refl _) ?_
 case env1 =>
  repeat' first
   | (refine List.forall_mem_cons.2 (And.intro ?_ ?_))
   | (intro _ hnil; cases hnil; done)
   | rfl
   | fail
 intro r hr ih
 dsimp only at hr ih ⊢
 repeat' first
   | refine EV.seq ?_
   | refine EV.skip ?_
   | refine EV.block ?_
   | (refine EV.reg ?_; (conv => (arg 2; whnf)); (refine nx ?_; try with_reducible exact ⟨⟩))
   | (refine EV.condX rfl (fun h => ?_) (fun h => ?_) <;> try exact dead h)
   | (refine EV.exit rfl ?_)
   | fail
 ·have hr' : r < p.length := by omega
  obtain ⟨pb, po, rfl, hat⟩ := Sl.at (enc := encEv) (fun _ => rfl) (by decide) hrd (by omega)
  obtain ⟨fb, fo, rfl, hat2⟩ := Sl.at (sz := 1) (enc := ei) (fun _ => rfl) (by decide) hrf (by omega)
  have hat := Sl.evAt hat
  have hatf : ∀ i, i < p.length → rd M fb (fo + i) 1 [vi (frmAt e i)] := by
   intro i hi
   have := hat2 i (by omega)
   rw [Nat.mul_one] at this
   simp only [frmAt]
   rwa [List.getElem?_eq_getElem (by omega : i < e.frm.length)]
  have hpr := hat r hr'
  have hfr := hatf r hr'
  have hlt : ∀ i, i < p.length → frmAt e i < p.length := fun i hi => (hx.fr i hi).1
  have hltr := hlt r hr'
  have hfI : (r : Int) < e.frm.length := by omega
  have ih3 := ih (r + 1) (by omega) (by omega)
  rw [show befGo p e (r + 1) = if (evAt p r).reads = true ∧ 0 ≤ frmAt e r then orAll (befGo p e r) (headsP p e r) (endsP p r) p.length else befGo p e r from rfl] at ih3
  have hok := befGo_ok hx r (by omega)
  generalize befGo p e r = q at *
  clear ih hat2
  repeat' first
    | refine EV.skip ?_
    | (refine EV.reg ?_; (conv => (arg 2; whnf)); (refine nx ?_; try with_reducible exact ⟨⟩))
    | with_reducible assumption
    | (refine ConQ.call (ax_reads_q (evAt p r)) ?_; try (refine nx ?_; try with_reducible exact ⟨⟩))
    | (refine condW.merge ?_ (fun hc K' hK => ?_) ?_; rotate_left)
    | (refine EV.condX rfl (fun h => ?_) (fun h => ?_) <;> try exact dead h)
    | (refine EV.exit rfl ?_)
    | (refine And.intro (by omega) ?_)
    | ((first | refine Exists.intro _ (And.intro (rd_M (by assumption)) ?_) | refine xsA rfl ?_ | fail); try (refine nx ?_; try with_reducible exact ⟨⟩))
    | fail
  ·rw [if_neg (by grind)] at ih3
   refine EV.toS ih3 ?_
   repeat' first
    | (refine List.forall_mem_cons.2 (And.intro ?_ ?_))
    | (intro _ hnil; cases hnil; done)
    | rfl
    | (refine env_w64 rfl (by first | rfl | (push_cast; first | rfl | omega)) (by omega) (by omega); done)
    | fail
  ·obtain ⟨hre, hge⟩ := h
   have hge : 0 ≤ frmAt e r := by omega
   rw [if_pos ⟨hre, hge⟩] at ih3
   obtain ⟨w0', hw0⟩ := Int.eq_ofNat_of_zero_le hge
   refine EV.seq ?_
   repeat' first
     | (refine EV.reg ?_; (conv => (arg 2; whnf)); (refine nx ?_; try with_reducible exact ⟨⟩))
     | fail
   refine EV.seq ?_
   repeat' first
     | (refine EV.reg ?_; (conv => (arg 2; whnf)); (refine nx ?_; try with_reducible exact ⟨⟩))
     | (refine And.intro (by omega) ?_)
     | ((first | refine Exists.intro _ (And.intro (rd_M (by assumption)) ?_) | refine xsA rfl ?_ | fail); try (refine nx ?_; try with_reducible exact ⟨⟩))
     | fail
   refine EV.seq (EV.thru (fun ρ' M' G' => M' = M ∧ (∀ q ∈ [(0, .slice (some ⟨pb, po, none⟩) p.length c), (3, pv xb 0), (5, vrow rb p.length p.length), (6, vi r), (7, vu (headsP p e r)), (15, vi p.length), (16, vi r)], get ρ' q.1 = some q.2) ∧
    G' = [(xb, Cl 45 [.slice (some ⟨fb, fo, none⟩) e.frm.length fc, .slice da e.dn.length dc, o, n]), (rb, Cl 144 (q.map vu))]) ?_ ?_)
   ·intro k' key
    clear ih3
    repeat' first
      | refine EV.seq ?_
      | refine EV.block ?_
      | (refine EV.reg ?_; (conv => (arg 2; whnf)); (refine nx ?_; try with_reducible exact ⟨⟩))
      | fail
    refine EV.loopTo (fun x : Nat × Nat × Nat => ([(0, .slice (some ⟨pb, po, none⟩) p.length c), (3, pv xb 0), (5, vrow rb p.length p.length), (6, vi r), (7, vu x.2.2), (8, vi x.2.1), (15, vi p.length), (16, vi r), (39, vi p.length), (40, vi x.1)], M, [(xb, Cl 45 [.slice (some ⟨fb, fo, none⟩) e.frm.length fc, .slice da e.dn.length dc, o, n]), (rb, Cl 144 (q.map vu))]))
     (fun x => x.1 ≤ p.length ∧ x.2.1 < p.length ∧ x.2.2 < 2 ^ p.length ∧ chainGo p e (p.length - x.1) x.2.1 x.2.2 = headsP p e r) (fun x => p.length - x.1) (0, w0', 0) rfl ⟨Nat.zero_le _, by dsimp only; omega, Nat.two_pow_pos _, by simp only [headsP, hw0, Nat.sub_zero, Int.toNat_natCast]⟩ ?env2 (List.Sublist.refl _) ?_
    case env2 =>
     repeat' first
      | (refine List.forall_mem_cons.2 (And.intro ?_ ?_))
      | (intro _ hnil; cases hnil; done)
      | rfl
      | (simp (disch := omega) only [get_cons, get_nil, reduceIte, Nat.reduceEqDiff, Option.some.injEq, Value.int.injEq, w64, Int.natCast_add, Int.natCast_one, Int.cast_ofNat_Int, Int.natCast_zero, hw0]; done)
      | fail
    rintro ⟨j, w, s⟩ ⟨hj, hw, hs, hst⟩ ih
    dsimp only at hj hw hs hst ih ⊢
    repeat' first
      | refine EV.seq ?_
      | refine EV.skip ?_
      | refine EV.block ?_
      | (refine EV.reg ?_; (conv => (arg 2; whnf)); (refine nx ?_; try with_reducible exact ⟨⟩))
      | (refine EV.condX rfl (fun h => ?_) (fun h => ?_) <;> try exact dead h)
      | (refine EV.exit rfl ?_)
      | fail
    ·have hsl := startsP_lt hw
     have hor := u32_or (pow32 hs hb) (pow32 hsl hb)
     have hfw := hatf w hw
     have hltw := hlt w hw
     have hwI : (w : Int) < e.frm.length := by omega
     have ef : p.length - j = (p.length - (j + 1)) + 1 := by omega
     rw [ef] at hst
     simp only [chainGo] at hst
     repeat' first
       | refine EV.seq ?_
       | refine EV.skip ?_
       | refine EV.inBlock ?_
       | (refine EV.reg ?_; (conv => (arg 2; whnf)); simp only [wpS, wpA, wpQL, push_cast, Int.cast_ofNat_Int, reduceIte, Nat.reduceEqDiff, reduceCtorEq, Nat.reduceAdd, Nat.reduceSub, Nat.reduceMul, Int.reduceToNat, Nat.reduceLeDiff, hor])
       | ((first | refine ConQ.call (ax_exchanged_q p _ (hs0.mono (PHeap.le_add _ _)) (by omega) _ _ _ _ e.dn (hd0.mono (PHeap.le_add _ _)) w hw hx.dl) ?_ | refine ConQ.call (ax_starts_q p _ (hs0.mono (PHeap.le_add _ _)) hb hp.ord w hw) ?_ | fail); try simp only [wpS, wpA, wpQL, push_cast, Int.cast_ofNat_Int, reduceIte, Nat.reduceEqDiff, reduceCtorEq, Nat.reduceAdd, Nat.reduceSub, Nat.reduceMul, Int.reduceToNat, Nat.reduceLeDiff, hor])
       | with_reducible assumption
       | (refine condW.merge ?_ (fun hc K' hK => ?_) ?_; rotate_left)
       | (refine EV.condX rfl (fun h => ?_) (fun h => ?_) <;> try exact dead h)
       | (refine EV.exit rfl ?_)
       | (refine And.intro (by omega) ?_)
       | ((first | refine Exists.intro _ (And.intro (rd_M (by assumption)) ?_) | refine xrA rfl ?_ | refine xsA rfl ?_ | fail); try simp only [wpS, wpA, wpQL, push_cast, Int.cast_ofNat_Int, reduceIte, Nat.reduceEqDiff, reduceCtorEq, Nat.reduceAdd, Nat.reduceSub, Nat.reduceMul, Int.reduceToNat, Nat.reduceLeDiff, hor])
       | fail
     ·rw [if_neg (show ¬ (exchP p e w = true ∧ 0 ≤ frmAt e w) by simp only [exchP]; grind)] at hst
      refine key _ _ _ ⟨rfl, ?_, rfl⟩
      simp only [hst]
      repeat' first
       | (refine List.forall_mem_cons.2 (And.intro ?_ ?_))
       | (intro _ hnil; cases hnil; done)
       | rfl
       | fail
     ·rw [if_pos (show exchP p e w = true ∧ 0 ≤ frmAt e w by simp only [exchP]; grind)] at hst
      obtain ⟨w1, hw1⟩ := Int.eq_ofNat_of_zero_le (show 0 ≤ frmAt e w by omega)
      rw [hw1, Int.toNat_natCast] at hst
      refine EV.toS (ih (j + 1, w1, s ||| startsP p w) ⟨by dsimp only; omega, by dsimp only; omega, Nat.or_lt_two_pow hs hsl, hst⟩ (by dsimp only; omega)) ?_
      simp only [hw1]
      repeat' first
       | (refine List.forall_mem_cons.2 (And.intro ?_ ?_))
       | (intro _ hnil; cases hnil; done)
       | rfl
       | (refine env_w64 rfl (by first | rfl | (push_cast; first | rfl | omega)) (by omega) (by omega); done)
       | fail
    ·have : p.length - j = 0 := by omega
     rw [this] at hst
     simp only [chainGo] at hst
     refine key _ _ _ ⟨rfl, ?_, rfl⟩
     repeat' first
      | (refine List.forall_mem_cons.2 (And.intro ?_ ?_))
      | (intro _ hnil; cases hnil; done)
      | rfl
      | (simp (disch := omega) only [get_cons, get_nil, reduceIte, Nat.reduceEqDiff, Option.some.injEq, Value.int.injEq, w64, Int.natCast_add, Int.natCast_one, Int.cast_ofNat_Int, Int.natCast_zero, hst]; done)
      | fail
   rintro ρ2 M2 G2 ⟨rfl, hq, rfl⟩
   refine EV.to ?_ hq (List.Sublist.refl _)
   clear hq
   have hh : headsP p e r < 2 ^ p.length := chainGo_lt hx _ _ _ (by omega) (Nat.two_pow_pos _)
   have he := endsP_lt hr'
   repeat' first
     | refine EV.seq ?_
     | refine EV.block ?_
     | (refine EV.reg ?_; (conv => (arg 2; whnf)); (refine nx ?_; try with_reducible exact ⟨⟩))
     | (refine ConQ.call (ax_ends_q p _ (hs0.mono (PHeap.le_add _ _)) hb hp.ord r hr') ?_; try (refine nx ?_; try with_reducible exact ⟨⟩))
     | fail
   refine EV.loopTo (fun x : Nat => ([(0, .slice (some ⟨pb, po, none⟩) p.length c), (3, pv xb 0), (5, vrow rb p.length p.length), (6, vi r), (7, vu (headsP p e r)), (9, vu (endsP p r)), (15, vi p.length), (16, vi r), (70, vi p.length), (71, vi x)], M2, [(xb, Cl 45 [.slice (some ⟨fb, fo, none⟩) e.frm.length fc, .slice da e.dn.length dc, o, n]), (rb, Cl 144 ((orAll q (headsP p e r) (endsP p r) x).map vu))]))
    (fun x => x ≤ p.length) (fun x => p.length - x) 0 rfl (Nat.zero_le _) ?env3 (List.Sublist.refl _) ?_
   case env3 =>
    repeat' first
     | (refine List.forall_mem_cons.2 (And.intro ?_ ?_))
     | (intro _ hnil; cases hnil; done)
     | rfl
     | fail
   intro x hxl ih
   dsimp only at hxl ih ⊢
   have hok2 := orAll_ok (set := headsP p e r) hok he x
   by_cases hx' : x < p.length
   ·have hxI : (x : Int) < p.length := by omega
    have ih4 := ih (x + 1) (by omega) (by omega)
    rw [show orAll q (headsP p e r) (endsP p r) (x + 1) = if (headsP p e r).testBit x then orR (orAll q (headsP p e r) (endsP p r) x) x (endsP p r) else orAll q (headsP p e r) (endsP p r) x from rfl] at ih4
    generalize orAll q (headsP p e r) (endsP p r) x = q2 at *
    generalize headsP p e r = hh2 at *
    generalize endsP p r = ee2 at *
    obtain ⟨hal, ea⟩ := hok2.get hx'
    have hxa := hok2.at hb x
    simp only [orR, ea] at ih4 hxa
    have hqn := hok2.len
    have hbit := u32_bit (b := x) (pow32 hh hb) (by omega)
    have hor := u32_or hxa (pow32 he hb)
    have hxn : ¬ ((x : Int) < 0) := by omega
    clear ih ih3
    repeat' first
      | refine EV.seq ?_
      | refine EV.skip ?_
      | refine EV.block ?_
      | refine EV.inBlock ?_
      | (refine EV.reg ?_; (conv => (arg 2; whnf)); simp only [wpS, wpA, wpQL, push_cast, Int.cast_ofNat_Int, reduceIte, Nat.reduceEqDiff, reduceCtorEq, Nat.reduceAdd, Nat.reduceSub, Nat.reduceMul, Int.reduceToNat, Nat.reduceLeDiff, hbit, hor, hxn, row_st, hx', List.length_map, hqn])
      | (refine Exists.intro _ (And.intro (rowAt (f := vu) hal) ?_); try simp only [wpS, wpA, wpQL, push_cast, Int.cast_ofNat_Int, reduceIte, Nat.reduceEqDiff, reduceCtorEq, Nat.reduceAdd, Nat.reduceSub, Nat.reduceMul, Int.reduceToNat, Nat.reduceLeDiff, hbit, hor, hxn, row_st, hx', List.length_map, hqn])
      | (refine EV.condX rfl (fun h => ?_) (fun h => ?_) <;> try exact dead h)
      | (refine And.intro (by omega) ?_)
      | (refine xw ?_; simp only [wpS, wpA, wpQL, push_cast, Int.cast_ofNat_Int, reduceIte, Nat.reduceEqDiff, reduceCtorEq, Nat.reduceAdd, Nat.reduceSub, Nat.reduceMul, Int.reduceToNat, Nat.reduceLeDiff, hbit, hor, hxn, row_st, hx', List.length_map, hqn])
      | fail
    ·rw [if_pos (by assumption)] at ih4
     refine EV.toS ih4 ?_
     repeat' first
      | (refine List.forall_mem_cons.2 (And.intro ?_ ?_))
      | (intro _ hnil; cases hnil; done)
      | rfl
      | (refine env_w64 rfl (by first | rfl | (push_cast; first | rfl | omega)) (by omega) (by omega); done)
      | fail
    ·rw [if_neg (by simp_all)] at ih4
     refine EV.toS ih4 ?_
     repeat' first
      | (refine List.forall_mem_cons.2 (And.intro ?_ ?_))
      | (intro _ hnil; cases hnil; done)
      | rfl
      | (refine env_w64 rfl (by first | rfl | (push_cast; first | rfl | omega)) (by omega) (by omega); done)
      | fail
   ·have hxe : x = p.length := by omega
    subst hxe
    repeat' first
      | refine EV.seq ?_
      | refine EV.inBlock ?_
      | (refine EV.reg ?_; (conv => (arg 2; whnf)); (refine nx ?_; try with_reducible exact ⟨⟩))
      | (refine EV.condX rfl (fun h => ?_) (fun h => ?_) <;> try exact dead h)
      | (refine EV.exit rfl ?_)
      | fail
    refine EV.toS ih3 ?_
    repeat' first
     | (refine List.forall_mem_cons.2 (And.intro ?_ ?_))
     | (intro _ hnil; cases hnil; done)
     | rfl
     | (refine env_w64 rfl (by first | rfl | (push_cast; first | rfl | omega)) (by omega) (by omega); done)
     | fail
 ·have hxe : r = p.length := by omega
  subst hxe
  have hok := befGo_ok hx p.length (Nat.le_refl _)
  refine Con.callK (ax_close_c hok hb) (PHeap.le_add _ _) ?_
  rintro v M' G' ⟨rfl, rfl⟩
  simp only [wpS, wpA, wpQL, push_cast, Int.cast_ofNat_Int, reduceIte, Nat.reduceEqDiff, reduceCtorEq, Nat.reduceAdd, Nat.reduceSub, Nat.reduceMul, Int.reduceToNat, Nat.reduceLeDiff]
  repeat' first
    | fail
  refine EV.toS (ρ' := [(4, vrow rb p.length p.length)]) (G' := [(rb, Cl 144 ((closeR (befGo p e p.length)).map vu))]) ?_ ?env4
  case env4 =>
   repeat' first
    | (refine List.forall_mem_cons.2 (And.intro ?_ ?_))
    | (intro _ hnil; cases hnil; done)
    | rfl
    | fail
  refine EV.ret Q13_ok ?_
  simp only [wpS, wpA, wpQL, push_cast, Int.cast_ofNat_Int, reduceIte, Nat.reduceEqDiff, reduceCtorEq, Nat.reduceAdd, Nat.reduceSub, Nat.reduceMul, Int.reduceToNat, Nat.reduceLeDiff, Q13]
  exact ⟨rb, rfl, rfl⟩

end
end Go.EV

namespace Go.EV
open Go.Proofs

def numAt (l : List Int) (i : Nat) : Int := l[i]?.getD 0
def comC (q : Rel) (l : List Int) (i : Nat) : Nat → Rel
 | 0 => q
 | j + 1 => putR (comC q l i j) (numAt l i).toNat (numAt l (i + 1 + j)).toNat
def comB (q : Rel) (l : List Int) : Nat → Rel
 | 0 => q
 | i + 1 => comC (comB q l i) l i (l.length - (i + 1))
def comA (q : Rel) (ord : List (List Int)) : Nat → Rel
 | 0 => q
 | k + 1 => comB (comA q ord k) (ord[k]?.getD []) (ord[k]?.getD []).length
def comE (q : Rel) (r : Nat) (fr : Int) (l : List Int) : Nat → Rel × Bool
 | 0 => (q, decide (fr = -1))
 | i + 1 => (if (comE q r fr l i).2 = true ∧ numAt l i ≠ r then putR (comE q r fr l i).1 r (numAt l i).toNat else (comE q r fr l i).1, (comE q r fr l i).2 || decide (numAt l i = fr))
def ordAt (p : List Ev) (e : Exec) (r : Nat) : List Int := e.ord[(evAt p r).op.loc.toNat]?.getD []
def comD1 (q : Rel) (e : Exec) (r : Nat) : Rel := if 0 ≤ frmAt e r then putR q (frmAt e r).toNat r else q
def comD (p : List Ev) (e : Exec) : Nat → Rel
 | 0 => comA (List.replicate p.length 0) e.ord e.ord.length
 | r + 1 => if (evAt p r).reads = true then (comE (comD1 (comD p e r) e r) r (frmAt e r) (ordAt p e r) (ordAt p e r).length).1 else comD p e r
def comP (p : List Ev) (e : Exec) : Rel := closeR (comD p e p.length)

theorem numAt_in {p : List Ev} {l : List Int} (h : InEv p l) {k : Nat} (hk : k < l.length) : 0 ≤ numAt l k ∧ numAt l k < p.length := h.at hk

theorem comC_ok {p : List Ev} {q : Rel} (hq : RelOk p.length q) {l : List Int} (hl : InEv p l) (i : Nat) : ∀ j, i + 1 + j ≤ l.length → RelOk p.length (comC q l i j)
 | 0, _ => hq
 | j + 1, h => by
  have := numAt_in hl (k := i + 1 + j) (by omega)
  exact (comC_ok hq hl i j (by omega)).put _ (by omega)
theorem comB_ok {p : List Ev} {q : Rel} (hq : RelOk p.length q) {l : List Int} (hl : InEv p l) : ∀ i, i ≤ l.length → RelOk p.length (comB q l i)
 | 0, _ => hq
 | i + 1, h => comC_ok (comB_ok hq hl i (by omega)) hl i _ (by omega)
theorem comA_ok {p : List Ev} {q : Rel} (hq : RelOk p.length q) {ord : List (List Int)} (ho : ∀ l ∈ ord, InEv p l ∧ l.length ≤ p.length) : ∀ k, k ≤ ord.length → RelOk p.length (comA q ord k)
 | 0, _ => hq
 | k + 1, h => by
  have hk : k < ord.length := by omega
  have e : ord[k]?.getD [] = ord[k] := by rw [List.getElem?_eq_getElem hk]; rfl
  simp only [comA, e]
  exact comB_ok (comA_ok hq ho k (by omega)) (ho _ (List.getElem_mem hk)).1 _ (Nat.le_refl _)
theorem comE_ok {p : List Ev} {q : Rel} (hq : RelOk p.length q) {r : Nat} {fr : Int} {l : List Int} (hl : InEv p l) : ∀ i, i ≤ l.length → RelOk p.length (comE q r fr l i).1
 | 0, _ => hq
 | i + 1, h => by
  have := numAt_in hl (k := i) (by omega)
  simp only [comE]
  split
  ·exact (comE_ok hq hl i (by omega)).put _ (by omega)
  ·exact comE_ok hq hl i (by omega)
theorem comD1_ok {p : List Ev} {q : Rel} (hq : RelOk p.length q) {e : Exec} {r : Nat} (hr : r < p.length) : RelOk p.length (comD1 q e r) := by
 simp only [comD1]; split
 ·exact hq.put _ hr
 ·exact hq
theorem ordAt_in {p : List Ev} (hp : POk p) {e : Exec} (hx : XOk p e) {r : Nat} (hr : r < p.length) : ∃ h : (evAt p r).op.loc.toNat < e.ord.length, ordAt p e r = e.ord[(evAt p r).op.loc.toNat] ∧ InEv p (ordAt p e r) ∧ (ordAt p e r).length ≤ p.length := by
 have := hp.loc r hr
 have hl : (evAt p r).op.loc.toNat < e.ord.length := by rw [hx.ol]; omega
 have e1 : ordAt p e r = e.ord[(evAt p r).op.loc.toNat] := by simp only [ordAt]; rw [List.getElem?_eq_getElem hl]; rfl
 have := hx.oin _ (List.getElem_mem hl)
 exact ⟨hl, e1, by rw [e1]; exact this.1, by rw [e1]; exact this.2⟩
theorem comD_ok {p : List Ev} (hp : POk p) {e : Exec} (hx : XOk p e) : ∀ r, r ≤ p.length → RelOk p.length (comD p e r)
 | 0, _ => comA_ok (RelOk.zero _) hx.oin _ (Nat.le_refl _)
 | r + 1, h => by
  simp only [comD]
  split
  ·exact comE_ok (comD1_ok (comD_ok hp hx r (by omega)) (by omega)) (ordAt_in hp hx (by omega)).choose_spec.2.1 _ (Nat.le_refl _)
  ·exact comD_ok hp hx r (by omega)

theorem rd_num {M : PHeap} {wb wo : Nat} {l : List Int} (hat : ∀ i (hi : i < l.length), rd M wb (wo + i * 1) 1 (ei l[i])) (i : Nat) (hi : i < l.length) : rd M wb (wo + i) 1 [vi (numAt l i)] := by
 have := hat i hi
 rw [Nat.mul_one] at this
 simp only [numAt]
 rwa [List.getElem?_eq_getElem hi]

section
variable {M : PHeap}

set_option maxHeartbeats 4000000 in
theorem ax_com_c (p : List Ev) (s : Value) (hs : Sl M 6 encEv s p) (hp : POk p) (e : Exec) (v : Value) (hv : IsX M v e) (hx : XOk p e) :
  Con Tryz.prog 123 #[s, v] M [] fun v _ G' => ∃ b, v = vrow b p.length p.length ∧ G' = [(b, Cl 144 ((comP p e).map vu))] := by
 have hs0 := hs
 have hb := hp.len
 obtain ⟨a, c, rfl, hrd⟩ := hs
 obtain ⟨f, d, o, n, rfl, hf, hd, ho, hn⟩ := hv
 obtain ⟨fa, fc, rfl, hrf⟩ := hf
 obtain ⟨oa, oc, ovs, rfl, hol, hro, hko⟩ := ho
 have hfl := hx.fl
 have hol3 := hx.ol
 obtain ⟨ob, oo, rfl, hato⟩ := SlSlC.at hro hol hko (by omega)
 refine Con.enter Q15_ok (args := [.slice a p.length c, .agg #[.slice fa e.frm.length fc, d, .slice (some ⟨ob, oo, none⟩) e.ord.length oc, n]]) (by simp [Q15]) fun w0 => ?_
 simp only [Q15, argE]
 repeat' first
   | refine EV.seq ?_
   | (refine EV.reg ?_; (conv => (arg 2; whnf)); (refine nx ?_; try with_reducible exact ⟨⟩))
   | (with_reducible intro b; try (refine nx ?_; try with_reducible exact ⟨⟩))
   | fail
 rename Nat => xb
 refine Con.callB (G1 := []) (ax_relation_c _ p (hs0.mono (PHeap.le_add _ _)) hb) (PHeap.le_refl _) (List.Perm.refl _) ?_
 rintro v M' G' ⟨rb, rfl, rfl⟩
 simp only [wpS, wpA, wpQL, push_cast, Int.cast_ofNat_Int, reduceIte, Nat.reduceEqDiff, reduceCtorEq, Nat.reduceAdd, Nat.reduceSub, Nat.reduceMul, Int.reduceToNat, Nat.reduceLeDiff]
 repeat' first
   | refine EV.seq ?_
   | refine EV.block ?_
   | (refine EV.reg ?_; (conv => (arg 2; whnf)); (refine nx ?_; try with_reducible exact ⟨⟩))
   | (refine xsA rfl ?_; try (refine nx ?_; try with_reducible exact ⟨⟩))
   | fail
 refine EV.loopTo (fun k : Nat => ([(0, .slice a p.length c), (3, pv xb 0), (5, vrow rb p.length p.length), (20, .slice (some ⟨ob, oo, none⟩) e.ord.length oc), (21, vi e.ord.length), (22, vi k)], M,
   [(xb, Cl 45 [.slice fa e.frm.length fc, d, .slice (some ⟨ob, oo, none⟩) e.ord.length oc, n]), (rb, Cl 144 ((comA (List.replicate p.length 0) e.ord k).map vu))]))
  (fun k => k ≤ e.ord.length) (fun k => e.ord.length - k) 0 rfl (Nat.zero_le _) ?env1 (List.Sublist.refl _) ?_
 case env1 =>
  repeat' first
   | (refine List.forall_mem_cons.2 (And.intro ?_ ?_))
   | (intro _ hnil; cases hnil; done)
   | rfl
   | fail
 intro k hk ih
 dsimp only at hk ih ⊢
 repeat' first
   | refine EV.seq ?_
   | refine EV.skip ?_
   | refine EV.block ?_
   | (refine EV.reg ?_; (conv => (arg 2; whnf)); (refine nx ?_; try with_reducible exact ⟨⟩))
   | (refine EV.condX rfl (fun h => ?_) (fun h => ?_) <;> try exact dead h)
   | (refine EV.exit rfl ?_)
   | (refine And.intro (by omega) ?_)
   | (refine xsA rfl ?_; try (refine nx ?_; try with_reducible exact ⟨⟩))
   | fail
 ·have hk' : k < e.ord.length := by omega
  obtain ⟨la, lc, hr1, hlc, hr2⟩ := hato k hk'
  rw [Nat.mul_one] at hr1
  obtain ⟨hin, hln⟩ := hx.oin _ (List.getElem_mem hk')
  have hokA := comA_ok (RelOk.zero p.length) hx.oin k (by omega)
  have ih1 := ih (k + 1) (by omega) (by omega)
  have eo : e.ord[k]?.getD [] = e.ord[k] := by rw [List.getElem?_eq_getElem hk']; rfl
  simp only [comA, eo] at ih1
  generalize e.ord[k] = l at *
  generalize comA (List.replicate p.length 0) e.ord k = q at *
  clear ih
  repeat' first
    | refine EV.seq ?_
    | refine EV.block ?_
    | (refine EV.reg ?_; (conv => (arg 2; whnf)); (refine nx ?_; try with_reducible exact ⟨⟩))
    | (refine Exists.intro _ (Exists.intro _ (Exists.intro _ (And.intro (rd_M (by assumption)) ?_))); try (refine nx ?_; try with_reducible exact ⟨⟩))
    | fail
  refine EV.loopTo (fun i : Nat => ([(0, .slice a p.length c), (3, pv xb 0), (5, vrow rb p.length p.length), (7, .slice la l.length lc), (20, .slice (some ⟨ob, oo, none⟩) e.ord.length oc), (21, vi e.ord.length), (22, vi k), (26, .slice la l.length lc), (27, vi l.length), (28, vi i)], M,
    [(xb, Cl 45 [.slice fa e.frm.length fc, d, .slice (some ⟨ob, oo, none⟩) e.ord.length oc, n]), (rb, Cl 144 ((comB q l i).map vu))]))
   (fun i => i ≤ l.length) (fun i => l.length - i) 0 rfl (Nat.zero_le _) ?env2 (List.Sublist.refl _) ?_
  case env2 =>
   repeat' first
    | (refine List.forall_mem_cons.2 (And.intro ?_ ?_))
    | (intro _ hnil; cases hnil; done)
    | rfl
    | fail
  intro i hi ih
  dsimp only at hi ih ⊢
  repeat' first
    | refine EV.seq ?_
    | refine EV.skip ?_
    | refine EV.block ?_
    | refine EV.inBlock ?_
    | (refine EV.reg ?_; (conv => (arg 2; whnf)); (refine nx ?_; try with_reducible exact ⟨⟩))
    | (refine EV.condX rfl (fun h => ?_) (fun h => ?_) <;> try exact dead h)
    | (refine EV.exit rfl ?_)
    | fail
  ·have hi' : i < l.length := by omega
   obtain ⟨wb, wo, rfl, hatl⟩ := Sl.at (sz := 1) (enc := ei) (fun _ => rfl) (by decide) hr2 (by omega)
   have hatl := rd_num hatl
   have hli := hatl i hi'
   have hiin := numAt_in hin hi'
   have hokB := comB_ok hokA hin i hi
   have ih2 := ih (i + 1) (by omega) (by omega)
   simp only [comB] at ih2
   generalize comB q l i = q2 at *
   clear ih
   have hw1 : IntKind.i64.wrap ((i : Int) + 1) = ((i + 1 : Nat) : Int) := w64 (by omega) (by omega)
   repeat' first
     | refine EV.seq ?_
     | (refine EV.reg ?_; (conv => (arg 2; whnf)); simp only [wpS, wpA, wpQL, push_cast, Int.cast_ofNat_Int, reduceIte, Nat.reduceEqDiff, reduceCtorEq, Nat.reduceAdd, Nat.reduceSub, Nat.reduceMul, Int.reduceToNat, Nat.reduceLeDiff, hw1])
     | (refine And.intro (by omega) ?_)
     | (refine Exists.intro _ (And.intro (rd_M (by assumption)) ?_); try simp only [wpS, wpA, wpQL, push_cast, Int.cast_ofNat_Int, reduceIte, Nat.reduceEqDiff, reduceCtorEq, Nat.reduceAdd, Nat.reduceSub, Nat.reduceMul, Int.reduceToNat, Nat.reduceLeDiff, hw1])
     | fail
   simp only [Option.map_some, onv_some]
   refine ⟨i + 1, by simp, by omega, hlc, Or.inr rfl, ?_⟩
   obtain ⟨ro, hro', ero⟩ := sl_from (wb := wb) (wo := wo) (n := l.length) (c := lc) (i := i + 1) hlc
   rw [ero]
   have hIn : (((l.length - (i + 1) : Nat)) : Int) = ((l.length - (i + 1) : Nat) : Int) := rfl
   generalize hm : l.length - (i + 1) = m at *
   refine EV.block ?_
   refine EV.loopTo (fun j : Nat => ([(0, .slice a p.length c), (3, pv xb 0), (5, vrow rb p.length p.length), (7, .slice (some ⟨wb, wo, none⟩) l.length lc), (8, vi i), (9, vi (numAt l i)), (20, .slice (some ⟨ob, oo, none⟩) e.ord.length oc), (21, vi e.ord.length), (22, vi k), (26, .slice (some ⟨wb, wo, none⟩) l.length lc), (27, vi l.length), (28, vi i),
     (36, .slice (some ⟨wb, ro, none⟩) m (lc - (i + 1))), (37, vi m), (38, vi j)], M,
     [(xb, Cl 45 [.slice fa e.frm.length fc, d, .slice (some ⟨ob, oo, none⟩) e.ord.length oc, n]), (rb, Cl 144 ((comC q2 l i j).map vu))]))
    (fun j => j ≤ m) (fun j => m - j) 0 rfl (Nat.zero_le _) ?env3 (List.Sublist.refl _) ?_
   case env3 =>
    repeat' first
     | (refine List.forall_mem_cons.2 (And.intro ?_ ?_))
     | (intro _ hnil; cases hnil; done)
     | rfl
     | fail
   intro j hj ih
   dsimp only at hj ih ⊢
   repeat' first
     | refine EV.seq ?_
     | refine EV.skip ?_
     | refine EV.block ?_
     | refine EV.inBlock ?_
     | (refine EV.reg ?_; (conv => (arg 2; whnf)); (refine nx ?_; try with_reducible exact ⟨⟩))
     | (refine EV.condX rfl (fun h => ?_) (fun h => ?_) <;> try exact dead h)
     | (refine EV.exit rfl ?_)
     | (refine And.intro (by omega) ?_)
     | fail
   ·have hj' : j < m := by omega
    have hro2 := hro' (by omega)
    subst hro2
    have hlj := hatl (i + 1 + j) (by omega)
    rw [← Nat.add_assoc] at hlj
    have hjin := numAt_in hin (k := i + 1 + j) (by omega)
    have hokC := comC_ok hokB hin i j (by omega)
    have ih3 := ih (j + 1) (by omega) (by omega)
    simp only [comC] at ih3
    clear ih
    repeat' first
      | (refine EV.reg ?_; (conv => (arg 2; whnf)); (refine nx ?_; try with_reducible exact ⟨⟩))
      | (refine Exists.intro _ (And.intro (rd_M (by assumption)) ?_); try (refine nx ?_; try with_reducible exact ⟨⟩))
      | fail
    refine Con.callK (ax_putI_c hokC hb hiin.1 hiin.2 hjin.1 hjin.2) (PHeap.le_add _ _) ?_
    rintro v M'' G' rfl
    simp only [wpS, wpA, wpQL, push_cast, Int.cast_ofNat_Int, reduceIte, Nat.reduceEqDiff, reduceCtorEq, Nat.reduceAdd, Nat.reduceSub, Nat.reduceMul, Int.reduceToNat, Nat.reduceLeDiff]
    repeat' first
      | refine EV.inBlock ?_
      | (refine EV.reg ?_; (conv => (arg 2; whnf)); (refine nx ?_; try with_reducible exact ⟨⟩))
      | fail
    refine EV.toS ih3 ?_
    repeat' first
     | (refine List.forall_mem_cons.2 (And.intro ?_ ?_))
     | (intro _ hnil; cases hnil; done)
     | rfl
     | (refine env_w64 rfl (by first | rfl | (push_cast; first | rfl | omega)) (by omega) (by omega); done)
     | fail
   ·have hje : j = m := by omega
    subst hje
    refine EV.toS ih2 ?_
    repeat' first
     | (refine List.forall_mem_cons.2 (And.intro ?_ ?_))
     | (intro _ hnil; cases hnil; done)
     | rfl
     | (refine env_w64 rfl (by first | rfl | (push_cast; first | rfl | omega)) (by omega) (by omega); done)
     | fail
  ·have hie : i = l.length := by omega
   subst hie
   refine EV.toS ih1 ?_
   repeat' first
    | (refine List.forall_mem_cons.2 (And.intro ?_ ?_))
    | (intro _ hnil; cases hnil; done)
    | rfl
    | (refine env_w64 rfl (by first | rfl | (push_cast; first | rfl | omega)) (by omega) (by omega); done)
    | fail
 ·have hke : k = e.ord.length := by omega
  subst hke
  clear ih
  repeat' first
    | fail
  refine EV.loopTo (fun r : Nat => ([(0, .slice a p.length c), (3, pv xb 0), (5, vrow rb p.length p.length), (50, .slice fa e.frm.length fc), (51, vi e.frm.length), (52, vi r)], M,
    [(xb, Cl 45 [.slice fa e.frm.length fc, d, .slice (some ⟨ob, oo, none⟩) e.ord.length oc, n]), (rb, Cl 144 ((comD p e r).map vu))]))
   (fun r => r ≤ e.frm.length) (fun r => e.frm.length - r) 0 rfl (Nat.zero_le _) ?env4 (List.Sublist.refl _) ?_
  case env4 =>
   repeat' first
    | (refine List.forall_mem_cons.2 (And.intro ?_ ?_))
    | (intro _ hnil; cases hnil; done)
    | rfl
    | fail
  intro r hr ih
  dsimp only at hr ih ⊢
  repeat' first
    | refine EV.seq ?_
    | refine EV.skip ?_
    | refine EV.block ?_
    | (refine EV.reg ?_; (conv => (arg 2; whnf)); (refine nx ?_; try with_reducible exact ⟨⟩))
    | (refine EV.condX rfl (fun h => ?_) (fun h => ?_) <;> try exact dead h)
    | (refine EV.exit rfl ?_)
    | fail
  ·have hr' : r < p.length := by omega
   obtain ⟨pb, po, rfl, hat⟩ := Sl.at (enc := encEv) (fun _ => rfl) (by decide) hrd (by omega)
   obtain ⟨fb, fo, rfl, hat2⟩ := Sl.at (sz := 1) (enc := ei) (fun _ => rfl) (by decide) hrf (by omega)
   have hpr := Sl.evAt hat r hr'
   have hpr1 := hpr.pt 1 1 (by omega) rfl
   have hfr : rd M fb (fo + r) 1 [vi (frmAt e r)] := rd_num hat2 r (by omega)
   obtain ⟨hltr, hlo⟩ := hx.fr r hr'
   obtain ⟨hlc, eo, hin, hln⟩ := ordAt_in hp hx hr'
   have hloc := hp.loc r hr'
   obtain ⟨la, lc, hr1, _, hr2⟩ := hato _ hlc
   rw [← eo] at hr1 hr2
   rw [Nat.mul_one] at hr1
   have hlocI : (evAt p r).op.loc < (e.ord.length : Int) := by omega
   have hokD := comD_ok hp hx r (by omega)
   have ih1 := ih (r + 1) (by omega) (by omega)
   simp only [comD] at ih1
   have hokD1 := comD1_ok (e := e) hokD hr'
   have hD1 : comD1 (comD p e r) e r = if 0 ≤ frmAt e r then putR (comD p e r) (frmAt e r).toNat r else comD p e r := rfl
   generalize comD p e r = q at *
   generalize ordAt p e r = l at *
   change frmAt e r < _ at hltr
   clear ih hat hat2 eo
   cases hre : (evAt p r).reads with
   | false =>
    rw [if_neg (by rw [hre]; simp)] at ih1
    repeat' first
      | refine EV.seq ?_
      | (refine EV.reg ?_; (conv => (arg 2; whnf)); simp only [wpS, wpA, wpQL, push_cast, Int.cast_ofNat_Int, reduceIte, Nat.reduceEqDiff, reduceCtorEq, Nat.reduceAdd, Nat.reduceSub, Nat.reduceMul, Int.reduceToNat, Nat.reduceLeDiff, hre])
      | (refine ConQ.call (ax_reads_q (evAt p r)) ?_; try simp only [wpS, wpA, wpQL, push_cast, Int.cast_ofNat_Int, reduceIte, Nat.reduceEqDiff, reduceCtorEq, Nat.reduceAdd, Nat.reduceSub, Nat.reduceMul, Int.reduceToNat, Nat.reduceLeDiff, hre])
      | (refine EV.condX rfl (fun h => ?_) (fun h => ?_) <;> try exact dead h)
      | (refine EV.exit rfl ?_)
      | (refine And.intro (by omega) ?_)
      | (refine Exists.intro _ (And.intro (rd_M (by assumption)) ?_); try simp only [wpS, wpA, wpQL, push_cast, Int.cast_ofNat_Int, reduceIte, Nat.reduceEqDiff, reduceCtorEq, Nat.reduceAdd, Nat.reduceSub, Nat.reduceMul, Int.reduceToNat, Nat.reduceLeDiff, hre])
      | fail
    refine EV.toS ih1 ?_
    repeat' first
     | (refine List.forall_mem_cons.2 (And.intro ?_ ?_))
     | (intro _ hnil; cases hnil; done)
     | rfl
     | (refine env_w64 rfl (by first | rfl | (push_cast; first | rfl | omega)) (by omega) (by omega); done)
     | fail
   | true =>
    rw [if_pos hre] at ih1
    repeat' first
      | (refine And.intro (by omega) ?_)
      | (refine Exists.intro _ (And.intro (rd_M (by assumption)) ?_); try (refine nx ?_; try with_reducible exact ⟨⟩))
      | fail
    refine EV.seq ?_
    refine EV.seq ?_
    repeat' first
      | refine EV.skip ?_
      | (refine EV.reg ?_; (conv => (arg 2; whnf)); simp only [wpS, wpA, wpQL, push_cast, Int.cast_ofNat_Int, reduceIte, Nat.reduceEqDiff, reduceCtorEq, Nat.reduceAdd, Nat.reduceSub, Nat.reduceMul, Int.reduceToNat, Nat.reduceLeDiff, hre])
      | (refine ConQ.call (ax_reads_q (evAt p r)) ?_; try simp only [wpS, wpA, wpQL, push_cast, Int.cast_ofNat_Int, reduceIte, Nat.reduceEqDiff, reduceCtorEq, Nat.reduceAdd, Nat.reduceSub, Nat.reduceMul, Int.reduceToNat, Nat.reduceLeDiff, hre])
      | (refine EV.condX rfl (fun h => ?_) (fun h => ?_) <;> try exact dead h)
      | (refine And.intro (by omega) ?_)
      | (refine Exists.intro _ (And.intro (rd_M (by assumption)) ?_); try simp only [wpS, wpA, wpQL, push_cast, Int.cast_ofNat_Int, reduceIte, Nat.reduceEqDiff, reduceCtorEq, Nat.reduceAdd, Nat.reduceSub, Nat.reduceMul, Int.reduceToNat, Nat.reduceLeDiff, hre])
      | fail
    refine EV.seq (EV.thru (fun ρ' M' G' => M' = M ∧ (∀ q ∈ [(0, .slice (some ⟨pb, po, none⟩) p.length c), (3, pv xb 0), (5, vrow rb p.length p.length), (12, vi r), (13, vi (frmAt e r)), (50, .slice (some ⟨fb, fo, none⟩) e.frm.length fc), (51, vi e.frm.length), (52, vi r)], get ρ' q.1 = some q.2) ∧
     G' = [(xb, Cl 45 [.slice (some ⟨fb, fo, none⟩) e.frm.length fc, d, .slice (some ⟨ob, oo, none⟩) e.ord.length oc, n]), (rb, Cl 144 ((comD1 q e r).map vu))]) ?_ ?_)
    ·intro k' key
     clear ih1
     rw [hD1] at key
     repeat' first
       | refine EV.seq ?_
       | refine EV.skip ?_
       | (refine EV.reg ?_; (conv => (arg 2; whnf)); (refine nx ?_; try with_reducible exact ⟨⟩))
       | (refine EV.condX rfl (fun h => ?_) (fun h => ?_) <;> try exact dead h)
       | fail
     ·refine Con.callK (ax_putI_c hokD hb (by omega) hltr (by omega) (by omega)) (PHeap.le_add _ _) ?_
      rintro v M'' G' rfl
      simp only [wpS, wpA, wpQL, push_cast, Int.cast_ofNat_Int, reduceIte, Nat.reduceEqDiff, reduceCtorEq, Nat.reduceAdd, Nat.reduceSub, Nat.reduceMul, Int.reduceToNat, Nat.reduceLeDiff]
      repeat' first
        | fail
      rw [if_pos (by omega)] at key
      refine EV.reS (key _ _ _ ⟨rfl, ?_, rfl⟩)
      repeat' first
       | (refine List.forall_mem_cons.2 (And.intro ?_ ?_))
       | (intro _ hnil; cases hnil; done)
       | rfl
       | fail
     ·rw [if_neg (by omega)] at key
      refine EV.reS (key _ _ _ ⟨rfl, ?_, rfl⟩)
      repeat' first
       | (refine List.forall_mem_cons.2 (And.intro ?_ ?_))
       | (intro _ hnil; cases hnil; done)
       | rfl
       | fail
    rintro ρ2 M2 G2 ⟨rfl, hq, rfl⟩
    refine EV.to ?_ hq (List.Sublist.refl _)
    clear hq hD1
    generalize comD1 q e r = q1 at *
    repeat' first
      | refine EV.seq ?_
      | refine EV.block ?_
      | ((first | refine EV.reg ?_ | refine EV.any _ (List.Sublist.refl _) ?_ | fail); (conv => (arg 2; whnf)); (refine nx ?_; try with_reducible exact ⟨⟩))
      | (refine And.intro (by omega) ?_)
      | ((first | refine Exists.intro _ (And.intro (rd_M (by assumption)) ?_) | refine Exists.intro _ (Exists.intro _ (Exists.intro _ (And.intro (rd_M (by assumption)) ?_))) | refine xsA rfl ?_ | fail); try (refine nx ?_; try with_reducible exact ⟨⟩))
      | fail
    refine EV.loopTo (fun i : Nat => ([(0, .slice (some ⟨pb, po, none⟩) p.length c), (3, pv xb 0), (5, vrow rb p.length p.length), (12, vi r), (13, vi (frmAt e r)), (14, vb (comE q1 r (frmAt e r) l i).2), (50, .slice (some ⟨fb, fo, none⟩) e.frm.length fc), (51, vi e.frm.length), (52, vi r), (80, .slice la l.length lc), (81, vi l.length), (82, vi i)], M2,
      [(xb, Cl 45 [.slice (some ⟨fb, fo, none⟩) e.frm.length fc, d, .slice (some ⟨ob, oo, none⟩) e.ord.length oc, n]), (rb, Cl 144 ((comE q1 r (frmAt e r) l i).1.map vu))]))
     (fun i => i ≤ l.length) (fun i => l.length - i) 0 rfl (Nat.zero_le _) ?env5 (List.Sublist.refl _) ?_
    case env5 =>
     repeat' first
      | (refine List.forall_mem_cons.2 (And.intro ?_ ?_))
      | (intro _ hnil; cases hnil; done)
      | rfl
      | fail
    intro i hi ih
    dsimp only at hi ih ⊢
    repeat' first
      | refine EV.seq ?_
      | refine EV.skip ?_
      | refine EV.block ?_
      | refine EV.inBlock ?_
      | (refine EV.reg ?_; (conv => (arg 2; whnf)); (refine nx ?_; try with_reducible exact ⟨⟩))
      | (refine EV.condX rfl (fun h => ?_) (fun h => ?_) <;> try exact dead h)
      | (refine EV.exit rfl ?_)
      | fail
    ·have hi' : i < l.length := by omega
     obtain ⟨wb, wo, rfl, hatl⟩ := Sl.at (sz := 1) (enc := ei) (fun _ => rfl) (by decide) hr2 (by omega)
     have hli := rd_num hatl i hi'
     have hiin := numAt_in hin hi'
     have hokE := comE_ok (r := r) (fr := frmAt e r) hokD1 hin i hi
     have ih2 := ih (i + 1) (by omega) (by omega)
     simp only [comE] at ih2
     generalize comE q1 r (frmAt e r) l i = qe at *
     obtain ⟨qe1, qe2⟩ := qe
     dsimp only at hokE ih2 ⊢
     clear ih ih1 hatl
     repeat' first
       | refine EV.seq ?_
       | refine EV.skip ?_
       | refine EV.inBlock ?_
       | (refine EV.reg ?_; (conv => (arg 2; whnf)); (refine nx ?_; try with_reducible exact ⟨⟩))
       | with_reducible assumption
       | (refine condW.merge ?_ (fun hc K' hK => ?_) ?_; rotate_left)
       | (refine EV.condX rfl (fun h => ?_) (fun h => ?_) <;> try exact dead h)
       | (refine And.intro (by omega) ?_)
       | (refine Exists.intro _ (And.intro (rd_M (by assumption)) ?_); try (refine nx ?_; try with_reducible exact ⟨⟩))
       | fail
     ·refine Con.callK (ax_putI_c hokE hb (by omega) (by omega) hiin.1 hiin.2) (PHeap.le_add _ _) ?_
      rintro v M'' G' rfl
      simp only [wpS, wpA, wpQL, push_cast, Int.cast_ofNat_Int, reduceIte, Nat.reduceEqDiff, reduceCtorEq, Nat.reduceAdd, Nat.reduceSub, Nat.reduceMul, Int.reduceToNat, Nat.reduceLeDiff]
      rw [if_pos (by simp_all)] at ih2
      repeat' first
        | refine EV.inBlock ?_
        | (refine EV.reg ?_; (conv => (arg 2; whnf)); (refine nx ?_; try with_reducible exact ⟨⟩))
        | with_reducible assumption
        | (refine condW.merge ?_ (fun hc K' hK => ?_) ?_; rotate_left)
        | fail
      refine EV.toS ih2 ?_
      repeat' first
       | (refine List.forall_mem_cons.2 (And.intro ?_ ?_))
       | (intro _ hnil; cases hnil; done)
       | rfl
       | (refine env_w64 rfl (by first | rfl | (push_cast; first | rfl | omega)) (by omega) (by omega); done)
       | fail
     ·rw [if_neg (by grind)] at ih2
      refine EV.toS ih2 ?_
      repeat' first
       | (refine List.forall_mem_cons.2 (And.intro ?_ ?_))
       | (intro _ hnil; cases hnil; done)
       | rfl
       | (refine env_w64 rfl (by first | rfl | (push_cast; first | rfl | omega)) (by omega) (by omega); done)
       | fail
    ·have hie : i = l.length := by omega
     subst hie
     refine EV.toS ih1 ?_
     repeat' first
      | (refine List.forall_mem_cons.2 (And.intro ?_ ?_))
      | (intro _ hnil; cases hnil; done)
      | rfl
      | (refine env_w64 rfl (by first | rfl | (push_cast; first | rfl | omega)) (by omega) (by omega); done)
      | fail
  ·have hre : r = e.frm.length := by omega
   subst hre
   have hok := comD_ok hp hx p.length (Nat.le_refl _)
   rw [hfl]
   refine Con.callK (ax_close_c hok hb) (PHeap.le_add _ _) ?_
   rintro v M' G' ⟨rfl, rfl⟩
   simp only [wpS, wpA, wpQL, push_cast, Int.cast_ofNat_Int, reduceIte, Nat.reduceEqDiff, reduceCtorEq, Nat.reduceAdd, Nat.reduceSub, Nat.reduceMul, Int.reduceToNat, Nat.reduceLeDiff]
   repeat' first
     | fail
   refine EV.toS (ρ' := [(4, vrow rb p.length p.length)]) (G' := [(rb, Cl 144 ((closeR (comD p e p.length)).map vu))]) ?_ ?env6
   case env6 =>
    repeat' first
     | (refine List.forall_mem_cons.2 (And.intro ?_ ?_))
     | (intro _ hnil; cases hnil; done)
     | rfl
     | fail
   refine EV.ret Q15_ok ?_
   simp only [wpS, wpA, wpQL, push_cast, Int.cast_ofNat_Int, reduceIte, Nat.reduceEqDiff, reduceCtorEq, Nat.reduceAdd, Nat.reduceSub, Nat.reduceMul, Int.reduceToNat, Nat.reduceLeDiff, Q15]
   exact ⟨rb, rfl, rfl⟩

end
end Go.EV

namespace Go.EV
open Go.Proofs

def roundGo (q : Rel) (e : Exec) : Nat → Rel
 | 0 => q
 | r + 1 => if 0 ≤ frmAt e r then putR (roundGo q e r) (frmAt e r).toNat r else roundGo q e r
def roundP (p : List Ev) (e : Exec) : Rel := closeR (roundGo (stepsP p e.fen) e p.length)
def crossP (p : List Ev) (e : Exec) : Bool := (List.range p.length).any fun a => (List.range p.length).any fun b => hasR (beforeP p e) a b && hasR (comP p e) b a
def frontAt (l : List Int) : Nat → Int
 | 0 => -1
 | i + 1 => numAt l i
def badAt (p : List Ev) (e : Exec) (l : List Int) (i : Nat) : Bool := (evAt p (numAt l i).toNat).reads && decide (frmAt e (numAt l i).toNat ≠ frontAt l i)
def nextBad (p : List Ev) (e : Exec) (l : List Int) : Bool := (List.range l.length).any (badAt p e l)
def brokenP (p : List Ev) (e : Exec) : Int :=
 if circleR (roundP p e) then 2 else if circleR (beforeP p e) || crossP p e then 3 else if e.ord.any (nextBad p e) then 4 else 0

theorem roundGo_ok {p : List Ev} {q : Rel} (hq : RelOk p.length q) {e : Exec} (hx : XOk p e) : ∀ r, r ≤ p.length → RelOk p.length (roundGo q e r)
 | 0, _ => hq
 | r + 1, h => by
  simp only [roundGo]
  split
  ·exact (roundGo_ok hq hx r (by omega)).put _ (by omega)
  ·exact roundGo_ok hq hx r (by omega)
theorem beforeP_ok {p : List Ev} {e : Exec} (hx : XOk p e) : RelOk p.length (beforeP p e) := (befGo_ok hx _ (Nat.le_refl _)).close
theorem comP_ok {p : List Ev} (hp : POk p) {e : Exec} (hx : XOk p e) : RelOk p.length (comP p e) := (comD_ok hp hx _ (Nat.le_refl _)).close

theorem rowAll {M : PHeap} {G : Own} {α : Type} {b n : Nat} {T : TypeId} {f : α → Value} {xs : List α} [h : At G b T (xs.map f)] (hn : xs.length = n) : rd (M.add G) b 0 n (xs.map f) :=
 rd_at h.mem (by rw [List.drop_zero, List.take_of_length_le (by rw [List.length_map]; omega)]) (by rw [List.length_map]; omega)

theorem any_range_no {n : Nat} {f : Nat → Bool} (h : ∀ a, a < n → f a = false) : (List.range n).any f = false := by
 simp only [List.any_eq_false, List.mem_range]
 intro a ha; rw [h a ha]; simp
theorem any_range_yes {n : Nat} {f : Nat → Bool} {a : Nat} (ha : a < n) (h : f a = true) : (List.range n).any f = true := by
 simp only [List.any_eq_true, List.mem_range]; exact ⟨a, ha, h⟩

section
variable {M : PHeap}

set_option maxHeartbeats 4000000 in
theorem ax_broken_q (p : List Ev) (s : Value) (hs : Sl M 6 encEv s p) (hp : POk p) (e : Exec) (v : Value) (hv : IsX M v e) (hx : XOk p e) :
  ConQ Tryz.prog 83 #[s, v] M (vi (brokenP p e)) := by
 have hs0 := hs
 have hv0 := hv
 have hb := hp.len
 obtain ⟨a, c, rfl, hrd⟩ := hs
 obtain ⟨f, d, o, n, rfl, hf, hd, ho, hn⟩ := hv
 have hn0 := hn
 obtain ⟨fa, fc, rfl, hrf⟩ := hf
 obtain ⟨oa, oc, ovs, rfl, hol, hro, hko⟩ := ho
 have hfl := hx.fl
 have hol3 := hx.ol
 have hfin := hx.fin.2
 obtain ⟨ob, oo, rfl, hato⟩ := SlSlC.at hro hol hko (by omega)
 refine Con.enter Q14_ok (args := [.slice a p.length c, .agg #[.slice fa e.frm.length fc, d, .slice (some ⟨ob, oo, none⟩) e.ord.length oc, n]]) (by simp [Q14]) fun w0 => ?_
 simp only [Q14, argE]
 repeat' first
   | refine EV.seq ?_
   | (refine EV.reg ?_; (conv => (arg 2; whnf)); (refine nx ?_; try with_reducible exact ⟨⟩))
   | ((first | with_reducible intro b | refine xrA rfl ?_ | fail); try (refine nx ?_; try with_reducible exact ⟨⟩))
   | fail
 rename Nat => xb
 refine Con.callB (G1 := []) (ax_steps_c p _ (hs0.mono (PHeap.le_add _ _)) hb _ _ _ _ e.fen (hn0.mono (PHeap.le_add _ _)) hx.fin.1 (by omega)) (PHeap.le_refl _) (List.Perm.refl _) ?_
 rintro v M' G' ⟨rb, rfl, rfl⟩
 simp only [wpS, wpA, wpQL, push_cast, Int.cast_ofNat_Int, reduceIte, Nat.reduceEqDiff, reduceCtorEq, Nat.reduceAdd, Nat.reduceSub, Nat.reduceMul, Int.reduceToNat, Nat.reduceLeDiff]
 repeat' first
   | refine EV.seq ?_
   | refine EV.block ?_
   | (refine EV.reg ?_; (conv => (arg 2; whnf)); (refine nx ?_; try with_reducible exact ⟨⟩))
   | (refine xsA rfl ?_; try (refine nx ?_; try with_reducible exact ⟨⟩))
   | fail
 refine EV.loopTo (fun r : Nat => ([(0, .slice a p.length c), (3, pv xb 0), (5, vrow rb p.length p.length), (21, .slice fa e.frm.length fc), (22, vi e.frm.length), (23, vi r)], M,
   [(xb, Cl 45 [.slice fa e.frm.length fc, d, .slice (some ⟨ob, oo, none⟩) e.ord.length oc, n]), (rb, Cl 144 ((roundGo (stepsP p e.fen) e r).map vu))]))
  (fun r => r ≤ e.frm.length) (fun r => e.frm.length - r) 0 rfl (Nat.zero_le _) ?env1 (List.Sublist.refl _) ?_
 case env1 =>
  repeat' first
   | (refine List.forall_mem_cons.2 (And.intro ?_ ?_))
   | (intro _ hnil; cases hnil; done)
   | rfl
   | fail
 intro r hr ih
 dsimp only at hr ih ⊢
 have hokr := roundGo_ok (stepsP_ok hx.fin.1) hx r (by omega)
 repeat' first
   | refine EV.seq ?_
   | refine EV.skip ?_
   | refine EV.block ?_
   | (refine EV.reg ?_; (conv => (arg 2; whnf)); (refine nx ?_; try with_reducible exact ⟨⟩))
   | (refine EV.condX rfl (fun h => ?_) (fun h => ?_) <;> try exact dead h)
   | (refine EV.exit rfl ?_)
   | fail
 ·have hr' : r < p.length := by omega
  obtain ⟨fb, fo, rfl, hat2⟩ := Sl.at (sz := 1) (enc := ei) (fun _ => rfl) (by decide) hrf (by omega)
  have hfr : rd M fb (fo + r) 1 [vi (frmAt e r)] := rd_num hat2 r (by omega)
  obtain ⟨hltr, hlo⟩ := hx.fr r hr'
  change frmAt e r < _ at hltr
  have ih1 := ih (r + 1) (by omega) (by omega)
  simp only [roundGo] at ih1
  generalize roundGo (stepsP p e.fen) e r = q at *
  clear ih hat2
  repeat' first
    | refine EV.seq ?_
    | refine EV.skip ?_
    | refine EV.inBlock ?_
    | (refine EV.reg ?_; (conv => (arg 2; whnf)); (refine nx ?_; try with_reducible exact ⟨⟩))
    | (refine EV.condX rfl (fun h => ?_) (fun h => ?_) <;> try exact dead h)
    | (refine And.intro (by omega) ?_)
    | (refine Exists.intro _ (And.intro (rd_M (by assumption)) ?_); try (refine nx ?_; try with_reducible exact ⟨⟩))
    | fail
  ·refine Con.callK (ax_putI_c hokr hb (by omega) hltr (by omega) (by omega)) (PHeap.le_add _ _) ?_
   rintro v M'' G' rfl
   simp only [wpS, wpA, wpQL, push_cast, Int.cast_ofNat_Int, reduceIte, Nat.reduceEqDiff, reduceCtorEq, Nat.reduceAdd, Nat.reduceSub, Nat.reduceMul, Int.reduceToNat, Nat.reduceLeDiff]
   rw [if_pos (by omega)] at ih1
   repeat' first
     | refine EV.inBlock ?_
     | (refine EV.reg ?_; (conv => (arg 2; whnf)); (refine nx ?_; try with_reducible exact ⟨⟩))
     | fail
   refine EV.toS ih1 ?_
   repeat' first
    | (refine List.forall_mem_cons.2 (And.intro ?_ ?_))
    | (intro _ hnil; cases hnil; done)
    | rfl
    | (refine env_w64 rfl (by first | rfl | (push_cast; first | rfl | omega)) (by omega) (by omega); done)
    | fail
  ·rw [if_neg (by omega)] at ih1
   refine EV.toS ih1 ?_
   repeat' first
    | (refine List.forall_mem_cons.2 (And.intro ?_ ?_))
    | (intro _ hnil; cases hnil; done)
    | rfl
    | (refine env_w64 rfl (by first | rfl | (push_cast; first | rfl | omega)) (by omega) (by omega); done)
    | fail
 ·have hre : r = p.length := by omega
  subst hre
  clear ih
  refine Con.callK (ax_close_c hokr hb) (PHeap.le_add _ _) ?_
  rintro v M' G' ⟨rfl, rfl⟩
  simp only [wpS, wpA, wpQL, push_cast, Int.cast_ofNat_Int, reduceIte, Nat.reduceEqDiff, reduceCtorEq, Nat.reduceAdd, Nat.reduceSub, Nat.reduceMul, Int.reduceToNat, Nat.reduceLeDiff]
  have hokR : RelOk p.length (roundP p e) := hokr.close
  rw [show closeR (roundGo (stepsP p e.fen) e p.length) = roundP p e from rfl]
  repeat' first
    | refine EV.seq ?_
    | refine EV.skip ?_
    | (refine EV.reg ?_; (conv => (arg 2; whnf)); (refine nx ?_; try with_reducible exact ⟨⟩))
    | (refine ConQ.call (ax_circle_q hokR hb (rowAll (f := vu) hokR.len)) ?_; try (refine nx ?_; try with_reducible exact ⟨⟩))
    | (refine EV.condX rfl (fun h => ?_) (fun h => ?_) <;> try exact dead h)
    | fail
  ·refine EV.ret Q14_ok ?_
   simp only [wpS, wpA, wpQL, push_cast, Int.cast_ofNat_Int, reduceIte, Nat.reduceEqDiff, reduceCtorEq, Nat.reduceAdd, Nat.reduceSub, Nat.reduceMul, Int.reduceToNat, Nat.reduceLeDiff, Q14]
   rw [brokenP, if_pos (by assumption)]
  have hb2 : brokenP p e = if circleR (beforeP p e) || crossP p e then 3 else if e.ord.any (nextBad p e) then 4 else 0 := by rw [brokenP, if_neg (by simp_all)]
  rw [hb2]
  refine EV.toS (ρ' := [(0, .slice a p.length c), (3, pv xb 0)]) (G' := [(xb, Cl 45 [.slice fa e.frm.length fc, d, .slice (some ⟨ob, oo, none⟩) e.ord.length oc, n])]) ?_ ?env2
  case env2 =>
   repeat' first
    | (refine List.forall_mem_cons.2 (And.intro ?_ ?_))
    | (intro _ hnil; cases hnil; done)
    | rfl
    | fail
  clear hokR hokr hb2
  refine EV.any (t := Q14_10) _ (List.Sublist.refl _) ?_
  simp only [wpS, wpA, wpQL, push_cast, Int.cast_ofNat_Int, reduceIte, Nat.reduceEqDiff, reduceCtorEq, Nat.reduceAdd, Nat.reduceSub, Nat.reduceMul, Int.reduceToNat, Nat.reduceLeDiff, Q14_10]
  repeat' first
    | (refine xrA rfl ?_; try (refine nx ?_; try with_reducible exact ⟨⟩))
    | fail
  refine Con.callB (G1 := []) (ax_before_c p _ (hs0.mono (PHeap.le_add _ _)) hp e _ (hv0.mono (PHeap.le_add _ _)) hx) (PHeap.le_refl _) (List.Perm.refl _) ?_
  rintro v M1 G1 ⟨hbb, rfl, rfl⟩
  simp only [wpS, wpA, wpQL, push_cast, Int.cast_ofNat_Int, reduceIte, Nat.reduceEqDiff, reduceCtorEq, Nat.reduceAdd, Nat.reduceSub, Nat.reduceMul, Int.reduceToNat, Nat.reduceLeDiff]
  repeat' first
    | (refine And.intro (PHeap.le_refl _) (And.intro (mem_of_sub ?_) ?_); focus ((repeat' first | exact List.Sublist.refl _ | exact List.nil_sublist _ | exact List.sublist_append_left _ _ | refine List.Sublist.cons_cons _ ?_ | refine List.Sublist.append_left ?_ _ | refine List.sublist_append_of_sublist_right ?_ | refine List.Sublist.cons _ ?_); done); try (refine nx ?_; try with_reducible exact ⟨⟩))
    | fail
  refine Con.callB (G1 := []) (ax_com_c p _ (hs0.mono (PHeap.le_add _ _)) hp e _ (hv0.mono (PHeap.le_add _ _)) hx) (PHeap.le_refl _) (List.Perm.refl _) ?_
  rintro v M2 G2 ⟨cb, rfl, rfl⟩
  simp only [wpS, wpA, wpQL, push_cast, Int.cast_ofNat_Int, reduceIte, Nat.reduceEqDiff, reduceCtorEq, Nat.reduceAdd, Nat.reduceSub, Nat.reduceMul, Int.reduceToNat, Nat.reduceLeDiff]
  have hokB := beforeP_ok hx
  have hokC := comP_ok hp hx
  have hcd : crossP p e = (List.range p.length).any fun a => (List.range p.length).any fun b => hasR (beforeP p e) a b && hasR (comP p e) b a := rfl
  generalize beforeP p e = hbR at *
  generalize comP p e = coR at *
  repeat' first
    | refine EV.seq ?_
    | refine EV.skip ?_
    | refine EV.block ?_
    | (refine EV.reg ?_; (conv => (arg 2; whnf)); (refine nx ?_; try with_reducible exact ⟨⟩))
    | (refine ConQ.call (ax_circle_q hokB hb (rowAll (f := vu) hokB.len)) ?_; try (refine nx ?_; try with_reducible exact ⟨⟩))
    | (refine EV.condX rfl (fun h => ?_) (fun h => ?_) <;> try exact dead h)
    | fail
  ·refine EV.ret Q14_ok ?_
   simp only [wpS, wpA, wpQL, push_cast, Int.cast_ofNat_Int, reduceIte, Nat.reduceEqDiff, reduceCtorEq, Nat.reduceAdd, Nat.reduceSub, Nat.reduceMul, Int.reduceToNat, Nat.reduceLeDiff, Q14]
   rw [if_pos (by simp_all)]
  have hci : circleR (hbR) = false := by simp_all
  refine EV.loopTo (fun x : Nat => ([(0, .slice a p.length c), (3, pv xb 0), (8, vrow hbb p.length p.length), (9, vrow cb p.length p.length), (47, vi p.length), (48, vi x)], M,
    [(xb, Cl 45 [.slice fa e.frm.length fc, d, .slice (some ⟨ob, oo, none⟩) e.ord.length oc, n]), (hbb, Cl 144 ((hbR).map vu)), (cb, Cl 144 ((coR).map vu))]))
   (fun x => x ≤ p.length ∧ ∀ x', x' < x → ((List.range p.length).any fun y => hasR (hbR) x' y && hasR (coR) y x') = false) (fun x => p.length - x) 0 rfl ⟨Nat.zero_le _, fun _ h => absurd h (Nat.not_lt_zero _)⟩ ?env3 (List.Sublist.refl _) ?_
  case env3 =>
   repeat' first
    | (refine List.forall_mem_cons.2 (And.intro ?_ ?_))
    | (intro _ hnil; cases hnil; done)
    | rfl
    | fail
  rintro x ⟨hxn, hno⟩ ih
  dsimp only at hxn hno ih ⊢
  repeat' first
    | refine EV.seq ?_
    | refine EV.skip ?_
    | refine EV.block ?_
    | (refine EV.reg ?_; (conv => (arg 2; whnf)); (refine nx ?_; try with_reducible exact ⟨⟩))
    | (refine EV.condX rfl (fun h => ?_) (fun h => ?_) <;> try exact dead h)
    | (refine EV.exit rfl ?_)
    | (refine xsA rfl ?_; try (refine nx ?_; try with_reducible exact ⟨⟩))
    | fail
  ·have hx' : x < p.length := by omega
   refine EV.loopTo (fun y : Nat => ([(0, .slice a p.length c), (3, pv xb 0), (8, vrow hbb p.length p.length), (9, vrow cb p.length p.length), (10, vi x), (47, vi p.length), (48, vi x), (52, vi p.length), (53, vi y)], M,
     [(xb, Cl 45 [.slice fa e.frm.length fc, d, .slice (some ⟨ob, oo, none⟩) e.ord.length oc, n]), (hbb, Cl 144 ((hbR).map vu)), (cb, Cl 144 ((coR).map vu))]))
    (fun y => y ≤ p.length ∧ ∀ y', y' < y → (hasR (hbR) x y' && hasR (coR) y' x) = false) (fun y => p.length - y) 0 rfl ⟨Nat.zero_le _, fun _ h => absurd h (Nat.not_lt_zero _)⟩ ?env4 (List.Sublist.refl _) ?_
   case env4 =>
    repeat' first
     | (refine List.forall_mem_cons.2 (And.intro ?_ ?_))
     | (intro _ hnil; cases hnil; done)
     | rfl
     | fail
   rintro y ⟨hyn, hno2⟩ ih2
   dsimp only at hyn hno2 ih2 ⊢
   repeat' first
     | refine EV.seq ?_
     | refine EV.skip ?_
     | refine EV.block ?_
     | refine EV.inBlock ?_
     | (refine EV.reg ?_; (conv => (arg 2; whnf)); (refine nx ?_; try with_reducible exact ⟨⟩))
     | (refine EV.condX rfl (fun h => ?_) (fun h => ?_) <;> try exact dead h)
     | (refine EV.exit rfl ?_)
     | fail
   ·have hy' : y < p.length := by omega
    obtain ⟨hbl, eb1⟩ := hokB.get hx'
    obtain ⟨hcl, ec1⟩ := hokC.get hy'
    have hxa := hokB.at hb x
    have hxc := hokC.at hb y
    have hcross : (hasR (hbR) x y && hasR (coR) y x) = ((hbR)[x].testBit y && (coR)[y].testBit x) := by simp only [hasR, eb1, ec1]
    rw [eb1] at hxa
    rw [ec1] at hxc
    have ih3 := ih2 (y + 1)
    clear ih ih2
    repeat' first
      | fail
    refine ConQ.call (ax_has_q (j := y) (rowAt (f := vu) hbl) hx' (by omega) (by omega) hxa) ?_
    simp only [wpS, wpA, wpQL, push_cast, Int.cast_ofNat_Int, reduceIte, Nat.reduceEqDiff, reduceCtorEq, Nat.reduceAdd, Nat.reduceSub, Nat.reduceMul, Int.reduceToNat, Nat.reduceLeDiff]
    have next : (hbR[x].testBit y && coR[y].testBit x) = false → _ := fun hcc => ih3 ⟨by omega, fun y' hy2 => by
     by_cases e1 : y' = y
     ·subst e1; rw [hcross]; exact hcc
     ·exact hno2 y' (by omega)⟩ (by omega)
    repeat' first
      | refine EV.seq ?_
      | refine EV.skip ?_
      | refine EV.inBlock ?_
      | (refine EV.reg ?_; (conv => (arg 2; whnf)); (refine nx ?_; try with_reducible exact ⟨⟩))
      | (refine condW.intro (fun hc => ?_) (fun hc => ?_) <;> try simp only [ne_eq, Bool.not_true, Bool.not_false, not_true_eq_false, not_false_eq_true, reduceCtorEq] at hc <;> try (exfalso; first | exact hc | omega | (simp at hc; done)))
      | (refine EV.condX rfl (fun h => ?_) (fun h => ?_) <;> try exact dead h)
      | fail
    all_goals try (exfalso; exact hc h; done)
    ·refine ConQ.call (ax_has_q (j := x) (rowAt (f := vu) hcl) hy' (by omega) (by omega) hxc) ?_
     simp only [wpS, wpA, wpQL, push_cast, Int.cast_ofNat_Int, reduceIte, Nat.reduceEqDiff, reduceCtorEq, Nat.reduceAdd, Nat.reduceSub, Nat.reduceMul, Int.reduceToNat, Nat.reduceLeDiff]
     repeat' first
       | refine EV.seq ?_
       | refine EV.skip ?_
       | refine EV.inBlock ?_
       | (refine EV.reg ?_; (conv => (arg 2; whnf)); (refine nx ?_; try with_reducible exact ⟨⟩))
       | (refine EV.condX rfl (fun h => ?_) (fun h => ?_) <;> try exact dead h)
       | fail
     ·refine EV.ret Q14_ok ?_
      simp only [wpS, wpA, wpQL, push_cast, Int.cast_ofNat_Int, reduceIte, Nat.reduceEqDiff, reduceCtorEq, Nat.reduceAdd, Nat.reduceSub, Nat.reduceMul, Int.reduceToNat, Nat.reduceLeDiff, Q14]
      have hcr : crossP p e = true := hcd ▸ any_range_yes hx' (any_range_yes hy' (by rw [hcross]; simp_all))
      rw [if_pos (by rw [hcr]; simp)]
     ·refine EV.toS (next (by grind)) ?_
      repeat' first
       | (refine List.forall_mem_cons.2 (And.intro ?_ ?_))
       | (intro _ hnil; cases hnil; done)
       | rfl
       | (refine env_w64 rfl (by first | rfl | (push_cast; first | rfl | omega)) (by omega) (by omega); done)
       | fail
    ·refine EV.toS (next (by grind)) ?_
     repeat' first
      | (refine List.forall_mem_cons.2 (And.intro ?_ ?_))
      | (intro _ hnil; cases hnil; done)
      | rfl
      | (refine env_w64 rfl (by first | rfl | (push_cast; first | rfl | omega)) (by omega) (by omega); done)
      | fail
   ·refine EV.toS (ih (x + 1) ⟨by omega, fun x' hx2 => ?_⟩ (by omega)) ?_
    ·by_cases e1 : x' = x
     ·subst e1; exact any_range_no fun y' hy2 => hno2 y' (by omega)
     ·exact hno x' (by omega)
    ·repeat' first
      | (refine List.forall_mem_cons.2 (And.intro ?_ ?_))
      | (intro _ hnil; cases hnil; done)
      | rfl
      | (refine env_w64 rfl (by first | rfl | (push_cast; first | rfl | omega)) (by omega) (by omega); done)
      | fail
  ·have hcr : crossP p e = false := hcd ▸ any_range_no fun x' hx2 => hno x' (by omega)
   rw [hci, hcr]
   simp only [Bool.or_self, Bool.false_eq_true, if_false]
   clear ih
   refine EV.loopTo (fun k : Nat => ([(0, .slice a p.length c), (3, pv xb 0), (69, .slice (some ⟨ob, oo, none⟩) e.ord.length oc), (70, vi e.ord.length), (71, vi k)], M,
     [(xb, Cl 45 [.slice fa e.frm.length fc, d, .slice (some ⟨ob, oo, none⟩) e.ord.length oc, n])]))
    (fun k => k ≤ e.ord.length ∧ (e.ord.take k).any (nextBad p e) = false) (fun k => e.ord.length - k) 0 rfl ⟨Nat.zero_le _, by simp⟩ ?env5 (by simp) ?_
   case env5 =>
    repeat' first
     | (refine List.forall_mem_cons.2 (And.intro ?_ ?_))
     | (intro _ hnil; cases hnil; done)
     | rfl
     | fail
   rintro k ⟨hk, hno⟩ ih
   dsimp only at hk hno ih ⊢
   repeat' first
     | refine EV.seq ?_
     | refine EV.skip ?_
     | refine EV.block ?_
     | (refine EV.reg ?_; (conv => (arg 2; whnf)); (refine nx ?_; try with_reducible exact ⟨⟩))
     | (refine EV.condX rfl (fun h => ?_) (fun h => ?_) <;> try exact dead h)
     | (refine EV.exit rfl ?_)
     | (refine And.intro (by omega) ?_)
     | fail
   ·have hk' : k < e.ord.length := by omega
    obtain ⟨la, lc, hr1, hlc, hr2⟩ := hato k hk'
    rw [Nat.mul_one] at hr1
    obtain ⟨hin, hln⟩ := hx.oin _ (List.getElem_mem hk')
    have hmem := List.getElem_mem hk'
    have hna : (e.ord.take (k + 1)).any (nextBad p e) = nextBad p e e.ord[k] := by
     rw [List.take_succ_eq_append_getElem hk', List.any_append, hno]; simp
    have ih1 := ih (k + 1)
    rw [hna] at ih1
    generalize e.ord[k] = l at *
    clear ih hna
    repeat' first
      | refine EV.seq ?_
      | refine EV.block ?_
      | (refine EV.reg ?_; (conv => (arg 2; whnf)); (refine nx ?_; try with_reducible exact ⟨⟩))
      | (refine Exists.intro _ (Exists.intro _ (Exists.intro _ (And.intro (rd_M (by assumption)) ?_))); try (refine nx ?_; try with_reducible exact ⟨⟩))
      | fail
    refine EV.loopTo (fun i : Nat => ([(0, .slice a p.length c), (3, pv xb 0), (13, .slice la l.length lc), (14, vi (frontAt l i)), (69, .slice (some ⟨ob, oo, none⟩) e.ord.length oc), (70, vi e.ord.length), (71, vi k), (75, .slice la l.length lc), (76, vi l.length), (77, vi i)], M,
      [(xb, Cl 45 [.slice fa e.frm.length fc, d, .slice (some ⟨ob, oo, none⟩) e.ord.length oc, n])]))
     (fun i => i ≤ l.length ∧ ∀ i', i' < i → badAt p e l i' = false) (fun i => l.length - i) 0 rfl ⟨Nat.zero_le _, fun _ h => absurd h (Nat.not_lt_zero _)⟩ ?env6 (List.Sublist.refl _) ?_
    case env6 =>
     repeat' first
      | (refine List.forall_mem_cons.2 (And.intro ?_ ?_))
      | (intro _ hnil; cases hnil; done)
      | rfl
      | fail
    rintro i ⟨hi, hno2⟩ ih2
    dsimp only at hi hno2 ih2 ⊢
    repeat' first
      | refine EV.seq ?_
      | refine EV.skip ?_
      | refine EV.block ?_
      | refine EV.inBlock ?_
      | (refine EV.reg ?_; (conv => (arg 2; whnf)); (refine nx ?_; try with_reducible exact ⟨⟩))
      | (refine EV.condX rfl (fun h => ?_) (fun h => ?_) <;> try exact dead h)
      | (refine EV.exit rfl ?_)
      | fail
    ·have hi' : i < l.length := by omega
     obtain ⟨wb, wo, rfl, hatl⟩ := Sl.at (sz := 1) (enc := ei) (fun _ => rfl) (by decide) hr2 (by omega)
     have hli := rd_num hatl i hi'
     have hiin := numAt_in hin hi'
     obtain ⟨pb, po, rfl, hat⟩ := Sl.at (enc := encEv) (fun _ => rfl) (by decide) hrd (by omega)
     obtain ⟨fb, fo, rfl, hat2⟩ := Sl.at (sz := 1) (enc := ei) (fun _ => rfl) (by decide) hrf (by omega)
     have hpw := Sl.evAt hat (numAt l i).toNat (by omega)
     have hfw : rd M fb (fo + (numAt l i).toNat) 1 [vi (frmAt e (numAt l i).toNat)] := rd_num hat2 _ (by omega)
     have hwf : numAt l i < (e.frm.length : Int) := by omega
     have hbd : badAt p e l i = ((evAt p (numAt l i).toNat).reads && decide (frmAt e (numAt l i).toNat ≠ frontAt l i)) := rfl
     have ih3 := ih2 (i + 1)
     simp only [frontAt] at ih3
     clear ih2 hatl hat hat2
     repeat' first
       | refine EV.seq ?_
       | refine EV.skip ?_
       | refine EV.inBlock ?_
       | (refine EV.reg ?_; (conv => (arg 2; whnf)); (refine nx ?_; try with_reducible exact ⟨⟩))
       | (refine ConQ.call (ax_reads_q (evAt p (numAt l i).toNat)) ?_; try (refine nx ?_; try with_reducible exact ⟨⟩))
       | with_reducible assumption
       | (refine condW.merge ?_ (fun hc K' hK => ?_) ?_; rotate_left)
       | (refine EV.condX rfl (fun h => ?_) (fun h => ?_) <;> try exact dead h)
       | (refine And.intro (by omega) ?_)
       | ((first | refine Exists.intro _ (And.intro (rd_M (by assumption)) ?_) | refine xsA rfl ?_ | fail); try (refine nx ?_; try with_reducible exact ⟨⟩))
       | fail
     ·refine EV.ret Q14_ok ?_
      simp only [wpS, wpA, wpQL, push_cast, Int.cast_ofNat_Int, reduceIte, Nat.reduceEqDiff, reduceCtorEq, Nat.reduceAdd, Nat.reduceSub, Nat.reduceMul, Int.reduceToNat, Nat.reduceLeDiff, Q14]
      have hb1 : nextBad p e l = true := any_range_yes hi' (by rw [hbd]; simp_all)
      rw [if_pos (List.any_eq_true.2 ⟨l, hmem, hb1⟩)]
     ·refine EV.toS (ih3 ⟨by omega, fun i' hi2 => ?_⟩ (by omega)) ?_
      ·by_cases e1 : i' = i
       ·subst e1; rw [hbd]; grind
       ·exact hno2 i' (by omega)
      ·repeat' first
        | (refine List.forall_mem_cons.2 (And.intro ?_ ?_))
        | (intro _ hnil; cases hnil; done)
        | rfl
        | (refine env_w64 rfl (by first | rfl | (push_cast; first | rfl | omega)) (by omega) (by omega); done)
        | fail
    ·refine EV.toS (ih1 ⟨by omega, any_range_no fun i' hi2 => hno2 i' (by omega)⟩ (by omega)) ?_
     repeat' first
      | (refine List.forall_mem_cons.2 (And.intro ?_ ?_))
      | (intro _ hnil; cases hnil; done)
      | rfl
      | (refine env_w64 rfl (by first | rfl | (push_cast; first | rfl | omega)) (by omega) (by omega); done)
      | fail
   ·have hke : k = e.ord.length := by omega
    subst hke
    rw [List.take_length] at hno
    refine EV.ret Q14_ok ?_
    simp only [wpS, wpA, wpQL, push_cast, Int.cast_ofNat_Int, reduceIte, Nat.reduceEqDiff, reduceCtorEq, Nat.reduceAdd, Nat.reduceSub, Nat.reduceMul, Int.reduceToNat, Nat.reduceLeDiff, Q14]
    rw [hno]; rfl

end
end Go.EV

namespace Go.EV
open Go.Proofs

def wordBad (p : List Ev) (e : Exec) (i : Nat) : Bool :=
 (decide ((evAt p i).op.kind = 3) && xor (e.dn[i]?.getD false) (decide ((wordsP p e.frm).r[i]?.getD 0 = (evAt p i).op.v))) ||
 (decide ((evAt p i).op.kind = 4) && (e.dn[i]?.getD false) && decide ((wordsP p e.frm).r[i]?.getD 0 ≠ (evAt p i).op.v))
def possibleP (p : List Ev) (e : Exec) : Bool := !((List.range p.length).any (wordBad p e)) && decide (brokenP p e = 0)

section
variable {M : PHeap}

set_option maxHeartbeats 4000000 in
theorem ax_possible_q (p : List Ev) (s : Value) (hs : Sl M 6 encEv s p) (hp : POk p) (e : Exec) (v : Value) (hv : IsX M v e) (hx : XOk p e) :
  ConQ Tryz.prog 81 #[s, v] M (vb (possibleP p e)) := by
 have hs0 := hs
 have hv0 := hv
 have hb := hp.len
 obtain ⟨a, c, rfl, hrd⟩ := hs
 obtain ⟨f, d, o, n, rfl, hf, hd, ho, hn⟩ := hv
 have hf0 := hf
 obtain ⟨da, dc, rfl, hrdn⟩ := hd
 have hdl := hx.dl
 refine Con.enter Q38_ok (args := [.slice a p.length c, .agg #[f, .slice da e.dn.length dc, o, n]]) (by simp [Q38]) fun w0 => ?_
 simp only [Q38, argE]
 repeat' first
   | refine EV.seq ?_
   | (refine EV.reg ?_; (conv => (arg 2; whnf)); (refine nx ?_; try with_reducible exact ⟨⟩))
   | ((first | with_reducible intro b | refine xrA rfl ?_ | fail); try (refine nx ?_; try with_reducible exact ⟨⟩))
   | fail
 rename Nat => xb
 refine Con.callS (G1 := []) (ax_words_c p _ hs0 (by omega) e.frm _ _ _ _ hf0 hx.fromOk) ?_
 rintro v M1 G1 hM1 ⟨rv, wv, kv, rfl, hr, -, -⟩
 obtain ⟨ra, rc, rfl, hrr⟩ := hr
 have hrl : (wordsP p e.frm).r.length = p.length := (wdIter_len p e.frm _).r
 simp only [wpS, wpA, wpQL, push_cast, Int.cast_ofNat_Int, reduceIte, Nat.reduceEqDiff, reduceCtorEq, Nat.reduceAdd, Nat.reduceSub, Nat.reduceMul, Int.reduceToNat, Nat.reduceLeDiff]
 repeat' first
   | refine EV.seq ?_
   | refine EV.block ?_
   | (refine EV.reg ?_; (conv => (arg 2; whnf)); (refine nx ?_; try with_reducible exact ⟨⟩))
   | fail
 refine EV.toS (ρ' := [(0, .slice a p.length c), (3, pv xb 0), (5, .slice ra (wordsP p e.frm).r.length rc), (17, .slice a p.length c), (18, vi p.length), (19, vi (0 : Nat))]) (G' := [(xb, Cl 45 [f, .slice da e.dn.length dc, o, n])]) ?_ ?env0
 case env0 =>
  repeat' first
   | (refine List.forall_mem_cons.2 (And.intro ?_ ?_))
   | (intro _ hnil; cases hnil; done)
   | rfl
   | fail
 refine EV.loopTo (fun i : Nat => ([(0, .slice a p.length c), (3, pv xb 0), (5, .slice ra (wordsP p e.frm).r.length rc), (17, .slice a p.length c), (18, vi p.length), (19, vi i)], M1, [(xb, Cl 45 [f, .slice da e.dn.length dc, o, n])]))
  (fun i => i ≤ p.length ∧ ∀ i', i' < i → wordBad p e i' = false) (fun i => p.length - i) 0 rfl ⟨Nat.zero_le _, fun _ h => absurd h (Nat.not_lt_zero _)⟩ ?env1 (List.Sublist.refl _) ?_
 case env1 =>
  repeat' first
   | (refine List.forall_mem_cons.2 (And.intro ?_ ?_))
   | (intro _ hnil; cases hnil; done)
   | rfl
   | fail
 rintro i ⟨hi, hno⟩ ih
 dsimp only at hi hno ih ⊢
 repeat' first
   | refine EV.seq ?_
   | refine EV.skip ?_
   | refine EV.block ?_
   | (refine EV.reg ?_; (conv => (arg 2; whnf)); (refine nx ?_; try with_reducible exact ⟨⟩))
   | (refine EV.condX rfl (fun h => ?_) (fun h => ?_) <;> try exact dead h)
   | (refine EV.exit rfl ?_)
   | (refine xrA rfl ?_; try (refine nx ?_; try with_reducible exact ⟨⟩))
   | fail
 ·have hi' : i < p.length := by omega
  obtain ⟨pb, po, rfl, hat⟩ := Sl.at (enc := encEv) (fun _ => rfl) (by decide) hrd (by omega)
  obtain ⟨db, do', rfl, hatd⟩ := Sl.at (sz := 1) (enc := eb) (fun _ => rfl) (by decide) hrdn (by omega)
  obtain ⟨rb, ro, rfl, hatr⟩ := Sl.at (sz := 1) (enc := ei) (fun _ => rfl) (by decide) hrr (by omega)
  have hpi := (Sl.evAt hat i hi').mono hM1
  have hdi : rd M1 db (do' + i) 1 [vb (e.dn[i]?.getD false)] := by
   have := (hatd i (by omega)).mono hM1
   rw [Nat.mul_one] at this
   rwa [List.getElem?_eq_getElem (by omega : i < e.dn.length)]
  have hri : rd M1 rb (ro + i) 1 [vi ((wordsP p e.frm).r[i]?.getD 0)] := rd_num hatr i (by omega)
  have hdI : (i : Int) < e.dn.length := by omega
  have hrI : (i : Int) < (wordsP p e.frm).r.length := by omega
  have hwb : wordBad p e i = ((decide ((evAt p i).op.kind = 3) && xor (e.dn[i]?.getD false) (decide ((wordsP p e.frm).r[i]?.getD 0 = (evAt p i).op.v))) ||
   (decide ((evAt p i).op.kind = 4) && (e.dn[i]?.getD false) && decide ((wordsP p e.frm).r[i]?.getD 0 ≠ (evAt p i).op.v))) := rfl
  have ih3 := ih (i + 1)
  have hpos : wordBad p e i = true → possibleP p e = false := fun h => by
   rw [possibleP, any_range_yes hi' h]; rfl
  clear ih hat hatd hatr
  repeat' first
    | refine EV.seq ?_
    | refine EV.skip ?_
    | refine EV.inBlock ?_
    | ((first | refine EV.reg ?_ | refine EV.any _ (List.Sublist.refl _) ?_ | fail); (conv => (arg 2; whnf)); (refine nx ?_; try with_reducible exact ⟨⟩))
    | (refine condQ.mk ?_ (fun hc => ?_) ?_; rotate_left; (try simp only [decide_eq_true_eq, decide_eq_false_iff_not, Bool.not_eq_true', Bool.not_eq_false', Bool.and_eq_true, Bool.or_eq_true, Bool.and_eq_false_iff, Bool.or_eq_false_iff] at hc))
    | (with_reducible rfl)
    | (refine EV.condX rfl (fun h => ?_) (fun h => ?_) <;> try exact dead h)
    | (with_reducible intro b; try (refine nx ?_; try with_reducible exact ⟨⟩))
    | (refine And.intro (by omega) ?_)
    | ((first | refine Exists.intro _ (And.intro (rd_M (by assumption)) ?_) | refine xiA rfl ?_ | refine xsA rfl ?_ | fail); try (refine nx ?_; try with_reducible exact ⟨⟩))
    | (refine xw ?_; (refine nx ?_; try with_reducible exact ⟨⟩))
    | fail
  ·have hw : wordBad p e i = true := by rw [hwb]; simp_all
   refine EV.ret Q38_ok ?_
   simp only [wpS, wpA, wpQL, push_cast, Int.cast_ofNat_Int, reduceIte, Nat.reduceEqDiff, reduceCtorEq, Nat.reduceAdd, Nat.reduceSub, Nat.reduceMul, Int.reduceToNat, Nat.reduceLeDiff, Q38]
   rw [hpos hw]
  ·have hw : wordBad p e i = false := by rw [hwb]; grind
   refine EV.toS (ih3 ⟨by omega, fun i' hi2 => ?_⟩ (by omega)) ?_
   ·by_cases e1 : i' = i
    ·subst e1; exact hw
    ·exact hno i' (by omega)
   ·repeat' first
     | (refine List.forall_mem_cons.2 (And.intro ?_ ?_))
     | (intro _ hnil; cases hnil; done)
     | rfl
     | (refine env_w64 rfl (by first | rfl | (push_cast; first | rfl | omega)) (by omega) (by omega); done)
     | fail
 ·have hie : i = p.length := by omega
  subst hie
  have hpo : possibleP p e = decide (brokenP p e = 0) := by rw [possibleP, any_range_no hno]; rfl
  repeat' first
    | (refine ConQ.call (ax_broken_q p _ (hs0.mono (PHeap.le_trans hM1 (PHeap.le_add _ _))) hp e _ (hv0.mono (PHeap.le_trans hM1 (PHeap.le_add _ _))) hx) ?_; try (refine nx ?_; try with_reducible exact ⟨⟩))
    | fail
  refine EV.ret Q38_ok ?_
  simp only [wpS, wpA, wpQL, push_cast, Int.cast_ofNat_Int, reduceIte, Nat.reduceEqDiff, reduceCtorEq, Nat.reduceAdd, Nat.reduceSub, Nat.reduceMul, Int.reduceToNat, Nat.reduceLeDiff, Q38]
  rw [hpo]

end
end Go.EV

namespace Go.EV
open Go.Proofs

theorem rdS_none {H : PHeap} {n : Nat} {cs : List Value} (h : rdS H 1 none n cs) : n = 0 ∧ cs = [] := by
 rcases h with ⟨h0, rfl⟩ | ⟨b, off, e, _⟩
 ·exact ⟨by omega, rfl⟩
 ·cases e

section
variable {M : PHeap}

theorem sl_Clone_c (xs : List Int) (s : Value) (hs : Sl M 1 ei s xs) (hb : xs.length < 1000000) : Con Tryz.prog 113 #[s] M [] (Ints xs) := by
 obtain ⟨a, c, rfl, hrd⟩ := hs
 rw [flatMap_ei] at hrd
 refine Con.enter Q77_ok (args := [.slice a xs.length c]) (by simp [Q77]) fun w0 => ?_
 simp only [Q77, argE]
 cases a with
 | none =>
  obtain ⟨h0, hcs⟩ := rdS_none hrd
  repeat' first
    | refine EV.seq ?_
    | (refine EV.reg ?_; (conv => (arg 2; whnf)); simp only [wpS, wpA, wpQL, push_cast, Int.cast_ofNat_Int, reduceIte, Nat.reduceEqDiff, reduceCtorEq, Nat.reduceAdd, Nat.reduceSub, Nat.reduceMul, Int.reduceToNat, Nat.reduceLeDiff, Option.isNone_none])
    | (refine EV.condX rfl (fun h => ?_) (fun h => ?_) <;> try exact dead h)
    | fail
  refine EV.ret Q77_ok ?_
  simp only [wpS, wpA, wpQL, push_cast, Int.cast_ofNat_Int, reduceIte, Nat.reduceEqDiff, reduceCtorEq, Nat.reduceAdd, Nat.reduceSub, Nat.reduceMul, Int.reduceToNat, Nat.reduceLeDiff, Q77]
  exact ⟨none, by rw [h0]; rfl, ⟨h0, hcs⟩, rfl⟩
 | some ad =>
  repeat' first
    | refine EV.seq ?_
    | refine EV.skip ?_
    | (refine EV.reg ?_; (conv => (arg 2; whnf)); simp only [wpS, wpA, wpQL, push_cast, Int.cast_ofNat_Int, reduceIte, Nat.reduceEqDiff, reduceCtorEq, Nat.reduceAdd, Nat.reduceSub, Nat.reduceMul, Int.reduceToNat, Nat.reduceLeDiff, Option.isNone_some])
    | (refine EV.condX rfl (fun h => ?_) (fun h => ?_) <;> try exact dead h)
    | (with_reducible intro b; try simp only [wpS, wpA, wpQL, push_cast, Int.cast_ofNat_Int, reduceIte, Nat.reduceEqDiff, reduceCtorEq, Nat.reduceAdd, Nat.reduceSub, Nat.reduceMul, Int.reduceToNat, Nat.reduceLeDiff, Option.isNone_some])
    | fail
  refine ⟨xs.map vi, hrd.mono (PHeap.le_add _ _), ok1_vi xs, Or.inl ⟨some (b, 0, []), 0, rfl, [], ⟨rfl, rfl, Nat.le_refl _, by decide⟩, [], by simp [osg], ?_, ?_, ?_⟩⟩
  ·simp only [maxLen]; omega
  ·omega
  intro o' ho' _
  simp only [wpS, wpA, wpQL, push_cast, Int.cast_ofNat_Int, reduceIte, Nat.reduceEqDiff, reduceCtorEq, Nat.reduceAdd, Nat.reduceSub, Nat.reduceMul, Int.reduceToNat, Nat.reduceLeDiff]
  repeat' first
    | fail
  rw [Nat.zero_add] at ho'
  rw [List.nil_append] at ho'
  refine EV.ret Q77_ok ?_
  simp only [wpS, wpA, wpQL, push_cast, Int.cast_ofNat_Int, reduceIte, Nat.reduceEqDiff, reduceCtorEq, Nat.reduceAdd, Nat.reduceSub, Nat.reduceMul, Int.reduceToNat, Nat.reduceLeDiff, Q77]
  exact ⟨o', rfl, ho', rfl⟩

def Bools (xs : List Bool) (v : Value) (_ : PHeap) (G' : Own) : Prop := ∃ ov : Vec, v = osv ov xs.length ∧ osok 1 ov xs.length (xs.map vb) ∧ G' = osg 4 ov (xs.map vb)

theorem sl_CloneB_c (xs : List Bool) (s : Value) (hs : Sl M 1 eb s xs) (hb : xs.length < 1000000) : Con Tryz.prog 124 #[s] M [] (Bools xs) := by
 obtain ⟨a, c, rfl, hrd⟩ := hs
 rw [flatMap_eb] at hrd
 refine Con.enter Q76_ok (args := [.slice a xs.length c]) (by simp [Q76]) fun w0 => ?_
 simp only [Q76, argE]
 cases a with
 | none =>
  obtain ⟨h0, hcs⟩ := rdS_none hrd
  repeat' first
    | refine EV.seq ?_
    | (refine EV.reg ?_; (conv => (arg 2; whnf)); simp only [wpS, wpA, wpQL, push_cast, Int.cast_ofNat_Int, reduceIte, Nat.reduceEqDiff, reduceCtorEq, Nat.reduceAdd, Nat.reduceSub, Nat.reduceMul, Int.reduceToNat, Nat.reduceLeDiff, Option.isNone_none])
    | (refine EV.condX rfl (fun h => ?_) (fun h => ?_) <;> try exact dead h)
    | fail
  refine EV.ret Q76_ok ?_
  simp only [wpS, wpA, wpQL, push_cast, Int.cast_ofNat_Int, reduceIte, Nat.reduceEqDiff, reduceCtorEq, Nat.reduceAdd, Nat.reduceSub, Nat.reduceMul, Int.reduceToNat, Nat.reduceLeDiff, Q76]
  exact ⟨none, by rw [h0]; rfl, ⟨h0, hcs⟩, rfl⟩
 | some ad =>
  repeat' first
    | refine EV.seq ?_
    | refine EV.skip ?_
    | (refine EV.reg ?_; (conv => (arg 2; whnf)); simp only [wpS, wpA, wpQL, push_cast, Int.cast_ofNat_Int, reduceIte, Nat.reduceEqDiff, reduceCtorEq, Nat.reduceAdd, Nat.reduceSub, Nat.reduceMul, Int.reduceToNat, Nat.reduceLeDiff, Option.isNone_some])
    | (refine EV.condX rfl (fun h => ?_) (fun h => ?_) <;> try exact dead h)
    | (with_reducible intro b; try simp only [wpS, wpA, wpQL, push_cast, Int.cast_ofNat_Int, reduceIte, Nat.reduceEqDiff, reduceCtorEq, Nat.reduceAdd, Nat.reduceSub, Nat.reduceMul, Int.reduceToNat, Nat.reduceLeDiff, Option.isNone_some])
    | fail
  refine ⟨xs.map vb, hrd.mono (PHeap.le_add _ _), ok1_vb xs, Or.inl ⟨some (b, 0, []), 0, rfl, [], ⟨rfl, rfl, Nat.le_refl _, by decide⟩, [], by simp [osg], ?_, ?_, ?_⟩⟩
  ·simp only [maxLen]; omega
  ·omega
  intro o' ho' _
  simp only [wpS, wpA, wpQL, push_cast, Int.cast_ofNat_Int, reduceIte, Nat.reduceEqDiff, reduceCtorEq, Nat.reduceAdd, Nat.reduceSub, Nat.reduceMul, Int.reduceToNat, Nat.reduceLeDiff]
  repeat' first
    | fail
  rw [Nat.zero_add] at ho'
  rw [List.nil_append] at ho'
  refine EV.ret Q76_ok ?_
  simp only [wpS, wpA, wpQL, push_cast, Int.cast_ofNat_Int, reduceIte, Nat.reduceEqDiff, reduceCtorEq, Nat.reduceAdd, Nat.reduceSub, Nat.reduceMul, Int.reduceToNat, Nat.reduceLeDiff, Q76]
  exact ⟨o', rfl, ho', rfl⟩

theorem sl_Clip_q (a : Option Addr) (n c : Nat) (hc : n ≤ c) : ConQ Tryz.prog 119 #[.slice a n c] M (.slice a n n) := by
 refine Con.enter Q75_ok (args := [.slice a n c]) (by simp [Q75]) fun w0 => ?_
 simp only [Q75, argE]
 repeat' first
   | refine EV.seq ?_
   | (refine EV.reg ?_; (conv => (arg 2; whnf)); (refine nx ?_; try with_reducible exact ⟨⟩))
   | fail
 simp only [Option.map_some, onv_some]
 refine ⟨n, rfl, n, rfl, Nat.le_refl _, hc, Or.inl rfl, ?_⟩
 have e : (if n = 0 then a else a.map fun x => x.add 0) = a := by
  split
  ·rfl
  ·cases a <;> simp [Addr.add]
 rw [e]
 refine EV.ret Q75_ok ?_
 simp only [wpS, wpA, wpQL, push_cast, Int.cast_ofNat_Int, reduceIte, Nat.reduceEqDiff, reduceCtorEq, Nat.reduceAdd, Nat.reduceSub, Nat.reduceMul, Int.reduceToNat, Nat.reduceLeDiff, Q75]

def idxFunc (f : Int → Bool) (xs : List Int) : Int := if h : (xs.findIdx f) < xs.length then xs.findIdx f else -1

theorem sl_IndexFunc_q (xs : List Int) (s : Value) (hs : Sl M 1 ei s xs) (hb : xs.length < 1000000) (g : Nat) (caps : Array Value) (f : Int → Bool)
  (hf : ∀ M', M.le M' → ∀ x ∈ xs, ConQ Tryz.prog g (#[vi x] ++ caps) M' (vb (f x))) : ConQ Tryz.prog 140 #[s, .func (.func g) #[] caps] M (vi (idxFunc f xs)) := by
 obtain ⟨a, c, rfl, hrd⟩ := hs
 refine Con.enter Q85_ok (args := [.slice a xs.length c, .func (.func g) #[] caps]) (by simp [Q85]) fun w0 => ?_
 simp only [Q85, argE]
 repeat' first
   | refine EV.seq ?_
   | refine EV.block ?_
   | (refine EV.reg ?_; (conv => (arg 2; whnf)); (refine nx ?_; try with_reducible exact ⟨⟩))
   | fail
 refine EV.loopTo (fun i : Nat => ([(0, .slice a xs.length c), (1, .func (.func g) #[] caps), (7, vi xs.length), (8, vi i)], M, [])) (fun i => i ≤ xs.length ∧ ∀ j (h : j < xs.length), j < i → f xs[j] = false) (fun i => xs.length - i) 0 rfl ⟨Nat.zero_le _, fun j _ h => absurd h (Nat.not_lt_zero _)⟩ ?env1 (List.Sublist.refl _) ?_
 case env1 =>
  repeat' first
   | (refine List.forall_mem_cons.2 (And.intro ?_ ?_))
   | (intro _ hnil; cases hnil; done)
   | rfl
   | fail
 rintro i ⟨hi, hno⟩ ih
 dsimp only at hi hno ih ⊢
 repeat' first
   | refine EV.seq ?_
   | refine EV.skip ?_
   | refine EV.block ?_
   | (refine EV.reg ?_; (conv => (arg 2; whnf)); (refine nx ?_; try with_reducible exact ⟨⟩))
   | (refine EV.condX rfl (fun h => ?_) (fun h => ?_) <;> try exact dead h)
   | (refine EV.exit rfl ?_)
   | fail
 ·have hi' : i < xs.length := by omega
  obtain ⟨wb, wo, rfl, hat⟩ := Sl.at (sz := 1) (enc := ei) (fun _ => rfl) (by decide) hrd (by omega)
  have hri := hat i hi'
  rw [Nat.mul_one] at hri
  repeat' first
    | refine EV.seq ?_
    | refine EV.skip ?_
    | refine EV.inBlock ?_
    | (refine EV.reg ?_; (conv => (arg 2; whnf)); (refine nx ?_; try with_reducible exact ⟨⟩))
    | (refine ConQ.call (hf _ (PHeap.le_add _ _) xs[i] (List.getElem_mem hi')) ?_; try (refine nx ?_; try with_reducible exact ⟨⟩))
    | (refine EV.condX rfl (fun h => ?_) (fun h => ?_) <;> try exact dead h)
    | (refine And.intro (by omega) ?_)
    | (refine Exists.intro _ (And.intro (rd_M (by assumption)) ?_); try (refine nx ?_; try with_reducible exact ⟨⟩))
    | fail
  ·refine EV.ret Q85_ok ?_
   simp only [wpS, wpA, wpQL, push_cast, Int.cast_ofNat_Int, reduceIte, Nat.reduceEqDiff, reduceCtorEq, Nat.reduceAdd, Nat.reduceSub, Nat.reduceMul, Int.reduceToNat, Nat.reduceLeDiff, Q85]
   have e : xs.findIdx f = i := by
    rw [List.findIdx_eq hi']
    exact ⟨by assumption, fun j hj => hno j (by omega) hj⟩
   rw [idxFunc, dif_pos (by omega), e]
  ·refine EV.to (ih (i + 1) ⟨by omega, fun j hj hji => ?_⟩ (by omega)) ?_ (List.Sublist.refl _)
   ·by_cases e : j = i
    ·subst e; assumption
    ·exact hno j hj (by omega)
   ·repeat' first
     | (refine List.forall_mem_cons.2 (And.intro ?_ ?_))
     | (intro _ hnil; cases hnil; done)
     | rfl
     | (refine env_w64 rfl (by first | rfl | (push_cast; first | rfl | omega)) (by omega) (by omega); done)
     | fail
 ·refine EV.ret Q85_ok ?_
  simp only [wpS, wpA, wpQL, push_cast, Int.cast_ofNat_Int, reduceIte, Nat.reduceEqDiff, reduceCtorEq, Nat.reduceAdd, Nat.reduceSub, Nat.reduceMul, Int.reduceToNat, Nat.reduceLeDiff, Q85]
  have e : xs.findIdx f = xs.length := by
   rw [List.findIdx_eq_length]
   intro x hx
   obtain ⟨j, hj, rfl⟩ := List.getElem_of_mem hx
   exact hno j hj (by omega)
  rw [idxFunc, dif_neg (by omega)]

theorem sl_ContainsFunc_q (xs : List Int) (s : Value) (hs : Sl M 1 ei s xs) (hb : xs.length < 1000000) (g : Nat) (caps : Array Value) (f : Int → Bool)
  (hf : ∀ M', M.le M' → ∀ x ∈ xs, ConQ Tryz.prog g (#[vi x] ++ caps) M' (vb (f x))) : ConQ Tryz.prog 117 #[s, .func (.func g) #[] caps] M (vb (xs.any f)) := by
 have hs0 := hs
 obtain ⟨a, c, rfl, hrd⟩ := hs
 refine Con.enter Q82_ok (args := [.slice a xs.length c, .func (.func g) #[] caps]) (by simp [Q82]) fun w0 => ?_
 simp only [Q82, argE]
 repeat' first
   | refine EV.seq ?_
   | (refine EV.reg ?_; (conv => (arg 2; whnf)); (refine nx ?_; try with_reducible exact ⟨⟩))
   | (refine ConQ.call (sl_IndexFunc_q xs _ (hs0.mono (PHeap.le_add _ _)) hb g caps f (fun M' hM' => hf M' (PHeap.le_trans (PHeap.le_add _ _) hM'))) ?_; try (refine nx ?_; try with_reducible exact ⟨⟩))
   | (refine EV.ret Q82_ok ?_; simp only [wpS, wpA, wpQL, push_cast, Int.cast_ofNat_Int, reduceIte, Nat.reduceEqDiff, reduceCtorEq, Nat.reduceAdd, Nat.reduceSub, Nat.reduceMul, Int.reduceToNat, Nat.reduceLeDiff, Q82])
   | fail
 have e : decide (0 ≤ idxFunc f xs) = xs.any f := by
  rw [Bool.eq_iff_iff, decide_eq_true_iff, List.any_eq_true, idxFunc]
  constructor
  ·intro h
   split at h
   ·rename_i h2; exact List.findIdx_lt_length.1 h2
   ·omega
  ·intro h
   rw [dif_pos (List.findIdx_lt_length.2 h)]; omega
 first | rw [← e] | (rw [← e]; simp)

theorem sl_Index_q (xs : List Int) (s : Value) (hs : Sl M 1 ei s xs) (hb : xs.length < 1000000) (x : Int) : ConQ Tryz.prog 114 #[s, vi x] M (vi (idxFunc (fun y => decide (x = y)) xs)) := by
 obtain ⟨a, c, rfl, hrd⟩ := hs
 refine Con.enter Q86_ok (args := [.slice a xs.length c, vi x]) (by simp [Q86]) fun w0 => ?_
 simp only [Q86, argE]
 repeat' first
   | refine EV.seq ?_
   | refine EV.block ?_
   | (refine EV.reg ?_; (conv => (arg 2; whnf)); (refine nx ?_; try with_reducible exact ⟨⟩))
   | fail
 refine EV.loopTo (fun i : Nat => ([(0, .slice a xs.length c), (1, vi x), (7, vi xs.length), (8, vi i)], M, [])) (fun i => i ≤ xs.length ∧ ∀ j (h : j < xs.length), j < i → decide (x = xs[j]) = false) (fun i => xs.length - i) 0 rfl ⟨Nat.zero_le _, fun j _ h => absurd h (Nat.not_lt_zero _)⟩ ?env1 (List.Sublist.refl _) ?_
 case env1 =>
  repeat' first
   | (refine List.forall_mem_cons.2 (And.intro ?_ ?_))
   | (intro _ hnil; cases hnil; done)
   | rfl
   | fail
 rintro i ⟨hi, hno⟩ ih
 dsimp only at hi hno ih ⊢
 repeat' first
   | refine EV.seq ?_
   | refine EV.skip ?_
   | refine EV.block ?_
   | (refine EV.reg ?_; (conv => (arg 2; whnf)); (refine nx ?_; try with_reducible exact ⟨⟩))
   | (refine EV.condX rfl (fun h => ?_) (fun h => ?_) <;> try exact dead h)
   | (refine EV.exit rfl ?_)
   | fail
 ·have hi' : i < xs.length := by omega
  obtain ⟨wb, wo, rfl, hat⟩ := Sl.at (sz := 1) (enc := ei) (fun _ => rfl) (by decide) hrd (by omega)
  have hri := hat i hi'
  rw [Nat.mul_one] at hri
  repeat' first
    | refine EV.seq ?_
    | refine EV.skip ?_
    | refine EV.inBlock ?_
    | (refine EV.reg ?_; (conv => (arg 2; whnf)); (refine nx ?_; try with_reducible exact ⟨⟩))
    | (refine EV.condX rfl (fun h => ?_) (fun h => ?_) <;> try exact dead h)
    | (refine And.intro (by omega) ?_)
    | (refine Exists.intro _ (And.intro (rd_M (by assumption)) ?_); try (refine nx ?_; try with_reducible exact ⟨⟩))
    | fail
  ·refine EV.ret Q86_ok ?_
   simp only [wpS, wpA, wpQL, push_cast, Int.cast_ofNat_Int, reduceIte, Nat.reduceEqDiff, reduceCtorEq, Nat.reduceAdd, Nat.reduceSub, Nat.reduceMul, Int.reduceToNat, Nat.reduceLeDiff, Q86]
   have e : xs.findIdx (fun y => decide (x = y)) = i := by
    rw [List.findIdx_eq hi']
    exact ⟨by simpa using by assumption, fun j hj => hno j (by omega) hj⟩
   rw [idxFunc, dif_pos (by omega), e]
  ·refine EV.to (ih (i + 1) ⟨by omega, fun j hj hji => ?_⟩ (by omega)) ?_ (List.Sublist.refl _)
   ·by_cases e : j = i
    ·subst e; simpa using by assumption
    ·exact hno j hj (by omega)
   ·repeat' first
     | (refine List.forall_mem_cons.2 (And.intro ?_ ?_))
     | (intro _ hnil; cases hnil; done)
     | rfl
     | (refine env_w64 rfl (by first | rfl | (push_cast; first | rfl | omega)) (by omega) (by omega); done)
     | fail
 ·refine EV.ret Q86_ok ?_
  simp only [wpS, wpA, wpQL, push_cast, Int.cast_ofNat_Int, reduceIte, Nat.reduceEqDiff, reduceCtorEq, Nat.reduceAdd, Nat.reduceSub, Nat.reduceMul, Int.reduceToNat, Nat.reduceLeDiff, Q86]
  have e : xs.findIdx (fun y => decide (x = y)) = xs.length := by
   rw [List.findIdx_eq_length]
   intro y hy
   obtain ⟨j, hj, rfl⟩ := List.getElem_of_mem hy
   exact hno j hj (by omega)
  rw [idxFunc, dif_neg (by omega)]

theorem sl_Grow_c (n : Nat) (hb : n < 1000000) : Con Tryz.prog 141 #[.slice none 0 0, vi n] M [] fun v _ G' => ∃ ov : Vec, v = osv ov 0 ∧ osok 1 ov 0 [] ∧ G' = osg 3 ov [] := by
 refine Con.enter Q84_ok (args := [.slice none 0 0, vi n]) (by simp [Q84]) fun w0 => ?_
 simp only [Q84, argE]
 have e0 : IntKind.i64.wrap ((n : Int) - IntKind.i64.wrap (0 - 0)) = n := by
  rw [show IntKind.i64.wrap (0 - 0) = 0 from by decide, Int.sub_zero]; exact w64 (by omega) (by omega)
 repeat' first
   | refine EV.seq ?_
   | refine EV.skip ?_
   | (refine EV.reg ?_; (conv => (arg 2; whnf)); simp only [wpS, wpA, wpQL, push_cast, Int.cast_ofNat_Int, reduceIte, Nat.reduceEqDiff, reduceCtorEq, Nat.reduceAdd, Nat.reduceSub, Nat.reduceMul, Int.reduceToNat, Nat.reduceLeDiff, e0])
   | (refine EV.condX rfl (fun h => ?_) (fun h => ?_) <;> try exact dead h)
   | fail
 ·simp only [Option.map_some, onv_some]
  refine ⟨0, rfl, Nat.le_refl _, Or.inl rfl, [], Or.inl ⟨by simp, rfl⟩, by omega, by omega, by simp only [maxLen]; omega, by omega, ?_⟩
  rintro b cap sp ⟨h1, h2, h3, h4⟩
  rw [List.nil_append] at h1 h2
  refine ⟨0, rfl, Nat.zero_le _, Or.inl rfl, ?_⟩
  have e : (if cap = 0 then some (⟨b, 0, none⟩ : Addr) else some ((⟨b, 0, none⟩ : Addr).add 0)) = some ⟨b, 0, none⟩ := by
   split
   ·rfl
   ·simp [Addr.add]
  rw [e]
  repeat' first
    | refine EV.seq ?_
    | (refine EV.reg ?_; (conv => (arg 2; whnf)); (refine nx ?_; try with_reducible exact ⟨⟩))
    | fail
  refine EV.ret Q84_ok ?_
  simp only [wpS, wpA, wpQL, push_cast, Int.cast_ofNat_Int, reduceIte, Nat.reduceEqDiff, reduceCtorEq, Nat.reduceAdd, Nat.reduceSub, Nat.reduceMul, Int.reduceToNat, Nat.reduceLeDiff, Q84]
  refine ⟨some (b, cap, (List.replicate n [vi 0]).flatten ++ sp), rfl, ⟨by simp, by simpa using h2, Nat.zero_le _, h4⟩, by simp [osg]⟩
 ·refine EV.ret Q84_ok ?_
  simp only [wpS, wpA, wpQL, push_cast, Int.cast_ofNat_Int, reduceIte, Nat.reduceEqDiff, reduceCtorEq, Nat.reduceAdd, Nat.reduceSub, Nat.reduceMul, Int.reduceToNat, Nat.reduceLeDiff, Q84]
  exact ⟨none, rfl, ⟨rfl, rfl⟩, rfl⟩

theorem sl_Concat_c (xss : List (List Int)) (s : Value) (hs : SlSl M 1 ei s xss) (hb : xss.flatten.length < 1000000) (hb2 : xss.length < 1000000) : Con Tryz.prog 120 #[s] M [] (Ints xss.flatten) := by
 obtain ⟨a, c, vs, rfl, hl, hrd, hk⟩ := hs
 refine Con.enter Q81_ok (args := [.slice a xss.length c]) (by simp [Q81]) fun w0 => ?_
 simp only [Q81, argE]
 repeat' first
   | refine EV.seq ?_
   | refine EV.block ?_
   | (refine EV.reg ?_; (conv => (arg 2; whnf)); (refine nx ?_; try with_reducible exact ⟨⟩))
   | fail
 refine EV.loopTo (fun i : Nat => ([(0, .slice a xss.length c), (3, vi (xss.take i).flatten.length), (9, .slice a xss.length c), (10, vi xss.length), (11, vi i)], M, [])) (fun i => i ≤ xss.length) (fun i => xss.length - i) 0 rfl (Nat.zero_le _) ?env1 (List.Sublist.refl _) ?_
 case env1 =>
  repeat' first
   | (refine List.forall_mem_cons.2 (And.intro ?_ ?_))
   | (intro _ hnil; cases hnil; done)
   | rfl
   | fail
 intro i hi ih
 dsimp only at hi ih ⊢
 repeat' first
   | refine EV.seq ?_
   | refine EV.skip ?_
   | refine EV.block ?_
   | (refine EV.reg ?_; (conv => (arg 2; whnf)); (refine nx ?_; try with_reducible exact ⟨⟩))
   | (refine EV.condX rfl (fun h => ?_) (fun h => ?_) <;> try exact dead h)
   | (refine EV.exit rfl ?_)
   | fail
 ·have hi' : i < xss.length := by omega
  obtain ⟨pb, po, rfl, hat⟩ := SlSl.at hrd hl hk (by omega)
  obtain ⟨a', c', hr1, hr2⟩ := hat i hi'
  rw [Nat.mul_one] at hr1
  have e := flat_take (ts := xss) hi'
  have hle := flat_take_le xss (i + 1)
  have hw : IntKind.i64.wrap (((xss.take i).flatten.length : Int) + (xss[i].length : Int)) = ((xss.take (i + 1)).flatten.length : Int) := by
   rw [e, List.length_append]; rw [e, List.length_append] at hle; exact (w64 (by omega) (by omega)).trans (by omega)
  have hng : ¬ (((xss.take (i + 1)).flatten.length : Int) < 0) := by omega
  have ih3 := ih (i + 1) (by omega) (by omega)
  clear ih
  repeat' first
    | refine EV.seq ?_
    | refine EV.skip ?_
    | refine EV.inBlock ?_
    | (refine EV.reg ?_; (conv => (arg 2; whnf)); simp only [wpS, wpA, wpQL, push_cast, Int.cast_ofNat_Int, reduceIte, Nat.reduceEqDiff, reduceCtorEq, Nat.reduceAdd, Nat.reduceSub, Nat.reduceMul, Int.reduceToNat, Nat.reduceLeDiff, hw, hng])
    | (refine EV.condX rfl (fun h => ?_) (fun h => ?_) <;> try exact dead h)
    | (refine And.intro (by omega) ?_)
    | (refine Exists.intro _ (Exists.intro _ (Exists.intro _ (And.intro (rd_M (by assumption)) ?_))); try simp only [wpS, wpA, wpQL, push_cast, Int.cast_ofNat_Int, reduceIte, Nat.reduceEqDiff, reduceCtorEq, Nat.reduceAdd, Nat.reduceSub, Nat.reduceMul, Int.reduceToNat, Nat.reduceLeDiff, hw, hng])
    | fail
  all_goals try (exfalso; omega)
  refine EV.to ih3 ?_ (List.Sublist.refl _)
  repeat' first
   | (refine List.forall_mem_cons.2 (And.intro ?_ ?_))
   | (intro _ hnil; cases hnil; done)
   | rfl
   | (refine env_w64 rfl (by first | rfl | (push_cast; first | rfl | omega)) (by omega) (by omega); done)
   | fail
 ·have hie : i = xss.length := by omega
  subst hie
  rw [List.take_length]
  clear ih
  repeat' first
    | fail
  refine Con.callB (G1 := []) (sl_Grow_c xss.flatten.length hb) (PHeap.le_refl _) (List.Perm.refl _) ?_
  rintro v M' G' ⟨ov0, rfl, hov0, rfl⟩
  simp only [wpS, wpA, wpQL, push_cast, Int.cast_ofNat_Int, reduceIte, Nat.reduceEqDiff, reduceCtorEq, Nat.reduceAdd, Nat.reduceSub, Nat.reduceMul, Int.reduceToNat, Nat.reduceLeDiff]
  repeat' first
    | refine EV.seq ?_
    | refine EV.block ?_
    | (refine EV.reg ?_; (conv => (arg 2; whnf)); (refine nx ?_; try with_reducible exact ⟨⟩))
    | fail
  refine EV.loopTo (fun x : Nat × Vec => ([(6, osv x.2 (xss.take x.1).flatten.length), (25, .slice a xss.length c), (26, vi xss.length), (27, vi x.1)], M, osg 3 x.2 ((xss.take x.1).flatten.map vi))) (fun x => x.1 ≤ xss.length ∧ osok 1 x.2 (xss.take x.1).flatten.length ((xss.take x.1).flatten.map vi)) (fun x => xss.length - x.1) (0, ov0) rfl ⟨Nat.zero_le _, hov0⟩ ?env2 (List.Sublist.refl _) ?_
  case env2 =>
   repeat' first
    | (refine List.forall_mem_cons.2 (And.intro ?_ ?_))
    | (intro _ hnil; cases hnil; done)
    | rfl
    | fail
  rintro ⟨i, ov⟩ ⟨hi, hov⟩ ih
  dsimp only at hi hov ih ⊢
  repeat' first
    | refine EV.seq ?_
    | refine EV.skip ?_
    | refine EV.block ?_
    | (refine EV.reg ?_; (conv => (arg 2; whnf)); (refine nx ?_; try with_reducible exact ⟨⟩))
    | (refine EV.condX rfl (fun h => ?_) (fun h => ?_) <;> try exact dead h)
    | (refine EV.exit rfl ?_)
    | fail
  ·have hi' : i < xss.length := by omega
   obtain ⟨pb, po, rfl, hat⟩ := SlSl.at hrd hl hk (by omega)
   obtain ⟨a', c', hr1, hr2⟩ := hat i hi'
   rw [Nat.mul_one] at hr1
   rw [flatMap_ei] at hr2
   have e := flat_take (ts := xss) hi'
   have hle := flat_take_le xss (i + 1)
   rw [e, List.length_append] at hle
   repeat' first
     | (refine EV.reg ?_; (conv => (arg 2; whnf)); (refine nx ?_; try with_reducible exact ⟨⟩))
     | (refine And.intro (by omega) ?_)
     | (refine Exists.intro _ (Exists.intro _ (Exists.intro _ (And.intro (rd_M (by assumption)) ?_))); try (refine nx ?_; try with_reducible exact ⟨⟩))
     | fail
   refine ⟨xss[i].map vi, rdS_M hr2, ok1_vi _, Or.inl ⟨ov, _, rfl, _, hov, [], by simp, ?_, ?_, ?_⟩⟩
   ·simp only [maxLen]; omega
   ·omega
   intro o2 ho2 _
   simp only [wpS, wpA, wpQL, push_cast, Int.cast_ofNat_Int, reduceIte, Nat.reduceEqDiff, reduceCtorEq, Nat.reduceAdd, Nat.reduceSub, Nat.reduceMul, Int.reduceToNat, Nat.reduceLeDiff]
   have ih3 := ih (i + 1, o2) ⟨by dsimp only; omega, by rw [e, List.length_append, List.map_append]; exact ho2⟩ (by dsimp only; omega)
   dsimp only at ih3
   rw [e, List.length_append, List.map_append] at ih3
   repeat' first
     | refine EV.inBlock ?_
     | (refine EV.reg ?_; (conv => (arg 2; whnf)); (refine nx ?_; try with_reducible exact ⟨⟩))
     | fail
   refine EV.to ih3 ?_ (by (repeat' first | exact List.Sublist.refl _ | exact List.nil_sublist _ | exact List.sublist_append_left _ _ | refine List.Sublist.cons_cons _ ?_ | refine List.Sublist.append_left ?_ _ | refine List.sublist_append_of_sublist_right ?_ | refine List.Sublist.cons _ ?_))
   repeat' first
    | (refine List.forall_mem_cons.2 (And.intro ?_ ?_))
    | (intro _ hnil; cases hnil; done)
    | rfl
    | (refine env_w64 rfl (by first | rfl | (push_cast; first | rfl | omega)) (by omega) (by omega); done)
    | fail
  ·have hie : i = xss.length := by omega
   subst hie
   rw [List.take_length] at hov ⊢
   refine EV.ret Q81_ok ?_
   simp only [wpS, wpA, wpQL, push_cast, Int.cast_ofNat_Int, reduceIte, Nat.reduceEqDiff, reduceCtorEq, Nat.reduceAdd, Nat.reduceSub, Nat.reduceMul, Int.reduceToNat, Nat.reduceLeDiff, Q81]
   exact ⟨ov, rfl, hov, rfl⟩

theorem sl_Equal_q (xs ys : List Int) (s t : Value) (hs : Sl M 1 ei s xs) (ht : Sl M 1 ei t ys) (hb : xs.length < 1000000) (hb2 : ys.length < 1000000) : ConQ Tryz.prog 41 #[s, t] M (vb (decide (xs = ys))) := by
 obtain ⟨a, c, rfl, hrd⟩ := hs
 obtain ⟨a2, c2, rfl, hrd2⟩ := ht
 refine Con.enter Q83_ok (args := [.slice a xs.length c, .slice a2 ys.length c2]) (by simp [Q83]) fun w0 => ?_
 simp only [Q83, argE]
 repeat' first
   | refine EV.seq ?_
   | refine EV.skip ?_
   | refine EV.block ?_
   | (refine EV.reg ?_; (conv => (arg 2; whnf)); (refine nx ?_; try with_reducible exact ⟨⟩))
   | (refine EV.condX rfl (fun h => ?_) (fun h => ?_) <;> try exact dead h)
   | fail
 ·refine EV.ret Q83_ok ?_
  simp only [wpS, wpA, wpQL, push_cast, Int.cast_ofNat_Int, reduceIte, Nat.reduceEqDiff, reduceCtorEq, Nat.reduceAdd, Nat.reduceSub, Nat.reduceMul, Int.reduceToNat, Nat.reduceLeDiff, Q83]
  rw [decide_eq_false (by rintro rfl; simp_all)]
 have hlen : xs.length = ys.length := by omega
 refine EV.loopTo (fun i : Nat => ([(0, .slice a xs.length c), (1, .slice a2 ys.length c2), (12, vi xs.length), (13, vi i)], M, [])) (fun i => i ≤ xs.length ∧ xs.take i = ys.take i) (fun i => xs.length - i) 0 rfl ⟨Nat.zero_le _, rfl⟩ ?env1 (List.Sublist.refl _) ?_
 case env1 =>
  repeat' first
   | (refine List.forall_mem_cons.2 (And.intro ?_ ?_))
   | (intro _ hnil; cases hnil; done)
   | rfl
   | fail
 rintro i ⟨hi, hsame⟩ ih
 dsimp only at hi hsame ih ⊢
 repeat' first
   | refine EV.seq ?_
   | refine EV.skip ?_
   | refine EV.block ?_
   | ((first | refine EV.reg ?_ | refine EV.any _ (List.Sublist.refl _) ?_ | fail); (conv => (arg 2; whnf)); (refine nx ?_; try with_reducible exact ⟨⟩))
   | (refine EV.condX rfl (fun h => ?_) (fun h => ?_) <;> try exact dead h)
   | (refine EV.exit rfl ?_)
   | fail
 ·have hi' : i < xs.length := by omega
  have hi2 : i < ys.length := by omega
  obtain ⟨wb, wo, rfl, hat⟩ := Sl.at (sz := 1) (enc := ei) (fun _ => rfl) (by decide) hrd (by omega)
  obtain ⟨wb2, wo2, rfl, hat2⟩ := Sl.at (sz := 1) (enc := ei) (fun _ => rfl) (by decide) hrd2 (by omega)
  have hri := hat i hi'
  have hri2 := hat2 i hi2
  rw [Nat.mul_one] at hri hri2
  have hi3 : (i : Int) < (ys.length : Int) := by omega
  repeat' first
    | refine EV.seq ?_
    | refine EV.skip ?_
    | refine EV.inBlock ?_
    | (refine EV.reg ?_; (conv => (arg 2; whnf)); (refine nx ?_; try with_reducible exact ⟨⟩))
    | (refine EV.condX rfl (fun h => ?_) (fun h => ?_) <;> try exact dead h)
    | (refine And.intro (by omega) ?_)
    | (refine Exists.intro _ (And.intro (rd_M (by assumption)) ?_); try (refine nx ?_; try with_reducible exact ⟨⟩))
    | fail
  ·refine EV.ret Q83_ok ?_
   simp only [wpS, wpA, wpQL, push_cast, Int.cast_ofNat_Int, reduceIte, Nat.reduceEqDiff, reduceCtorEq, Nat.reduceAdd, Nat.reduceSub, Nat.reduceMul, Int.reduceToNat, Nat.reduceLeDiff, Q83]
   rw [decide_eq_false (by rintro rfl; simp_all)]
  ·refine EV.to (ih (i + 1) ⟨by omega, ?_⟩ (by omega)) ?_ (List.Sublist.refl _)
   ·rw [List.take_succ_eq_append_getElem hi', List.take_succ_eq_append_getElem hi2, hsame]; simp_all
   ·repeat' first
     | (refine List.forall_mem_cons.2 (And.intro ?_ ?_))
     | (intro _ hnil; cases hnil; done)
     | rfl
     | (refine env_w64 rfl (by first | rfl | (push_cast; first | rfl | omega)) (by omega) (by omega); done)
     | fail
 ·have hie : i = xs.length := by omega
  subst hie
  rw [List.take_length] at hsame
  refine EV.ret Q83_ok ?_
  simp only [wpS, wpA, wpQL, push_cast, Int.cast_ofNat_Int, reduceIte, Nat.reduceEqDiff, reduceCtorEq, Nat.reduceAdd, Nat.reduceSub, Nat.reduceMul, Int.reduceToNat, Nat.reduceLeDiff, Q83]
  rw [decide_eq_true (by rw [hsame, hlen, List.take_length])]

end
end Go.EV
