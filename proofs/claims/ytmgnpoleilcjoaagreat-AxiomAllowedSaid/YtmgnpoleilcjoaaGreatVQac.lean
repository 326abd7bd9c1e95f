/- Part of the proof of a statement about executions of litmus programs: walks and laws. -/
import Derived.Test.YtmgnpoleilcjoaaGreatVQab
import Derived.RangeFuncNested
set_option maxHeartbeats 8000000
set_option maxRecDepth 8000
set_option linter.unusedSimpArgs false
set_option linter.unusedVariables false
set_option linter.unusedSectionVars false
namespace Go.EV
variable {P : Program}
def Iv (ms : List Nat) : List Deferred := ms.map fun d => { target := .collected d, args := #[] }
def Oq (ms : List Nat) : Own := ms.map fun d => (d, Obj.deferred (some []))
def Cx.marks (C : Cx P) (ms : List Nat) : Cx P :=
 {b := C.b, T := C.T, back := C.back, nt := C.nt, ds := Iv ms ++ C.ds, w0 := C.w0, F := C.F, M0 := C.M0 }
abbrev yv (l : Nat) : Value := .func (.yield l) #[] #[]
def Su (C : Cx P) (V : List Nat) (k : List RItem) (ρ : Env) (l : Nat) (M : Aa) (G : Own) : Prop :=
 ∃ r G', G.Perm ((l, Obj.loop r) :: G') ∧ r.state ≠ .busy ∧
  (match r.pending with
   | none => EV C V k ρ M G'
   | some .ret => EV C V (.code .ret :: k) ρ M G'
   | some (.exit id) => EV C V (.code (.exit id) :: k) ρ M G'
   | _ => False)
theorem Rm (C : Cx P) {cs : List Frame} {m m' : Machine} (h : Steps P m m') (ht : C.T cs m') : C.T cs m := by
 obtain ⟨n, hn⟩ := h
 have key : ∀ (n : Nat) (m m' : Machine), runN P n m = .next m' → C.T cs m' → C.T cs m := by
  intro n
  induction n with
  | zero => intro m m' h1 h2; simp [runN] at h1; subst h1; exact h2
  | succ n ih =>
   intro m m' h1 h2
   simp only [runN] at h1
   cases aa : step P m with
   | next m1 => rw [aa] at h1; exact C.back aa (ih m1 m' h1 h2)
   | ended o w => rw [aa] at h1; simp at h1
 exact key n m m' hn ht
theorem Ms {a : Act} {x : Operand} {g : FuncId} {first caps : Array Value} (l : Nat) (w : World) (hx : a.eval x = .func (.func g) first caps) :
  (resolve a.eval (rangeCall x l) 0).run P w = .ok { target := .fn (.func g) caps, args := first ++ #[yv l] } w := by
 have e : (#[Operand.const (Value.func (Fn.yield l) #[] #[])] : Array Operand).map a.eval = #[yv l] := by simp [Act.eval]
 simp only [resolve, rangeCall, hx, e]
 rfl
section
variable {C : Cx P} {V : List Nat} {k : List RItem} {ρ : Env} {M : Aa} {G : Own} {f : A} {ps : List Nat} {asn bd : RCode} {fv : Value} {g : FuncId} {first caps : Array Value}
theorem KB {k' : List Item} (hk : CmpK P C.nt V k' k) {a : Act} {l : Nat} {cs : List Frame} {fr : Frame} {w' : World} {v : Value} {M' : Aa} {G' : Own}
  (hf : Fc C.nt ρ a) (hd : a.defers = C.ds) (aj : fr.leaving P w' (.returned v)) (aa : C.St M' G' w') (hr : Su C V k ρ l M' G') :
  C.T cs (lone fr (C.b.atR a (.inRangeFunc l :: k') :: cs) w') := by
 obtain ⟨r, G1, hp, hb, hm⟩ := hr
 refine C.back (step_leave_returned aj) ?_
 rw [finish_atR_inRangeFunc]
 have mU := aa.perm hp
 have hl := mU.own (l, Obj.loop r) (lB1 ..)
 refine C.back (stepR_endRangeFunc (run_endLoop hl hb)) ?_
 have fT : C.St M' G1 (w'.putObj l (.loop { r with state := .exhausted })) := (JX mU).weaken (lD9 _ _)
 revert fT
 cases jG : r.pending with
 | none => rw [jG] at hm; exact fun fT => hm _ hk a _ hf hd fT cs
 | some c =>
  rw [jG] at hm
  cases c with
  | ret => exact fun fT => hm _ (.cons (.code .ret) hk) a _ hf hd fT cs
  | exit id => exact fun fT => hm _ (.cons (.code .exit) hk) a _ hf hd fT cs
  | _ => exact hm.elim
theorem EV.rangeF (bQ : C.b.roundOf = none) (hfv : ev ρ f = some fv) (bu : fn? fv = some (g, first, caps))
  (h : ∀ (l d : Nat) (r : Loop), LoopIs P V r C.b.fn C.nt ps asn bd ρ → r.state = .ready → r.pending = none →
   De (C.marks [d]) g (first ++ #[yv l] ++ caps) M ((l, Obj.loop r) :: (d, Obj.deferred (some [])) :: G) fun _ M' G' => Su (C.marks [d]) V k ρ l M' G') :
  EV C V (.code (.rangeF f ps asn bd) :: k) ρ M G := by
 intro k' hk a w hf hd hs cs
 have e0 := Sn bu
 subst e0
 cases hk with
 | cons hx hk => cases hx with
  | code hc => cases hc with
   | @rangeF x _ ps' asn' bd' _ _ hA hps ha hb =>
    have hx := Am hf hA hfv
    obtain ⟨hgo, bP⟩ := h (w.heap.size + 1) w.heap.size { state := .ready, pending := none, fn := C.b.fn, tmps := a.tmps, params := ps', assign := asn', body := bd', defers := w.heap.size }
     ⟨rfl, rfl, hps, ⟨hf.1, hf.2⟩, ha, hb⟩ rfl rfl
    have he := run_enterLoop_outer (P := P) (w := w) C.b.fn a.tmps ps' asn' bd'
    rw [← bQ] at he
    have aF := Ms (P := P) (w.heap.size + 1) ((w.alloc (.deferred (some []))).alloc (.loop { state := .ready, pending := none, fn := C.b.fn, tmps := a.tmps, params := ps', assign := asn', body := bd', defers := w.heap.size })) hx
    have bp := H0 hgo (first ++ #[yv (w.heap.size + 1)] ++ caps) ((w.alloc (.deferred (some []))).alloc (.loop { state := .ready, pending := none, fn := C.b.fn, tmps := a.tmps, params := ps', assign := asn', body := bd', defers := w.heap.size }))
    refine C.back (stepR_rangeFunc he aF bp) ?_
    have aa : (C.marks [w.heap.size]).St M ((w.heap.size + 1, Obj.loop { state := .ready, pending := none, fn := C.b.fn, tmps := a.tmps, params := ps', assign := asn', body := bd', defers := w.heap.size }) :: (w.heap.size, Obj.deferred (some [])) :: G)
      ((w.alloc (.deferred (some []))).alloc (.loop { state := .ready, pending := none, fn := C.b.fn, tmps := a.tmps, params := ps', assign := asn', body := bd', defers := w.heap.size })) := by
     have h1 := hs.alloc (.deferred (some []))
     have h2 := h1.alloc (.loop { state := .ready, pending := none, fn := C.b.fn, tmps := a.tmps, params := ps', assign := asn', body := bd', defers := w.heap.size })
     simpa [Cx.marks] using h2
    obtain ⟨e, w'', fr, ⟨v, ln, M', G', kY, cz⟩, fU, bW, bF⟩ := bP _ aa (C.b.atR { a with defers := [{ target := .collected w.heap.size, args := #[] }] ++ a.defers } (.inRangeFunc (w.heap.size + 1) :: _) :: cs)
    subst ln
    refine Rm C fU ?_
    refine KB (C := C.marks [w.heap.size]) (a := { a with defers := [{ target := .collected w.heap.size, args := #[] }] ++ a.defers }) hk ⟨hf.1, hf.2⟩ ?_ bF kY cz
    show [{ target := .collected w.heap.size, args := #[] }] ++ a.defers = Iv [w.heap.size] ++ C.ds
    rw [hd]; rfl
theorem EV.rangeI {l0 : Nat} {r0 : Loop} (bQ : C.b.roundOf = some l0) (fV : (l0, Obj.loop r0) ∈ G) (hfv : ev ρ f = some fv) (bu : fn? fv = some (g, first, caps))
  (h : ∀ (l : Nat) (r : Loop), LoopIs P V r C.b.fn C.nt ps asn bd ρ → r.state = .ready → r.pending = none →
   De C g (first ++ #[yv l] ++ caps) M ((l, Obj.loop r) :: G) fun _ M' G' => Su C V k ρ l M' G') :
  EV C V (.code (.rangeF f ps asn bd) :: k) ρ M G := by
 intro k' hk a w hf hd hs cs
 have e0 := Sn bu
 subst e0
 cases hk with
 | cons hx hk => cases hx with
  | code hc => cases hc with
   | @rangeF x _ ps' asn' bd' _ _ hA hps ha hb =>
    have hx := Am hf hA hfv
    obtain ⟨hgo, bP⟩ := h w.heap.size { state := .ready, pending := none, fn := C.b.fn, tmps := a.tmps, params := ps', assign := asn', body := bd', defers := r0.defers }
     ⟨rfl, rfl, hps, ⟨hf.1, hf.2⟩, ha, hb⟩ rfl rfl
    have he := run_enterLoop_inner (P := P) (w := w) (hs.own _ fV) C.b.fn a.tmps ps' asn' bd'
    rw [← bQ] at he
    have aF := Ms (P := P) w.heap.size (w.alloc (.loop { state := .ready, pending := none, fn := C.b.fn, tmps := a.tmps, params := ps', assign := asn', body := bd', defers := r0.defers })) hx
    have bp := H0 hgo (first ++ #[yv w.heap.size] ++ caps) (w.alloc (.loop { state := .ready, pending := none, fn := C.b.fn, tmps := a.tmps, params := ps', assign := asn', body := bd', defers := r0.defers }))
    refine C.back (stepR_rangeFunc he aF bp) ?_
    have aa := hs.alloc (.loop { state := .ready, pending := none, fn := C.b.fn, tmps := a.tmps, params := ps', assign := asn', body := bd', defers := r0.defers })
    obtain ⟨e, w'', fr, ⟨v, ln, M', G', kY, cz⟩, fU, bW, bF⟩ := bP _ aa (C.b.atR { a with defers := [] ++ a.defers } (.inRangeFunc w.heap.size :: _) :: cs)
    subst ln
    refine Rm C fU ?_
    exact KB (C := C) (a := { a with defers := [] ++ a.defers }) hk ⟨hf.1, hf.2⟩ hd bF kY cz
end
section
variable {f : FuncId} {w0 : World} {F : List Nat} {M0 M : Aa} {G : Own} {Φ : Value → Aa → Own → Prop} {V Q : List Nat} {k : List RItem} {ρ : Env}
theorem Ag9 {cs : List Frame} : ∀ (ms : List Nat) {w : World} {fr : Frame}, St w0 F M0 M (Oq ms ++ G) w → fr.mode = .returning → fr.defers = Iv ms →
  ∃ w', St w0 F M0 M G w' ∧ Steps P (lone fr cs w) (lone { fr with defers := [] } cs w')
 | [], w, fr, hs, _, hd => by
  refine ⟨w, by simpa [Oq] using hs, ?_⟩
  have : { fr with defers := [] } = fr := by
   cases fr; simp only [Iv, lFk] at hd; subst hd; rfl
  rw [this]; exact Steps.refl _ _
 | d :: ms, w, fr, hs, hm, hd => by
  have aM : St w0 F M0 M ((d, Obj.deferred (some [])) :: (Oq ms ++ G)) w := by simpa [Oq] using hs
  have hl := aM.own (d, Obj.deferred (some [])) (lB1 ..)
  have h1 := step_collected (P := P) (cs := cs) (fr := fr) (w := w) (d := { target := .collected d, args := #[] }) (r := d) (ds := Iv ms) (calls := []) (by rw [hm]; simp) hd rfl (run_takeDeferred hl)
  have bz : St w0 F M0 M ((d, Obj.deferred none) :: (Oq ms ++ G)) (w.putObj d (.deferred none)) :=
   aM.put (i := 0) (o' := .deferred none) rfl rfl ⟨rfl, lA5 _⟩ rfl (by simp) (fun k hk => World.putObj_heap_other hk) (World.putObj_heap_same (aM.lt (lB1 ..)))
  obtain ⟨w', h2, h3⟩ := Ag9 ms (cs := cs) (fr := { fr with defers := [] ++ Iv ms }) (bz.weaken (lD9 _ _)) hm rfl
  exact ⟨w', h2, Steps.trans (.one h1) h3⟩
theorem JU {R : RFun} (hR : Al P V Q f = some R) {ms : List Nat} {G1 : Own} (hG : G.Perm (Oq ms ++ G1)) (h : Bi8 R ρ M G1 Φ) : EV ((Cx.fn P f R.nt w0 F M0 Φ).marks ms) R.V (.code .ret :: k) ρ M G := by
 unfold Al at hR
 split at hR
 ·rename_i hgo
  simp only [lA3] at hR
  obtain ⟨fn, bu, c, hc, r, hr, res, aF, e⟩ := hR
  cases e
  intro k' hk a w hf hd hs cs
  cases hk with
  | cons hx hk => cases hx with
   | code hc => cases hc with
    | ret =>
     have dM : a.defers = Iv ms := by rw [hd]; exact lAa _
     obtain ⟨w', ah, aa⟩ := Ag9 (P := P) (cs := cs) ms (fr := { ((Cx.fn P f fn.ntmps w0 F M0 Φ).marks ms).b.atR a (.code .ret :: _) with mode := .returning }) (hs.perm hG) rfl dM
     obtain ⟨v, hv, hΦ⟩ := H5 (P := P) (fn := fn) (Q := fun v => Φ v M G1) hf (fun b o hb => ah.agreeAdd hb) (compRs_ok aF) h
     refine ⟨.returned v, w', _, ⟨v, rfl, M, G1, ah, hΦ⟩, Steps.trans (.one (stepR_ret rfl)) aa, rfl, ?_⟩
     exact ⟨rfl, rfl, rfl, fn, bu, hv⟩
 ·cases hR
theorem EV.doneM {R : RFun} (hR : Al P V Q f = some R) {ms : List Nat} {G1 : Own} (hG : G.Perm (Oq ms ++ G1)) (h : Bi8 R ρ M G1 Φ) : EV ((Cx.fn P f R.nt w0 F M0 Φ).marks ms) R.V [] ρ M G := by
 unfold Al at hR
 split at hR
 ·rename_i hgo
  simp only [lA3] at hR
  obtain ⟨fn, bu, c, hc, r, hr, res, aF, e⟩ := hR
  cases e
  intro k' hk a w hf hd hs cs
  cases hk with
  | nil =>
   have dM : a.defers = Iv ms := by rw [hd]; exact lAa _
   obtain ⟨w', ah, aa⟩ := Ag9 (P := P) (cs := cs) ms (fr := { ((Cx.fn P f fn.ntmps w0 F M0 Φ).marks ms).b.atR a [] with mode := .returning }) (hs.perm hG) rfl dM
   obtain ⟨v, hv, hΦ⟩ := H5 (P := P) (fn := fn) (Q := fun v => Φ v M G1) hf (fun b o hb => ah.agreeAdd hb) (compRs_ok aF) h
   refine ⟨.returned v, w', _, ⟨v, rfl, M, G1, ah, hΦ⟩, Steps.trans (.one (stepR_end rfl)) aa, rfl, ?_⟩
   exact ⟨rfl, rfl, rfl, fn, bu, hv⟩
 ·cases hR
end
section
variable {l : Nat} {f : FuncId} {nt : Nat} {V : List Nat} {ρ : Env} {r : Loop} {M : Aa} {G : Own} {Φ : Value → Aa → Own → Prop} {w0 : World} {F : List Nat} {M0 : Aa} {G0 : Own} {k : List RItem}
theorem Ah0 {r : Loop} (h1 : r.state = .ready) (h2 : r.pending = none) : ({ { r with state := .busy } with state := .ready, pending := none } : Loop) = r := by
 cases r; simp only at h1 h2; subst h1 h2; rfl
end
def Ah1 {α : Type} (P : Program) (g : FuncId) (first caps : Array Value) (M : Aa) (L : List α) (El : α → Value → Aa → Prop) : Prop :=
 ∀ (l : Nat) (I : List α → Aa → Own → Prop) (S : Aa → Own → Prop) (M1 : Aa) (G : Own), M.le M1 →
  (∀ xs M2 M3 G2, M2.le M3 → I xs M2 G2 → I xs M3 G2) →
  (∀ xs x, x ∈ L → ∀ M2 G2 v, M1.le M2 → I xs M2 G2 → El x v M2 → Oo P l #[v] M2 G2 fun b M3 G3 => (b = .bool true ∧ I (xs ++ [x]) M3 G3) ∨ (b = .bool false ∧ S M3 G3)) →
  ∀ xs, I xs M1 G → Con P g (first ++ #[yv l] ++ caps) M1 G fun _ M' G' => I (xs ++ L) M' G' ∨ S M' G'
theorem Ah1.mono {α : Type} {g : FuncId} {first caps : Array Value} {M M' : Aa} {L : List α} {El : α → Value → Aa → Prop} (h : Ah1 P g first caps M L El) (hM : M.le M') : Ah1 P g first caps M' L El :=
 fun l I S M1 G aY => h l I S M1 G (Aa.le_trans hM aY)
def Ah2 (l : Nat) (r : Loop) (N : Aa → Own → Prop) (S : Code → Aa → Own → Prop) (b : Value) (M : Aa) (G : Own) : Prop :=
 (b = .bool true ∧ ∃ G', G.Perm ((l, Obj.loop r) :: G') ∧ N M G') ∨
 (b = .bool false ∧ ∃ c G', G.Perm ((l, Obj.loop { r with state := .done, pending := some c }) :: G') ∧ S c M G')
abbrev JO (P : Program) (l : Nat) (r : Loop) (f : FuncId) (nt : Nat) (w0 : World) (F : List Nat) (M0 : Aa) (N : Aa → Own → Prop) (S : Code → Aa → Own → Prop) : Cx P :=
 Cx.round P l f nt w0 F M0 (Ah2 l r N S)
section
variable {l : Nat} {f : FuncId} {nt : Nat} {V : List Nat} {ρ : Env} {r : Loop} {M : Aa} {G : Own} {N : Aa → Own → Prop} {S : Code → Aa → Own → Prop} {w0 : World} {F : List Nat} {M0 : Aa} {G0 : Own} {k : List RItem}
theorem JQ (aa : r.state = .ready) (h : EV (JO P l r f nt w0 F M0 N S) V k ρ M ((l, Obj.loop { r with state := .busy }) :: G0)) : EV (JO P l r f nt w0 F M0 N S) V (.begins :: k) ρ M ((l, Obj.loop r) :: G0) := EV.begins aa h
theorem JM (h1 : r.state = .ready) (h2 : r.pending = none) (hG : G.Perm ((l, Obj.loop { r with state := .busy }) :: G0)) (h : N M G0) : EV (JO P l r f nt w0 F M0 N S) V [] ρ M G := by
 refine JF (EV.endRound ?_) hG
 refine .inl ⟨rfl, G0, ?_, h⟩
 rw [Ah0 h1 h2]
theorem JS (hG : G.Perm ((l, Obj.loop { r with state := .busy }) :: G0)) (h : S .ret M G0) : EV (JO P l r f nt w0 F M0 N S) V (.code .ret :: k) ρ M G := by
 refine JF (EV.retRound ?_) hG
 exact .inr ⟨rfl, _, G0, lAf _, h⟩
end
def Ah3 (C : Cx P) (V : List Nat) (k : List RItem) (ρ : Env) (c : Code) (M : Aa) (G : Own) : Prop :=
 match c with
 | .ret => EV C V (.code .ret :: k) ρ M G
 | .exit id => EV C V (.code (.exit id) :: k) ρ M G
 | _ => False
section
variable {α : Type} {C : Cx P} {V : List Nat} {k : List RItem} {ρ : Env} {M : Aa} {G : Own} {f : A} {ps : List Nat} {asn bd : RCode} {fv : Value} {g : FuncId} {first caps : Array Value}
theorem Ot {L : List α} {El : α → Value → Aa → Prop} (dR : Ah1 P g first caps M L El) (I : List α → Aa → Own → Prop) (S : Code → Aa → Own → Prop)
  {l : Nat} {r : Loop} {fn : FuncId} {nt t : Nat} (hr : LoopIs P V r fn nt [t] asn bd ρ)
  (aE : ∀ xs M2 M3 G2, M2.le M3 → I xs M2 G2 → I xs M3 G2)
  (cP : ∀ xs x v M2 G2 w0 F, x ∈ L → M.le M2 → I xs M2 G2 → El x v M2 → EV (JO P l r fn nt w0 F M2 (I (xs ++ [x])) S) V [.code asn, .begins, .code bd] ((t, v) :: ρ) M2 ((l, Obj.loop r) :: G2))
  {G0 : Own} (hI : I [] M G0) :
  Con P g (first ++ #[yv l] ++ caps) M ((l, Obj.loop r) :: G0) fun _ M' G' => (∃ G1, G'.Perm ((l, Obj.loop r) :: G1) ∧ I L M' G1) ∨ (∃ c G1, G'.Perm ((l, Obj.loop { r with state := .done, pending := some c }) :: G1) ∧ S c M' G1) := by
 have := dR l (fun xs M2 G2 => ∃ G1, G2.Perm ((l, Obj.loop r) :: G1) ∧ I xs M2 G1) (fun M2 G2 => ∃ c G1, G2.Perm ((l, Obj.loop { r with state := .done, pending := some c }) :: G1) ∧ S c M2 G1) M ((l, Obj.loop r) :: G0) (Aa.le_refl _)
  (fun xs M2 M3 G2 aY ⟨G1, h1, h2⟩ => ⟨G1, h1, aE _ _ _ _ aY h2⟩) ?_ [] ⟨G0, lAf _, hI⟩
 ·exact this
 ·rintro xs x hx M2 G2 v bS ⟨G1, hp, h2⟩ hv
  have hy : Oo P l [v].toArray M2 ((l, Obj.loop r) :: G1) (Ah2 l r (I (xs ++ [x])) S) :=
   Oo.enter (lB1 ..) hr rfl fun w0 => cP xs x v M2 G1 w0 _ hx bS h2 hv
  intro w hs
  obtain ⟨r', e1, e2, e3⟩ := hy w (by
   have ah := hs.perm hp
   have : St w ((((l, Obj.loop r) :: G1)).map (·.1)) M2 M2 ((l, Obj.loop r) :: G1) w := St.enter ah.agree ah.own ah.sep ah.nodup
   exact this)
  refine ⟨r', e1, e2, e3.mono ?_⟩
  rintro b w' ⟨M', G', k1, k2⟩
  refine ⟨M', G', ?_, ?_⟩
  ·have aJ : ∀ b, b ∈ (((l, Obj.loop r) :: G1).map (·.1)) ↔ b ∈ G2.map (·.1) := fun b => ((hp.map (·.1)).mem_iff).symm
   exact ⟨k1.os, k1.tape, k1.output, k1.size, fun b hb hf => k1.frame b hb (fun h => hf ((aJ b).1 h)), k1.agree, k1.own, k1.sep, fun p pY => (k1.new p pY).imp (aJ _).1 id, k1.nodup, k1.base,
    fun b o hm => (k1.fresh b o hm).imp id fun h => h.imp (aJ _).1 id⟩
  ·rcases k2 with ⟨rfl, G3, h3, h4⟩ | ⟨rfl, c, G3, h3, h4⟩
   ·exact .inl ⟨rfl, G3, h3, h4⟩
   ·exact .inr ⟨rfl, c, G3, h3, h4⟩
theorem EV.over {L : List α} {El : α → Value → Aa → Prop} (bQ : C.b.roundOf = none) (hfv : ev ρ f = some fv) (bu : fn? fv = some (g, first, caps)) (dR : Ah1 P g first caps M L El)
  (I : Nat → List α → Aa → Own → Prop) (S : Nat → Code → Aa → Own → Prop) {t : Nat}
  (aE : ∀ d xs M2 M3 G2, M2.le M3 → I d xs M2 G2 → I d xs M3 G2)
  (hI : ∀ d, I d [] M ((d, Obj.deferred (some [])) :: G))
  (cP : ∀ l d (r : Loop), r.state = .ready → r.pending = none → ∀ xs x v M2 G2 w0 F, x ∈ L → M.le M2 → I d xs M2 G2 → El x v M2 →
   EV (JO P l r C.b.fn C.nt w0 F M2 (I d (xs ++ [x])) (S d)) V [.code asn, .begins, .code bd] ((t, v) :: ρ) M2 ((l, Obj.loop r) :: G2))
  (cz : ∀ d M' G', M.le M' → I d L M' G' → EV (C.marks [d]) V k ρ M' G')
  (ee : ∀ d c M' G', M.le M' → S d c M' G' → Ah3 (C.marks [d]) V k ρ c M' G') :
  EV C V (.code (.rangeF f [t] asn bd) :: k) ρ M G := by
 refine EV.rangeF bQ hfv bu fun l d r hr h1 h2 => ?_
 refine Con.callA (G2 := []) (Ot dR (I d) (S d) hr (aE d) (fun xs x v M2 G2 w0 F => cP l d r h1 h2 xs x v M2 G2 w0 F) (hI d)) (by simp) ?_
 rintro v M' G' bB (⟨G1, hp, h3⟩ | ⟨c, G1, hp, h3⟩)
 ·refine ⟨r, G1, by simpa using hp, by rw [h1]; simp, ?_⟩
  rw [h2]; exact cz d M' G1 bB h3
 ·refine ⟨_, G1, by simpa using hp, by simp, ?_⟩
  have := ee d c M' G1 bB h3
  cases c <;> first | exact this | exact this.elim
theorem JW {L : List α} {El : α → Value → Aa → Prop} {l0 : Nat} {r0 : Loop} (bQ : C.b.roundOf = some l0) (fV : (l0, Obj.loop r0) ∈ G) (hfv : ev ρ f = some fv) (bu : fn? fv = some (g, first, caps)) (dR : Ah1 P g first caps M L El)
  (I : List α → Aa → Own → Prop) (S : Code → Aa → Own → Prop) {t : Nat}
  (aE : ∀ xs M2 M3 G2, M2.le M3 → I xs M2 G2 → I xs M3 G2)
  (hI : I [] M G)
  (cP : ∀ l (r : Loop), r.state = .ready → r.pending = none → ∀ xs x v M2 G2 w0 F, x ∈ L → M.le M2 → I xs M2 G2 → El x v M2 →
   EV (JO P l r C.b.fn C.nt w0 F M2 (I (xs ++ [x])) S) V [.code asn, .begins, .code bd] ((t, v) :: ρ) M2 ((l, Obj.loop r) :: G2))
  (cz : ∀ M' G', M.le M' → I L M' G' → EV C V k ρ M' G')
  (ee : ∀ c M' G', M.le M' → S c M' G' → Ah3 C V k ρ c M' G') :
  EV C V (.code (.rangeF f [t] asn bd) :: k) ρ M G := by
 refine EV.rangeI bQ fV hfv bu fun l r hr h1 h2 => ?_
 refine Con.callA (G2 := []) (Ot dR I S hr aE (fun xs x v M2 G2 w0 F => cP l r h1 h2 xs x v M2 G2 w0 F) hI) (by simp) ?_
 rintro v M' G' bB (⟨G1, hp, h3⟩ | ⟨c, G1, hp, h3⟩)
 ·refine ⟨r, G1, by simpa using hp, by rw [h1]; simp, ?_⟩
  rw [h2]; exact cz M' G1 bB h3
 ·refine ⟨_, G1, by simpa using hp, by simp, ?_⟩
  have := ee c M' G1 bB h3
  cases c <;> first | exact this | exact this.elim
end
theorem JC {C : Cx P} {V : List Nat} {k : List RItem} {ρ : Env} {M : Aa} {G : Own} {c : RCode} {α : Type} (st : α → Env × Aa × Own) (I : α → Prop) (μ : α → Nat) (x : α) (hM : (st x).2.1 = M) (hI : I x)
  (hρ : ∀ p ∈ (st x).1, get ρ p.1 = some p.2) (hG : (st x).2.2.Sublist G)
  (body : ∀ x, I x → (∀ x', I x' → μ x' < μ x → EV C V (.inLoop c :: k) (st x').1 (st x').2.1 (st x').2.2) → EV C V (.code c :: .inLoop c :: k) (st x).1 (st x).2.1 (st x).2.2) :
  EV C V (.code (.loop c) :: k) ρ M G := by
 subst hM
 exact JA (EV.loop st I μ x hI body) hρ hG
variable {P : Program}
theorem rd.pt {H : Aa} {b off n : Nat} {cs out : List Value} (h : rd H b off n cs) (i k : Nat) (hm : i + k ≤ n) (e : (cs.drop i).take k = out) : rd H b (off + i) k out := e ▸ h.part hm
theorem K0 {α : Type} (f : α → Value) : ∀ (l : List α) {i : Nat} (h : i < l.length), ((l.map f).drop i).take 1 = [f l[i]]
 | x :: l, 0, _ => by simp
 | x :: l, i + 1, h => by
  have := K0 f l (i := i) (by simpa using h)
  simpa using this
section
variable {C : Cx P} {f : FuncId} {args : Array Value} {V : List Nat} {c : RItem} {k : List RItem} {ρ : Env} {M : Aa} {G G2 G3 : Own} {K : Value → Aa → Own → Prop}
theorem De.frz (hG : G.Perm (G2 ++ G3)) (h : De C f args (M.add G2) G3 K) : De C f args M G K :=
 ⟨h.1, fun w hs cs => h.2 w (hs.perm hG).freeze cs⟩
theorem JI (Φ : Env → Aa → Own → Prop) (h1 : ∀ k', (∀ ρ' M' G', Φ ρ' M' G' → EV C V k' ρ' M' G') → EV C V (c :: k') ρ M G) (h2 : ∀ ρ' M' G', Φ ρ' M' G' → EV C V k ρ' M' G') : EV C V (c :: k) ρ M G := h1 k h2
end
theorem Cg {α : Type} {M : Aa} {G : Own} {b : Nat} {T : TypeId} {f : α → Value} {xs : List α} {i : Nat} (hi : i < xs.length) [h : At G b T (xs.map f)] : rd (M.add G) b i 1 [f xs[i]] :=
 Bm h.mem (K0 f xs hi) (by rw [lA1]; omega)
theorem Yg {α : Type} {M : Aa} {G : Own} {b : Nat} {T : TypeId} {f : α → Value} {xs : List α} {sp : List Value} {i : Nat} (hi : i < xs.length) [h : At G b T (xs.map f ++ sp)] : rd (M.add G) b i 1 [f xs[i]] := by
 refine Bm h.mem ?_ (by rw [lA4, lA1]; omega)
 rw [lCw (by rw [lA1]; omega), lCx (by rw [lDt, lA1]; omega), K0 f xs hi]
theorem Ap {α : Type} (f : α → Value) (xs : List α) {i : Nat} (hi : i < xs.length) (x : α) : (xs.map f).take i ++ (f x :: (xs.map f).drop (i + 1)) = (xs.set i x).map f := by
 rw [List.map_set, lEw, if_pos (by rw [lA1]; exact hi)]
abbrev Av (b n c : Nat) : Value := .slice (some ⟨b, 0, none⟩) n c
class Pull (G : Own) (x : Nat × Obj) (R : outParam Own) : Prop where
 p : G.Perm (x :: R)
instance Pull.here {x : Nat × Obj} {G : Own} : Pull (x :: G) x G := ⟨lAf _⟩
instance (priority := low) Pull.there {x y : Nat × Obj} {G R : Own} [h : Pull G x R] : Pull (y :: G) x (y :: R) := ⟨(lCi y h.p).trans (List.Perm.swap x y R)⟩
instance (priority := low) Pull.app {x : Nat × Obj} {A G R : Own} [h : Pull G x R] : Pull (A ++ G) x (A ++ R) := ⟨(lEi A h.p).trans lEq⟩
class PullL (G : Own) (A : Own) (R : outParam Own) : Prop where
 p : G.Perm (A ++ R)
instance PullL.here {A G : Own} : PullL (A ++ G) A G := ⟨lAf _⟩
instance (priority := 900) PullL.all {A : Own} : PullL A A [] := ⟨by simp⟩
instance (priority := low) PullL.cons {A G R : Own} {y : Nat × Obj} [h : PullL G A R] : PullL (y :: G) A (y :: R) := ⟨(lCi y h.p).trans List.perm_middle.symm⟩
instance (priority := low) PullL.app {A B G R : Own} [h : PullL G A R] : PullL (B ++ G) A (B ++ R) := ⟨(lEi B h.p).trans (by rw [← lAc, ← lAc]; exact List.Perm.append_right _ lBt)⟩
class SubS (G G' : Own) (R : outParam Own) : Prop where
 p : G.Perm (G' ++ R)
instance SubS.nil {G : Own} : SubS G [] G := ⟨lAf _⟩
instance SubS.cons {G G1 t R : Own} {x : Nat × Obj} [h1 : Pull G x G1] [h2 : SubS G1 t R] : SubS G (x :: t) R := ⟨h1.p.trans (lCi x h2.p)⟩
instance (priority := low) SubS.app {G G1 A t R : Own} [h1 : PullL G A G1] [h2 : SubS G1 t R] : SubS G (A ++ t) R := ⟨h1.p.trans ((lEi A h2.p).trans (by simp))⟩
instance (priority := low) SubS.last {G G1 A : Own} [h1 : PullL G A G1] : SubS G A G1 := ⟨h1.p⟩
section
variable {C : Cx P} {f : FuncId} {args : Array Value} {V : List Nat} {k : List RItem} {ρ ρ' : Env} {M : Aa} {G G' R : Own} {K : Value → Aa → Own → Prop} {Φ : Value → Aa → Own → Prop}
theorem JE (h : EV C V k ρ' M G') (hρ : ∀ p ∈ ρ', get ρ p.1 = some p.2) [hG : SubS G G' R] : EV C V k ρ M G :=
 JF (JA h hρ (lAh _ _)) hG.p
theorem JH (h : EV C V k ρ M G') [hG : SubS G G' R] : EV C V k ρ M G :=
 JF (EV.weaken h (fun _ _ h => h) (lAh _ _)) hG.p
theorem EV.frz (G' : Own) [hG : SubS G G' R] (h : EV C V k ρ (M.add G') R) : EV C V k ρ M G :=
 JF (EV.freeze h) hG.p
theorem De.frzS (G' : Own) [hG : SubS G G' R] (h : De C f args (M.add G') R K) : De C f args M G K := De.frz hG.p h
theorem Con.callS {G1 : Own} (h : Con P f args M G1 Φ) [hG : SubS G G1 R] (hk : ∀ v M' G', M.le M' → Φ v M' G' → K v M' (G' ++ R)) : De C f args M G K :=
 ⟨h.1, fun w hs cs => by
  have ah := hs.perm hG.p
  obtain ⟨e, w', fr, ⟨v, he, M', G', h1, h2⟩, r⟩ := h.2 w (ah.part (JB _ _)) cs
  exact ⟨e, w', fr, ⟨v, he, M', G' ++ R, ah.callA h1, hk v M' G' h1.base h2⟩, r⟩⟩
theorem JN {G1 : Own} {Mr : Aa} (h : Con P f args Mr G1 Φ) [hG : SubS G G1 R] (ia : Mr.le (M.add R)) (hk : ∀ v M' G', Φ v M' G' → K v M (G' ++ R)) : De C f args M G K :=
 ⟨h.1, fun w hs cs => by
  have ah := hs.perm hG.p
  obtain ⟨e, w', fr, ⟨v, he, M', G', h1, h2⟩, r⟩ := h.2 w (ah.part ia) cs
  exact ⟨e, w', fr, ⟨v, he, M, G' ++ R, ah.callB h1, hk v M' G' h2⟩, r⟩⟩
theorem Con.callR {G1 : Own} {Mr : Aa} (h : Con P f args Mr [] Φ) (ia : Mr.le (M.add G)) (hk : ∀ v M' G' M2, M.le M2 → M2 = M.add G' → Φ v M' G' → K v M2 G) : De C f args M G K :=
 ⟨h.1, fun w hs cs => by
  obtain ⟨e, w', fr, ⟨v, he, M', G', h1, h2⟩, r⟩ := h.2 w (St.part (G1 := []) (G2 := G) hs ia) cs
  have h3 := St.callB (G1 := []) (G2 := G) hs h1
  exact ⟨e, w', fr, ⟨v, he, _, G, h3.freeze, hk v M' G' _ (JB _ _) rfl h2⟩, r⟩⟩
end
section
variable {C : Cx P} {f : FuncId} {l : Nat} {args : Array Value} {V : List Nat} {k : List RItem} {ρ : Env} {M : Aa} {G G1 R : Own} {K : Value → Aa → Own → Prop} {Φ : Value → Aa → Own → Prop}
theorem De.keep (G1 : Own) [h : PullL G G1 R] (k : De C f args (M.add R) G1 K) : De C f args M G K := De.frz (h.p.trans lBt) k
theorem EV.keep (G1 : Own) [h : PullL G G1 R] (h' : EV C V k ρ (M.add R) G1) : EV C V k ρ M G := JF (EV.freeze h') (h.p.trans lBt)
theorem JG (G1 : Own) [h : SubS G G1 R] (h' : EV C V k ρ (M.add R) G1) : EV C V k ρ M G := JF (EV.freeze h') (h.p.trans lBt)
theorem Fx.keep (G1 : Own) [h : PullL G G1 R] (k : Fx C l args (M.add R) G1 K) : Fx C l args M G K :=
 fun w hs => k w (hs.perm (h.p.trans lBt)).freeze
theorem Oo.run (h : Oo P l args M G Φ) (hk : ∀ v M' G', M.le M' → Φ v M' G' → K v M' G') : Fx C l args M G K := by
 refine h.callA (G2 := []) (by simp) fun v M' G' hM hv => ?_
 rw [lAj]; exact hk v M' G' hM hv
theorem Fx.frzS (G1 : Own) [h : SubS G G1 R] (k : Fx C l args (M.add G1) R K) : Fx C l args M G K := fun w hs => k w (hs.perm h.p).freeze
theorem Oo.callS (h : Oo P l args M G1 Φ) [hG : SubS G G1 R] (hk : ∀ v M' G', M.le M' → Φ v M' G' → K v M' (R ++ G')) : Fx C l args M G K := h.callA hG.p hk
theorem Con.run (h : Con P f args M G Φ) (hk : ∀ v M' G', M.le M' → Φ v M' G' → K v M' G') : De C f args M G K := by
 refine h.callA (G2 := []) (by simp) fun v M' G' hM hv => ?_
 rw [lAj]; exact hk v M' G' hM hv
end
theorem JK {C : Cx P} {f : FuncId} {args : Array Value} {M : Aa} {G : Own} {K : Value → Aa → Own → Prop} {Φ : Value → Aa → Own → Prop} (h : Con P f args (M.add G) [] Φ) (hk : ∀ v M' G', Φ v M' G' → K v M (G ++ G')) : De C f args M G K :=
 Con.callB (G1 := []) h (Aa.le_refl _) (lAf _) hk
section
variable {C : Cx P} {ρ : Env} {Mk M : Aa} {Gk G : Own} {K : Env → Aa → Own → Prop} {KQ : Env → Prop}
theorem Dh4 {t : AT} (e : t = .fin) (h : K ρ M G) : wpA C t ρ Mk Gk M G K := by subst e; exact h
theorem Fq6 {t : AT} (e : t = .no) : wpA C t ρ Mk Gk M G K := by subst e; trivial
theorem Dh5 {t rest : AT} {l : QL} (e : t = .q l rest) (h : ∀ l' t', l' = l → t' = rest → Js C l' ρ Mk Gk fun ρ' => wpA C t' ρ' Mk Gk M G K) : wpA C t ρ Mk Gk M G K := by subst e; exact h _ _ rfl rfl
theorem Fw7 {t0 : AT} {i : Nat} {d : Option Nat} {r : ROp} {t more : AT} (e : t0 = .s i d r false t more) (h : ∀ t', t' = t → opW C ρ M G (fun v M' G' => M.le M' ∧ (∀ p ∈ Gk, p ∈ G') ∧ wpA C t' (putE d v ρ) Mk Gk M' G' K) r) (h2 : ∀ t', t' = more → wpA C t' ρ Mk Gk M G K) : wpA C t0 ρ Mk Gk M G K := by
 subst e; simp only [wpA, lC8, if_false]; exact ⟨h _ rfl, h2 _ rfl⟩
theorem Fq7 {t0 : AT} {i : Nat} {d : Option Nat} {r : ROp} {t more : AT} (e : t0 = .s i d r true t more) (h : ∀ t', t' = t → opW C ρ M G (fun v M' G' => wpA C t' (putE d v ρ) M' G' M' G' K) r) (h2 : ∀ t', t' = more → wpA C t' ρ Mk Gk M G K) : wpA C t0 ρ Mk Gk M G K := by
 subst e; simp only [wpA, if_true]; exact ⟨h _ rfl, h2 _ rfl⟩
theorem Fq8 {t0 : AT} {s : Nat} {yes nay : AT} {c : Bool} (e : t0 = .br s yes nay) (hc : get ρ s = some (.bool c)) (h1 : ∀ t', t' = yes → c = true → wpA C t' ρ Mk Gk M G K) (h2 : ∀ t', t' = nay → c = false → wpA C t' ρ Mk Gk M G K) : wpA C t0 ρ Mk Gk M G K := by
 subst e; simp only [wpA, hc, C2, Jr]; exact ⟨h1 _ rfl, h2 _ rfl⟩
theorem Fq9 {t0 : AT} {i : Nat} {d : Option Nat} {rest : AT} (e : t0 = .sk i d rest) (h : ∀ t', t' = rest → wpA C t' ρ Mk Gk M G K) : wpA C t0 ρ Mk Gk M G K := by subst e; exact h rest rfl
theorem Dh6 {l : QL} (e : l = .nil) (h : KQ ρ) : Js C l ρ M G KQ := by subst e; exact h
theorem Fr0 {l : QL} {i : Nat} {d : Option Nat} {r : ROp} {rest : QL} (e : l = .op i d r rest) (h : ∀ l', l' = rest → qW C ρ M G (fun v => Js C l' (putE d v ρ) M G KQ) r) : Js C l ρ M G KQ := by subst e; exact h _ rfl
theorem Fs1 {l : QL} {s : Nat} {want : Bool} {body : QL} {m d : Nat} {last : A} {rest : QL} {c : Bool} (e0 : l = .g s want body m d last rest) (hc : get ρ s = some (.bool c)) (e : Bool)
  (h1 : ∀ l', l' = body → c = want → Js C l' ρ M G fun ρ' => onv (ev ρ' last) fun u => onv (Jr u) fun e' => e' = e) (h2 : ∀ l', l' = rest → Js C l' ((d, .bool (if want then c && e else c || e)) :: ρ) M G KQ) : Js C l ρ M G KQ := by
 subst e0; simp only [Js, hc, C2, Jr]; exact ⟨e, h1 _ rfl, h2 _ rfl⟩
end
theorem Sv {wb wo n c i : Nat} (h2 : n ≤ c) : ∃ ro, (i < n → ro = wo + i) ∧ (if c = i then some (⟨wb, wo, none⟩ : Addr) else some ((⟨wb, wo, none⟩ : Addr).add i)) = some ⟨wb, ro, none⟩ := by
 by_cases h : c = i
 ·exact ⟨wo, fun h3 => by omega, by rw [if_pos h]⟩
 ·refine ⟨wo + i, fun _ => rfl, ?_⟩
  rw [if_neg h]
  simp only [Addr.add]
  split
  ·rename_i h0; rw [h0]; rfl
  ·rfl
theorem Bg3 {a : Addr} {c : Nat} : (if c = 0 then some a else some (a.add 0)) = some a := by
 split
 ·rfl
 ·simp [Addr.add]
theorem rdS.pre {H : Aa} {a : Option Addr} {n i : Nat} {cs : List Value} (h : rdS H 1 a n cs) (hi : i ≤ n) : rdS H 1 a i (cs.take i) := by
 rcases h with ⟨h0, rfl⟩ | ⟨b, off, e, h⟩
 ·exact .inl ⟨by omega, by simp⟩
 ·refine .inr ⟨b, off, e, ?_⟩
  have := h.part (i := 0) (m := i * 1) (by omega)
  rw [lBr, lDc] at this
  rwa [lAu] at this ⊢
theorem rd.suf {H : Aa} {b off n i : Nat} {cs : List Value} (h : rd H b off n cs) (hi : i ≤ n) : rd H b (off + i) (n - i) (cs.drop i) := by
 have := h.part (i := i) (m := n - i) (by omega)
 have hl := h.length
 rwa [lAw (by rw [lDt]; omega)] at this
def SlC {α : Type} (H : Aa) (sz : Nat) (enc : α → List Value) (v : Value) (xs : List α) : Prop :=
 ∃ a c, v = .slice a xs.length c ∧ xs.length ≤ c ∧ rdS H sz a xs.length (xs.flatMap enc)
theorem SlC.sl {α : Type} {H : Aa} {sz : Nat} {enc : α → List Value} {v : Value} {xs : List α} (h : SlC H sz enc v xs) : Sl H sz enc v xs :=
 let ⟨a, c, e, _, h⟩ := h; ⟨a, c, e, h⟩
theorem SlC.mono {α : Type} {H H' : Aa} (hh : H.le H') {sz : Nat} {enc : α → List Value} {v : Value} {xs : List α} (h : SlC H sz enc v xs) : SlC H' sz enc v xs :=
 let ⟨a, c, e, hc, h⟩ := h; ⟨a, c, e, hc, h.mono hh⟩
def Dj {α : Type} (H : Aa) (sz : Nat) (enc : α → List Value) (v : Value) (xss : List (List α)) : Prop :=
 ∃ a c vs, v = .slice a xss.length c ∧ vs.length = xss.length ∧ rdS H 1 a xss.length vs ∧ ∀ i (h : i < vs.length) (h' : i < xss.length), SlC H sz enc vs[i] xss[i]
theorem Dj.mono {α : Type} {H H' : Aa} (hh : H.le H') {sz : Nat} {enc : α → List Value} {v : Value} {xss : List (List α)} (h : Dj H sz enc v xss) : Dj H' sz enc v xss :=
 let ⟨a, c, vs, e, hl, h, k⟩ := h; ⟨a, c, vs, e, hl, h.mono hh, fun i h h' => (k i h h').mono hh⟩
theorem Dj.sl {α : Type} {H : Aa} {sz : Nat} {enc : α → List Value} {v : Value} {xss : List (List α)} (h : Dj H sz enc v xss) : Dv H sz enc v xss :=
 let ⟨a, c, vs, e, hl, h, k⟩ := h; ⟨a, c, vs, e, hl, h, fun i h h' => (k i h h').sl⟩
theorem Dj.at {α : Type} {H : Aa} {sz : Nat} {enc : α → List Value} {a : Option Addr} {vs : List Value} {xss : List (List α)} (h : rdS H 1 a xss.length vs) (hl : vs.length = xss.length) (hk : ∀ i (h : i < vs.length) (h' : i < xss.length), SlC H sz enc vs[i] xss[i]) (hn : 0 < xss.length) :
  ∃ b off, a = some ⟨b, off, none⟩ ∧ ∀ i (hi : i < xss.length), ∃ a' c', rd H b (off + i * 1) 1 [.slice a' xss[i].length c'] ∧ xss[i].length ≤ c' ∧ rdS H sz a' xss[i].length (xss[i].flatMap enc) := by
 have h1 : rdS H 1 a vs.length (vs.flatMap fun v => [v]) := by rw [J0, hl]; exact h
 obtain ⟨b, off, e, hr⟩ := Sl.at (sz := 1) (enc := fun v => [v]) (fun _ => rfl) (by omega) h1 (by omega)
 refine ⟨b, off, e, fun i hi => ?_⟩
 have bj := hr i (by omega)
 obtain ⟨a', c', e', cJ, h'⟩ := hk i (by omega) hi
 rw [e'] at bj
 exact ⟨a', c', bj, cJ, h'⟩
section
variable {P : Program} {C : Cx P} {ρ : Env} {Mk M : Aa} {Gk G : Own} {K : Env → Aa → Own → Prop} {KQ : Env → Prop}
theorem zf {t : AT} (h : K ρ M G) (e : t = .fin := by first | with_reducible assumption | rfl) : wpA C t ρ Mk Gk M G K := Dh4 e h
theorem zn {t : AT} (e : t = .no := by first | with_reducible assumption | rfl) : wpA C t ρ Mk Gk M G K := Fq6 e
theorem zq {t rest : AT} {l : QL} (h : ∀ l' t', l' = l → t' = rest → Js C l' ρ Mk Gk fun ρ' => wpA C t' ρ' Mk Gk M G K) (e : t = .q l rest := by first | with_reducible assumption | rfl) : wpA C t ρ Mk Gk M G K := Dh5 e h
theorem zo {l : QL} {i : Nat} {d : Option Nat} {r : ROp} {rest : QL} (h : ∀ l', l' = rest → qW C ρ M G (fun v => Js C l' (putE d v ρ) M G KQ) r) (e : l = .op i d r rest := by first | with_reducible assumption | rfl) : Js C l ρ M G KQ := Fr0 e h
theorem ZA {t0 : AT} {i : Nat} {d : Option Nat} {r : ROp} {t more : AT} (h : ∀ t', t' = t → opW C ρ M G (fun v M' G' => M.le M' ∧ (∀ p ∈ Gk, p ∈ G') ∧ wpA C t' (putE d v ρ) Mk Gk M' G' K) r) (h2 : ∀ t', t' = more → wpA C t' ρ Mk Gk M G K) (e : t0 = .s i d r false t more := by first | with_reducible assumption | rfl) : wpA C t0 ρ Mk Gk M G K := Fw7 e h h2
theorem ZB {t0 : AT} {i : Nat} {d : Option Nat} {r : ROp} {t more : AT} (h : ∀ t', t' = t → opW C ρ M G (fun v M' G' => wpA C t' (putE d v ρ) M' G' M' G' K) r) (h2 : ∀ t', t' = more → wpA C t' ρ Mk Gk M G K) (e : t0 = .s i d r true t more := by first | with_reducible assumption | rfl) : wpA C t0 ρ Mk Gk M G K := Fq7 e h h2
theorem ZC {t0 : AT} {i : Nat} {d : Option Nat} {rest : AT} (h : ∀ t', t' = rest → wpA C t' ρ Mk Gk M G K) (e : t0 = .sk i d rest := by first | with_reducible assumption | rfl) : wpA C t0 ρ Mk Gk M G K := Fq9 e h
theorem ZD {t0 : AT} {s : Nat} {yes nay : AT} {c : Bool} (h1 : ∀ t', t' = yes → c = true → wpA C t' ρ Mk Gk M G K) (h2 : ∀ t', t' = nay → c = false → wpA C t' ρ Mk Gk M G K) (e : t0 = .br s yes nay := by first | with_reducible assumption | rfl) (hc : get ρ s = some (.bool c) := by exact rfl) : wpA C t0 ρ Mk Gk M G K := Fq8 e hc h1 h2
theorem ZE {l : QL} {s : Nat} {want : Bool} {body : QL} {m d : Nat} {last : A} {rest : QL} {c : Bool} (e : Bool) (h1 : ∀ l', l' = body → c = want → Js C l' ρ M G fun ρ' => onv (ev ρ' last) fun u => onv (Jr u) fun e' => e' = e) (h2 : ∀ l', l' = rest → Js C l' ((d, .bool (if want then c && e else c || e)) :: ρ) M G KQ) (e0 : l = .g s want body m d last rest := by first | with_reducible assumption | rfl) (hc : get ρ s = some (.bool c) := by exact rfl) : Js C l ρ M G KQ := Fs1 e0 hc e h1 h2
theorem zl {l : QL} (h : KQ ρ) (e : l = .nil := by first | with_reducible assumption | rfl) : Js C l ρ M G KQ := Dh6 e h
end
open Go.Proofs
structure Ev where
 op : OpV
 th : Int
 deriving DecidableEq
abbrev Bj (e : Ev) : List Value := [vi e.op.kind, vi e.op.loc, vi e.op.v, vi e.op.w, vi e.op.ord, vi e.th]
abbrev vev (e : Ev) : Value := .agg #[vi e.op.kind, vi e.op.loc, vi e.op.v, vi e.op.w, vi e.op.ord, vi e.th]
def Ev.reads (e : Ev) : Bool := decide (e.op.kind ≠ 1) && decide (e.op.kind ≠ 5)
def Ev.strong (e : Ev) : Bool := decide (e.op.kind = 5) && decide (e.op.ord = 4)
def Ev.acq (e : Ev) : Bool := Dl2 e.op.ord
def Ev.rel (e : Ev) : Bool := Dl3 e.op.ord
instance : Inhabited Ev := ⟨⟨⟨0, 0, 0, 0, 0⟩, 0⟩⟩
def C4 : Nat → List (List OpV) → List Ev
 | _, [] => []
 | n, t :: ts => t.map (fun o => ⟨o, n⟩) ++ C4 (n + 1) ts
def Ac (ts : List (List OpV)) : List Ev := C4 0 (ts.map Ek)
theorem Mt : ∀ (l1 : List (List OpV)) (n : Nat) (l2 : List (List OpV)), C4 n (l1 ++ l2) = C4 n l1 ++ C4 (n + l1.length) l2
 | [], n, l2 => by simp [C4]
 | t :: l1, n, l2 => by simp [C4, Mt l1, lDa, lE6 1]
theorem Aa2 {l : List (List OpV)} {i : Nat} (hi : i < l.length) : C4 0 (l.take (i + 1)) = C4 0 (l.take i) ++ l[i].map (fun o => ⟨o, (i : Int)⟩) := by
 rw [lA7 hi, Mt]
 have : (l.take i).length = i := by simp; omega
 simp [C4, this]
theorem Iw : ∀ (l : List (List OpV)) (n : Nat), (C4 n l).length = l.flatten.length
 | [], n => rfl
 | t :: l, n => by simp [C4, Iw l]
def Dq (q : List (List OpV)) (i j : Nat) : List Ev := C4 0 (q.take i) ++ ((q[i]?.getD []).take j).map (fun o => ⟨o, (i : Int)⟩)
theorem Ep (q : List (List OpV)) (i : Nat) : Dq q i 0 = C4 0 (q.take i) := by simp [Dq]
theorem Ou {q : List (List OpV)} {i j : Nat} (hi : i < q.length) (hj : j < q[i].length) : Dq q i (j + 1) = Dq q i j ++ [⟨q[i][j], i⟩] := by
 simp only [Dq, lA2 hi, lAn]
 rw [lA7 hj, lAv, lAc]; rfl
theorem Lw {q : List (List OpV)} {i : Nat} (hi : i < q.length) : Dq q i q[i].length = C4 0 (q.take (i + 1)) := by
 simp only [Dq, lA2 hi, lAn]
 rw [lB2, Aa2 hi]
theorem Lx {q : List (List OpV)} {i : Nat} (hi : i < q.length) (j : Nat) : (Dq q i j).length ≤ q.flatten.length := by
 have h : (C4 0 (q.take (i + 1))).length ≤ q.flatten.length := by rw [Iw]; exact Cw q (i + 1)
 rw [← Lw hi] at h
 simp only [Dq, lA2 hi, lAn, lA4, lA1, lC4] at h ⊢
 omega
theorem Ov {q : List (List OpV)} {i : Nat} (hi : i < q.length) : q[i].length ≤ q.flatten.length := by
 have h := Lx hi q[i].length
 simp only [Dq, lA2 hi, lAn, lA4, lA1, lC4] at h
 omega
section
variable {M : Aa}
theorem Ci (e : Ev) : Aq Tryz.prog 86 #[vev e] M (vb e.reads) := by
 refine Con.enter Q6_ok (args := [vev e]) (by simp [Q6]) fun w0 => ?_
 simp only [Q6, A9]
 repeat' first | refine st ?_ | refine rg ?_ | with_reducible assumption | (refine JD ?_ (fun hc K' hK => ?_) ?_; rotate_left) | refine rt Q6_ok ?_ | ((first | with_reducible intro b | refine xiA rfl ?_ | fail); try refine nx ?_) | exact ⟨⟩ | fail
 all_goals simp_all [Ev.reads]
theorem W0 (e : Ev) : Aq Tryz.prog 76 #[vev e] M (vb e.strong) := by
 refine Con.enter Q8_ok (args := [vev e]) (by simp [Q8]) fun w0 => ?_
 simp only [Q8, A9]
 repeat' first | refine st ?_ | refine rg ?_ | with_reducible assumption | (refine JD ?_ (fun hc K' hK => ?_) ?_; rotate_left) | refine rt Q8_ok ?_ | ((first | with_reducible intro b | refine xiA rfl ?_ | fail); try refine nx ?_) | exact ⟨⟩ | fail
 all_goals simp_all [Ev.strong]
theorem Yh (e : Ev) (h : B3 e.op.ord = true) : Aq Tryz.prog 138 #[vev e] M (vb e.acq) := by
 refine Con.enter Q5_ok (args := [vev e]) (by simp [Q5]) fun w0 => ?_
 simp only [Q5, A9]
 repeat' first | refine st ?_ | refine rg ?_ | (refine Aq.call (Nw _ h) ?_; try refine nx ?_) | refine rt Q5_ok ?_ | ((first | with_reducible intro b | refine xiA rfl ?_ | fail); try refine nx ?_) | exact ⟨⟩ | fail
 all_goals rfl
theorem Yi (e : Ev) (h : B3 e.op.ord = true) : Aq Tryz.prog 137 #[vev e] M (vb e.rel) := by
 refine Con.enter Q7_ok (args := [vev e]) (by simp [Q7]) fun w0 => ?_
 simp only [Q7, A9]
 repeat' first | refine st ?_ | refine rg ?_ | (refine Aq.call (Nx _ h) ?_; try refine nx ?_) | refine rt Q7_ok ?_ | ((first | with_reducible intro b | refine xiA rfl ?_ | fail); try refine nx ?_) | exact ⟨⟩ | fail
 all_goals rfl
theorem Ah4 (ts : List (List OpV)) (s : Value) (hs : Dv M 5 Bd s ts) (hb : Sized ts) :
  Con Tryz.prog 33 #[.agg #[s]] M [] fun v M' G' => G' = [] ∧ ((A1 ts ≠ 0 ∧ v = .tuple #[.slice none 0 0, vi (A1 ts)]) ∨ (A1 ts = 0 ∧ ∃ s', v = .tuple #[s', vi 0] ∧ Sl M' 6 Bj s' (Ac ts))) := by
 have aM := hs
 obtain ⟨a, c, vs, rfl, hl, aH, hk⟩ := hs
 refine Con.enter Q9_ok (args := [.agg #[.slice a ts.length c]]) (by simp [Q9]) fun w0 => ?_
 simp only [Q9, A9]
 repeat' first | refine st ?_ | refine rg ?_ | ((first | with_reducible intro b | refine xrA rfl ?_ | fail); try refine nx ?_) | exact ⟨⟩ | fail
 refine Con.callA (G1 := []) (On ts _ aM hb) (lAf _) ?_
 rintro v M1 G1 bv (⟨hne, rfl⟩ | ⟨aK, s', rfl, bz⟩)
 ·simp only [wpS, wpA, Js, push_cast, lB8, reduceIte, Nat.reduceEqDiff, reduceCtorEq, Nat.reduceAdd, Nat.reduceSub, Nat.reduceMul, Int.reduceToNat, Nat.reduceLeDiff]
  repeat' first | refine st ?_ | refine rg ?_ | (refine cX ?_ ?_ <;> intro h <;> try exact Ah h) | (with_reducible intro b; try refine nx ?_) | (refine xw ?_; refine nx ?_) | exact ⟨⟩ | fail
  refine JA (ρ' := [(2, .slice none 0 0), (3, vi (A1 ts))]) (G' := []) ?_ ?env0 (lAe _)
  case env0 =>
   exact eE
  (refine rt Q9_ok ?_; try with_reducible exact ⟨⟩)
  exact .inl hne
 ·have jF := Iu aK
  have fu := bz
  obtain ⟨a1, c1, vs1, rfl, fw, fW, cM⟩ := fu
  generalize hq : ts.map Ek = q at *
  have tp : q.flatten.length ≤ 3 * ts.flatten.length := by
   subst hq
   clear aM hb jF hl aH hk bz fw fW cM aK
   induction ts with
   | nil => simp
   | cons t ts ih =>
    have h1 : (Ek t).length ≤ 3 * t.length := by
     clear ih
     induction t with
     | nil => simp [Ek]
     | cons o t ih =>
      have := Kz o
      simp only [Ek, lC2, lA4, lB3] at ih ⊢
      omega
    simp only [lDv, lD0, lA4] at ih ⊢
    omega
  have tt : q.length = ts.length := by subst hq; simp
  (refine nx ?_; try with_reducible exact ⟨⟩)
  repeat' first | refine st ?_ | refine rg ?_ | (refine cX ?_ ?_ <;> intro h <;> try exact Ah h) | ((first | with_reducible intro b | refine xsA rfl ?_ | fail); try refine nx ?_) | (refine xw ?_; refine nx ?_) | exact ⟨⟩ | fail
  refine JC (fun x : Nat × Vec => ([(6, osv x.2 (C4 0 (q.take x.1)).length), (20, .slice a1 q.length c1), (21, vi q.length), (22, vi x.1)], M1, osg 121 x.2 ((C4 0 (q.take x.1)).flatMap Bj)))
   (fun x => x.1 ≤ q.length ∧ Ey 6 x.2 (C4 0 (q.take x.1)).length ((C4 0 (q.take x.1)).flatMap Bj)) (fun x => q.length - x.1) (0, none) rfl ⟨lA8 _, rfl, rfl⟩ ?env1 (lAe _) ?_
  case env1 =>
   exact eE
  rintro ⟨i, ov⟩ ⟨hi, aQ⟩ ih
  dsimp only at hi aQ ih ⊢
  repeat' first | refine st ?_ | refine rg ?_ | (refine cX ?_ ?_ <;> intro h <;> try exact Ah h) | exact ⟨⟩ | fail
  ·have aC : i < q.length := by omega
   obtain ⟨pb, po, rfl, hat⟩ := Dv.at fW fw cM (by omega)
   obtain ⟨a', c', aT, aX⟩ := hat i aC
   simp only [lAu] at aT
   have aG : ∀ j, (Dq q i j).length ≤ q.flatten.length := fun j => Lx aC j
   have eg : q[i].length ≤ q.flatten.length := Ov aC
   repeat' first | refine st ?_ | refine rg ?_ | refine ZF ?_ | (refine xn ?_; try refine nx ?_) | exact ⟨⟩ | fail
   refine JC (fun x : Nat × Vec => ([(6, osv x.2 (Dq q i x.1).length), (7, vi i), (20, .slice (some ⟨pb, po, none⟩) q.length c1), (21, vi q.length), (22, vi i), (27, .slice a' q[i].length c'), (28, vi q[i].length), (29, vi x.1)], M1,
     osg 121 x.2 ((Dq q i x.1).flatMap Bj)))
    (fun x => x.1 ≤ q[i].length ∧ Ey 6 x.2 (Dq q i x.1).length ((Dq q i x.1).flatMap Bj))
    (fun x => q[i].length - x.1) (0, ov) rfl ⟨lA8 _, by rw [Ep]; exact aQ⟩ ?env2 (by rw [Ep]; exact lA0 _) ?_
   case env2 =>
    repeat' first | (refine lBs.2 (lAd ?_ ?_)) | (intro _ bn; cases bn; done) | rfl | (simp (disch := omega) only [Ak, Au, reduceIte, Nat.reduceEqDiff, Option.some.injEq, Value.int.injEq, w64, lDf, lDg, lB8, lD7, Ep]; done) | fail
   rintro ⟨j, o1⟩ ⟨hj, bU⟩ ih2
   dsimp only at hj bU ih2 ⊢
   repeat' first | refine st ?_ | refine rg ?_ | (refine cX ?_ ?_ <;> intro h <;> try exact Ah h) | exact ⟨⟩ | fail
   ·have aR : j < q[i].length := by omega
    have mV := aG j
    obtain ⟨qb, qo, rfl, aN⟩ := Sl.at (enc := Bd) (fun _ => rfl) (by omega) aX (by omega)
    have dP := aN j aR
    repeat' first | refine rg ?_ | (with_reducible intro b; try refine nx ?_) | refine ZF ?_ | ((first | refine xm ?_ | refine xrA rfl ?_ | fail); try refine nx ?_) | (refine xw ?_; refine nx ?_) | exact ⟨⟩ | fail
    refine ⟨Bj ⟨q[i][j], i⟩, Or.inr ⟨b, 0, rfl, An 0 rfl rfl (by simp)⟩, by simp [Bq, Ch, Value.oneCell'], Or.inl ⟨o1, _, rfl, _, bU, _, B8 [[_, _], osg 121 o1 _] 1 (by simp), ?_, ?_, ?_⟩⟩
    ·simp only [maxLen]; omega
    ·omega
    intro o2 au _
    simp only [lBb, lBg, lAs, lAt, lCk, lC3, Db, Da, C9, lAj, lAp, lAc, lAa]
    repeat' first | refine su ?_ | refine rg ?_ | exact ⟨⟩ | fail
    have e := Ou aC aR
    have ih3 := ih2 (j + 1, o2) ⟨by dsimp only; omega, by rw [e, lA4, lB0]; exact au⟩ (by dsimp only; omega)
    dsimp only at ih3
    rw [e, lA4, lB0] at ih3
    refine JA ih3 ?_ eS
    exact eE
   ·have aR : j = q[i].length := by omega
    subst aR
    rw [Lw aC] at bU ⊢
    refine JA (ih (i + 1, o1) ⟨by dsimp only; omega, bU⟩ (by dsimp only; omega)) ?_ eS
    exact eE
  ·have bo : i = q.length := by omega
   subst bo
   rw [lB2] at aQ ⊢
   rw [← lAa (osg _ _ _)]
   refine EV.freeze ?_
   refine JA (ρ' := [(2, osv ov (C4 0 q).length), (3, vi 0)]) (G' := []) ?_ ?env3 (lAe _)
   case env3 =>
    exact eE
   (refine rt Q9_ok ?_; try with_reducible exact ⟨⟩)
   subst hq
   exact .inr ⟨aK, _, rfl, _, _, rfl, E5 aQ (fun p hp => hp)⟩
end
abbrev ei (x : Int) : List Value := [vi x]
abbrev eb (b : Bool) : List Value := [vb b]
theorem A0 (xs : List Int) : xs.flatMap ei = xs.map vi := by induction xs <;> simp_all
theorem Er (xs : List Bool) : xs.flatMap eb = xs.map vb := by induction xs <;> simp_all
theorem Yj (xs : List Int) : ok1 (xs.map vi) := by
 intro v hv; obtain ⟨x, _, rfl⟩ := lAk.1 hv; rfl
theorem Au3 (xs : List Bool) : ok1 (xs.map vb) := by
 intro v hv; obtain ⟨x, _, rfl⟩ := lAk.1 hv; rfl
def evAt (p : List Ev) (i : Nat) : Ev := p[i]?.getD default
theorem Dc {p : List Ev} {i : Nat} (h : i < p.length) : evAt p i = p[i] := by simp [evAt, h]
def Cq (n : Nat) (f : Nat → Bool) : List Int := ((List.range n).filter f).map (fun (i : Nat) => (i : Int))
theorem Ft (n : Nat) (f : Nat → Bool) : Cq (n + 1) f = Cq n f ++ if f n then [(n : Int)] else [] := by
 simp only [Cq, lDi, lCp, lAv]
 congr 1
 by_cases h : f n <;> simp [h]
theorem A8 (n : Nat) (f : Nat → Bool) : (Cq n f).length ≤ n := by
 simp only [Cq, lA1]
 exact lBm (lDy _ _) (by simp)
theorem B9 {n : Nat} {f : Nat → Bool} {x : Int} : x ∈ Cq n f ↔ ∃ i : Nat, i < n ∧ f i = true ∧ x = i := by
 simp only [Cq, lAk, lCm, lAl]
 constructor
 ·rintro ⟨i, ⟨h1, h2⟩, rfl⟩; exact ⟨i, h1, h2, rfl⟩
 ·rintro ⟨i, h1, h2, rfl⟩; exact ⟨i, ⟨h1, h2⟩, rfl⟩
def Az (p : List Ev) (dn : List Bool) (loc : Int) : List Int :=
 Cq p.length fun i => decide ((evAt p i).op.kind ≠ 5) && (dn[i]?.getD false) && decide ((evAt p i).op.loc = loc)
section
variable {M : Aa}
def Dh7 (xs : List Int) (v : Value) (_ : Aa) (G' : Own) : Prop := ∃ ov : Vec, v = osv ov xs.length ∧ Ey 1 ov xs.length (xs.map vi) ∧ G' = osg 3 ov (xs.map vi)
theorem Ow (p : List Ev) (s : Value) (hs : Sl M 6 Bj s p) (hb : p.length < 1000000) (g : Nat) (caps : Array Value) (f : Nat → Bool)
  (hf : ∀ M', M.le M' → ∀ i : Nat, i < p.length → Aq Tryz.prog g (#[vi i] ++ caps) M' (vb (f i))) :
  Con Tryz.prog 74 #[s, .func (.func g) #[] caps] M [] (Dh7 (Cq p.length f)) := by
 obtain ⟨a, c, rfl, aH⟩ := hs
 refine Con.enter Q31_ok (args := [.slice a p.length c, .func (.func g) #[] caps]) (by simp [Q31]) fun w0 => ?_
 simp only [Q31, A9]
 repeat' first | refine st ?_ | refine rg ?_ | exact ⟨⟩ | fail
 refine JC (fun x : Nat × Vec => ([(1, .func (.func g) #[] caps), (5, osv x.2 (Cq x.1 f).length), (8, vi p.length), (9, vi x.1)], M, osg 3 x.2 ((Cq x.1 f).map vi)))
  (fun x => x.1 ≤ p.length ∧ Ey 1 x.2 (Cq x.1 f).length ((Cq x.1 f).map vi)) (fun x => p.length - x.1) (0, none) rfl ⟨lA8 _, rfl, rfl⟩ ?env1 (lAe _) ?_
 case env1 =>
  exact eE
 rintro ⟨i, ov⟩ ⟨hi, aQ⟩ ih
 dsimp only at hi aQ ih ⊢
 repeat' first | refine st ?_ | refine rg ?_ | (refine cX ?_ ?_ <;> intro h <;> try exact Ah h) | exact ⟨⟩ | fail
 ·have aC : i < p.length := by omega
  have kZ := A8 i f
  repeat' first | refine su ?_ | refine rg ?_ | (refine Aq.call (hf _ (JB _ _) i aC) ?_; try refine nx ?_) | (refine cX ?_ ?_ <;> intro h <;> try exact Ah h) | (with_reducible intro b; try refine nx ?_) | exact ⟨⟩ | fail
  ·refine ⟨[vi i], Or.inr ⟨b, 0, rfl, An 0 rfl rfl (by simp)⟩, by simp [Bq, Ch, Value.oneCell'], Or.inl ⟨ov, _, rfl, _, aQ, _, B8 [[_], osg 3 ov _] 1 (by simp), ?_, ?_, ?_⟩⟩
   ·simp only [maxLen]; omega
   ·omega
   intro o2 au _
   simp only [lBb, lBg, lAs, lAt, lCk, lC3, Db, Da, C9, lAj, lAp, lAc, lAa]
   repeat' first | refine su ?_ | refine rg ?_ | exact ⟨⟩ | fail
   have e : Cq (i + 1) f = Cq i f ++ [(i : Int)] := by rw [Ft, if_pos (by assumption)]
   have ih3 := ih (i + 1, o2) ⟨by dsimp only; omega, by rw [e, lA4, lAv]; exact au⟩ (by dsimp only; omega)
   dsimp only at ih3
   rw [e, lA4, lAv] at ih3
   refine JA ih3 ?_ eS
   exact eE
  ·have e : Cq (i + 1) f = Cq i f := by rw [Ft, if_neg (by simp_all), lAa]
   have ih3 := ih (i + 1, ov) ⟨by dsimp only; omega, by rw [e]; exact aQ⟩ (by dsimp only; omega)
   dsimp only at ih3
   rw [e] at ih3
   refine JA ih3 ?_ eS
   exact eE
 ·have bo : i = p.length := by omega
  subst bo
  (refine rt Q31_ok ?_; try with_reducible exact ⟨⟩)
  exact ⟨ov, rfl, aQ, rfl⟩
end
section
variable {M : Aa}
theorem Ox (p : List Ev) (dn : List Bool) (loc : Int) {pb po pc db do' dc b1 b2 b3 : Nat} (h1 : rd M b1 0 1 [.slice (some ⟨pb, po, none⟩) p.length pc]) (h2 : rd M b2 0 1 [.slice (some ⟨db, do', none⟩) dn.length dc]) (h3 : rd M b3 0 1 [vi loc])
  (i : Nat) (hi : i < p.length) (hl : dn.length = p.length) (hp : rd M pb (po + i * 6) 6 (Bj (evAt p i))) (hd : rd M db (do' + i) 1 [vb (dn[i]?.getD false)]) :
  Aq Tryz.prog 139 #[vi i, pv b1 0, pv b2 0, pv b3 0] M (vb (decide ((evAt p i).op.kind ≠ 5) && (dn[i]?.getD false) && decide ((evAt p i).op.loc = loc))) := by
 have iC := hp.pt 0 1 (by omega) rfl
 have gS := hp.pt 1 1 (by omega) rfl
 have aC : (i : Int) < p.length := by omega
 have jj : (i : Int) < dn.length := by omega
 refine Con.enter Q38_ok (args := [vi i, pv b1 0, pv b2 0, pv b3 0]) (by simp [Q38]) fun w0 => ?_
 simp only [Q38, A9]
 repeat' first | refine st ?_ | ((first | refine EV.reg ?_ | refine EV.any _ (lA0 _) ?_ | fail); (conv => (arg 2; whnf)); refine nx ?_) | (refine JT ?_ (fun hc => ?_) ?_; rotate_left; (try simp only [decide_eq_true_eq, decide_eq_false_iff_not, lB6, lCe, lA6, lAr, lBj, lBq] at hc)) | (with_reducible rfl) | refine rt Q38_ok ?_ | refine ZF ?_ | ((first | refine xm ?_ | refine xn ?_ | fail); try refine nx ?_) | exact ⟨⟩ | fail
 all_goals simp_all
theorem JJ {p : List Ev} {pb po : Nat} (hat : ∀ i (hi : i < p.length), rd M pb (po + i * 6) 6 (Bj p[i])) (i : Nat) (hi : i < p.length) : rd M pb (po + i * 6) 6 (Bj (evAt p i)) := by
 rw [Dc hi]; exact hat i hi
theorem Uk (p : List Ev) (s : Value) (hs : Sl M 6 Bj s p) (hb : p.length < 1000000) (dn : List Bool) (d : Value) (hd : Sl M 1 eb d dn) (hl : dn.length = p.length) (loc : Int) :
  Con Tryz.prog 110 #[s, d, vi loc] M [] fun v M' G' => ∃ G0, Dh7 (Az p dn loc) v M' G0 ∧ G' = G0 := by
 obtain ⟨a, c, rfl, aH⟩ := hs
 obtain ⟨da, dc, rfl, d4⟩ := hd
 refine Con.enter Q37_ok (args := [.slice a p.length c, .slice da dn.length dc, vi loc]) (by simp [Q37]) fun w0 => ?_
 simp only [Q37, A9]
 repeat' first | refine st ?_ | refine rg ?_ | ((first | with_reducible intro b | refine xsA rfl ?_ | fail); try refine nx ?_) | exact ⟨⟩ | fail
 rename_i b1 b2
 refine De.frz (G3 := []) (by rw [lAa]) ?_
 generalize hN : M.add _ = N
 have aA : M.le N := hN ▸ JB _ _
 have aT : rd N b1 0 1 [.slice a p.length c] := hN ▸ An 2 rfl rfl (by simp)
 have aX : rd N b2 0 1 [.slice da dn.length dc] := hN ▸ An 1 rfl rfl (by simp)
 have dP : rd N b 0 1 [vi loc] := hN ▸ An 0 rfl rfl (by simp)
 clear hN
 refine Con.callA (G1 := []) (Ow p _ ⟨_, _, rfl, aH.mono aA⟩ hb _ _ (fun i => decide ((evAt p i).op.kind ≠ 5) && (dn[i]?.getD false) && decide ((evAt p i).op.loc = loc)) ?_) (lAf _) ?_
 ·intro M' bB i hi
  have h0 : 0 < p.length := by omega
  obtain ⟨pb, po, rfl, hat⟩ := Sl.at (enc := Bj) (fun _ => rfl) (by omega) aH h0
  obtain ⟨db, do', rfl, aN⟩ := Sl.at (sz := 1) (enc := eb) (fun _ => rfl) (by decide) d4 (by rw [hl]; exact h0)
  have aY := Aa.le_trans aA bB
  have q2 := aN i (by omega)
  rw [lAu] at q2
  refine Ox p dn loc (aT.mono bB) (aX.mono bB) (dP.mono bB) i hi hl ((JJ hat i hi).mono aY) ?_
  have : dn[i]?.getD false = dn[i] := by rw [lA2 (by omega)]; rfl
  rw [this]; exact q2.mono aY
 ·rintro v M' G' bB hv
  obtain ⟨ov, rfl, aQ, rfl⟩ := hv
  (refine nx ?_; try with_reducible exact ⟨⟩)
  repeat' first | fail
  (refine rt Q37_ok ?_; try with_reducible exact ⟨⟩)
  exact ⟨_, ⟨ov, rfl, aQ, rfl⟩, rfl⟩
end
structure Wd where
 r : List Int
 w : List Int
 k : List Bool
 t : List Bool
def Cn (p : List Ev) (f : List Int) (s : Wd) (i : Nat) : Wd :=
 if (evAt p i).reads && decide (f[i]?.getD 0 = -1) then { s with k := s.k.set i true }
 else if (evAt p i).reads && (s.t[(f[i]?.getD 0).toNat]?.getD false) then { s with r := s.r.set i (s.w[(f[i]?.getD 0).toNat]?.getD 0), k := s.k.set i true } else s
def Cz (p : List Ev) (s : Wd) (i : Nat) : Wd :=
 if (evAt p i).op.kind = 1 then { s with w := s.w.set i (evAt p i).op.v, t := s.t.set i true }
 else if (evAt p i).op.kind = 2 then { s with w := s.w.set i (IntKind.i64.wrap (s.r[i]?.getD 0 + (evAt p i).op.v)), t := s.t.set i (s.k[i]?.getD false) }
 else if (evAt p i).op.kind = 3 ∨ (evAt p i).op.kind = 4 then { s with w := s.w.set i (evAt p i).op.w, t := s.t.set i true } else s
def Ah5 (p : List Ev) (f : List Int) (s : Wd) (i : Nat) : Wd := Cz p (Cn p f s i) i
def Dd (p : List Ev) (f : List Int) (s : Wd) : Nat → Wd
 | 0 => s
 | n + 1 => Ah5 p f (Dd p f s n) n
def wd0 (n : Nat) : Wd := ⟨List.replicate n 0, List.replicate n 0, List.replicate n false, List.replicate n false⟩
def Bk (p : List Ev) (f : List Int) : Nat → Wd
 | 0 => wd0 p.length
 | k + 1 => Dd p f (Bk p f k) p.length
def Aw (p : List Ev) (f : List Int) : Wd := Bk p f (p.length + 1)
structure Wd.Len (s : Wd) (n : Nat) : Prop where
 r : s.r.length = n
 w : s.w.length = n
 k : s.k.length = n
 t : s.t.length = n
theorem Rn {p : List Ev} {f : List Int} {s : Wd} {i n : Nat} (h : s.Len n) : (Cn p f s i).Len n := by
 unfold Cn
 split
 ·exact ⟨h.r, h.w, by simp [h.k], h.t⟩
 ·split
  ·exact ⟨by simp [h.r], h.w, by simp [h.k], h.t⟩
  ·exact h
theorem W1 {p : List Ev} {s : Wd} {i n : Nat} (h : s.Len n) : (Cz p s i).Len n := by
 unfold Cz
 split
 ·exact ⟨h.r, by simp [h.w], h.k, by simp [h.t]⟩
 ·split
  ·exact ⟨h.r, by simp [h.w], h.k, by simp [h.t]⟩
  ·split
   ·exact ⟨h.r, by simp [h.w], h.k, by simp [h.t]⟩
   ·exact h
theorem Aa3 {p : List Ev} {f : List Int} {s : Wd} {i n : Nat} (h : s.Len n) : (Ah5 p f s i).Len n := W1 (Rn h)
theorem Ah6 (n : Nat) : (wd0 n).Len n := by constructor <;> simp [wd0]
theorem Oy {p : List Ev} {f : List Int} {s : Wd} {n : Nat} (h : s.Len n) : ∀ i, (Dd p f s i).Len n
 | 0 => h
 | i + 1 => Aa3 (Oy h i)
theorem Fu (p : List Ev) (f : List Int) : ∀ k, (Bk p f k).Len p.length
 | 0 => Ah6 _
 | k + 1 => Oy (Fu p f k) _
def Df (p : List Ev) (f : List Int) : Prop := f.length = p.length ∧ ∀ i, i < p.length → (evAt p i).reads = true → f[i]?.getD 0 = -1 ∨ (0 ≤ f[i]?.getD 0 ∧ f[i]?.getD 0 < p.length)
abbrev wdG (s : Wd) (xb rb wb kb tb : Nat) (f d o n : Value) : Own :=
 [(tb, Cl 4 (s.t.map vb)), (rb, Cl 3 (s.r.map vi)), (wb, Cl 3 (s.w.map vi)), (kb, Cl 4 (s.k.map vb)), (xb, Cl 45 [f, d, o, n])]
section
variable {M : Aa}
theorem Ba {α : Type} (n : Nat) (v : α) : (List.replicate n [v]).flatten = List.replicate n v := by simp
theorem Ro (p : List Ev) (s : Value) (hs : Sl M 6 Bj s p) (hb : p.length < 1000000) (fr : List Int) (f d o n : Value) (hf : Sl M 1 ei f fr) (oW : Df p fr) :
  Con Tryz.prog 85 #[s, .agg #[f, d, o, n]] M [] fun v M' _ => ∃ rv wv kv, v = .tuple #[rv, wv, kv] ∧ Sl M' 1 ei rv (Aw p fr).r ∧ Sl M' 1 ei wv (Aw p fr).w ∧ Sl M' 1 eb kv (Aw p fr).k := by
 obtain ⟨a, c, rfl, aH⟩ := hs
 obtain ⟨fa, fc, rfl, bc⟩ := hf
 obtain ⟨aj, oW⟩ := oW
 refine Con.enter Q36_ok (args := [.slice a p.length c, .agg #[.slice fa fr.length fc, d, o, n]]) (by simp [Q36]) fun w0 => ?_
 simp only [Q36, A9]
 refine EV.seq (EV.reg ?_)
 (repeat first | refine nx ?_ | simp only [Cj3])
 intro xb
 refine EV.seq (JI (fun ρ' M' G' => ∃ rb wb kb, M' = M ∧ get ρ' 0 = some (.slice a p.length c) ∧ get ρ' 3 = some (pv xb 0) ∧ get ρ' 4 = some (Av rb p.length p.length) ∧ get ρ' 5 = some (Av wb p.length p.length) ∧ get ρ' 6 = some (Av kb p.length p.length) ∧
  G' = [(rb, Cl 3 (List.replicate p.length (vi 0))), (wb, Cl 3 (List.replicate p.length (vi 0))), (kb, Cl 4 (List.replicate p.length (vb false))), (xb, Cl 45 [.slice fa fr.length fc, d, o, n])]) ?_ ?_)
 ·intro k' key
  repeat' first | (refine EV.any _ (lA0 _) ?_; (conv => (arg 2; whnf)); (repeat first | refine nx ?_ | simp only [Ba])) | (with_reducible intro b; (repeat first | refine nx ?_ | simp only [Ba])) | refine ZF ?_ | (refine lAd (Aa.le_refl _) (lAd (fun p hp => lBa _ hp) ?_)) | (refine lAd (Aa.le_refl _) (lAd (fun p hp => lBa _ (lBa _ hp)) ?_)) | (refine lAd (Aa.le_refl _) (lAd (Ax ?_) ?_); focus ((repeat' first | exact lA0 _ | exact lAe _ | exact lAh _ _ | refine lAg _ ?_ | refine lAo ?_ _ | refine lA9 ?_ | refine lAq _ ?_); done); (repeat first | refine nx ?_ | simp only [Ba])) | refine lAd ?_ ?_ | fail
  all_goals exact JH (key _ _ _ ⟨_, _, _, rfl, rfl, rfl, rfl, rfl, rfl, rfl⟩)
 rintro ρ1 M1 G1 ⟨rb, wb, kb, rfl, e0, e3, e4, e5, e6, rfl⟩
 refine JE (ρ' := [(0, .slice a p.length c), (3, pv xb 0), (4, Av rb p.length p.length), (5, Av wb p.length p.length), (6, Av kb p.length p.length)])
  (G' := [(rb, Cl 3 (List.replicate p.length (vi 0))), (wb, Cl 3 (List.replicate p.length (vi 0))), (kb, Cl 4 (List.replicate p.length (vb false))), (xb, Cl 45 [.slice fa fr.length fc, d, o, n])]) ?_
  (by simp only [lBs]; exact ⟨e0, e3, e4, e5, e6, fun _ h => nomatch h⟩)
 clear e0 e3 e4 e5 e6
 repeat' first | refine st ?_ | (refine EV.reg ?_; (conv => (arg 2; whnf)); (repeat first | refine nx ?_ | simp only [Ba])) | (with_reducible intro b; (repeat first | refine nx ?_ | simp only [Ba])) | refine ZF ?_ | fail
 rename Nat => tb
 have aV : IntKind.i64.wrap ((p.length : Int) + 1) = (p.length : Int) + 1 := w64 (by omega) (by omega)
 rw [aV]
 refine JC (fun x : Nat => ([(0, .slice a p.length c), (3, pv xb 0), (4, Av rb p.length p.length), (5, Av wb p.length p.length), (6, Av kb p.length p.length), (7, Av tb p.length p.length), (25, vi ((p.length : Int) + 1)), (26, vi x)], M1,
   wdG (Bk p fr x) xb rb wb kb tb (.slice fa fr.length fc) d o n))
  (fun x => x ≤ p.length + 1) (fun x => p.length + 1 - x) 0 rfl (lA8 _) ?env1 ?sub1 ?_
 case env1 =>
  exact eE
 case sub1 =>
  simp only [wdG, Bk, wd0, lDz]
  exact lA0 _
 intro x hx ih
 dsimp only at hx ih ⊢
 repeat' first | refine st ?_ | refine rg ?_ | (refine cX ?_ ?_ <;> intro h <;> try exact Ah h) | exact ⟨⟩ | fail
 ·generalize lp : Bk p fr x = sx at *
  have fx : sx.Len p.length := lp ▸ Fu p fr x
  refine JC (fun i : Nat => ([(0, .slice a p.length c), (3, pv xb 0), (4, Av rb p.length p.length), (5, Av wb p.length p.length), (6, Av kb p.length p.length), (7, Av tb p.length p.length), (25, vi ((p.length : Int) + 1)), (26, vi x), (28, .slice a p.length c), (29, vi p.length), (30, vi i)], M1,
    wdG (Dd p fr sx i) xb rb wb kb tb (.slice fa fr.length fc) d o n))
   (fun i => i ≤ p.length) (fun i => p.length - i) 0 rfl (lA8 _) ?env2 (lA0 _) ?_
  case env2 =>
   exact eE
  intro i hi ih2
  dsimp only at hi ih2 ⊢
  repeat' first | refine st ?_ | refine rg ?_ | (refine cX ?_ ?_ <;> intro h <;> try exact Ah h) | exact ⟨⟩ | fail
  ·have aC : i < p.length := by omega
   obtain ⟨pb, po, rfl, hat⟩ := Sl.at (enc := Bj) (fun _ => rfl) (by omega) aH (by omega)
   obtain ⟨fb, fo, rfl, aN⟩ := Sl.at (sz := 1) (enc := ei) (fun _ => rfl) (by decide) bc (by omega)
   have jH := JJ hat i aC
   have kL : rd M1 fb (fo + i) 1 [vi (fr[i]?.getD 0)] := by
    have := aN i (by omega)
    rw [lAu] at this
    rwa [lA2 (by omega : i < fr.length)]
   have ii := oW i aC
   have vh : (i : Int) < fr.length := by omega
   generalize sX : Dd p fr sx i = s at *
   have bh : s.Len p.length := sX ▸ Oy fx i
   have bI : Dd p fr sx (i + 1) = Cz p (Cn p fr s i) i := by simp only [Dd, sX, Ah5]
   have ay := bh.r
   have gT := bh.w
   have dp := bh.k
   have aU := bh.t
   have iD : i < s.r.length := by omega
   have tu : i < s.k.length := by omega
   have ih3 := ih2 (i + 1) (by omega) (by omega)
   rw [bI] at ih3
   clear ih ih2 hat aN aH bc
   repeat' first | (with_reducible intro b; try refine nx ?_) | refine ZF ?_ | (refine xm ?_; try refine nx ?_) | (refine xw ?_; refine nx ?_) | exact ⟨⟩ | fail
   rename Nat => eb0
   refine EV.seq (JI (fun ρ' M' G' => M' = M1 ∧ (∀ q ∈ [(0, .slice (some ⟨pb, po, none⟩) p.length c), (3, pv xb 0), (4, Av rb p.length p.length), (5, Av wb p.length p.length), (6, Av kb p.length p.length), (7, Av tb p.length p.length), (8, vi i), (9, pv eb0 0), (25, vi ((p.length : Int) + 1)), (26, vi x), (28, .slice (some ⟨pb, po, none⟩) p.length c), (29, vi p.length), (30, vi i)], get ρ' q.1 = some q.2) ∧
    G' = (eb0, Cl 121 (Bj (evAt p i))) :: wdG (Cn p fr s i) xb rb wb kb tb (.slice (some ⟨fb, fo, none⟩) fr.length fc) d o n) ?_ ?_)
   ·intro k' key
    clear ih3
    cases hre : (evAt p i).reads with
    | false =>
     have e1 : Cn p fr s i = s := by simp [Cn, hre]
     rw [e1] at key
     repeat' first | refine st ?_ | (refine EV.reg ?_; (conv => (arg 2; whnf)); (repeat first | refine nx ?_ | simp only [hre, lCc, lC5])) | (refine Aq.call (Ci (evAt p i)) ?_; (repeat first | refine nx ?_ | simp only [hre, lCc, lC5])) | with_reducible assumption | (refine JD ?_ (fun hc K' hK => ?_) ?_; rotate_left) | (refine cX ?_ ?_ <;> intro h <;> try exact Ah h) | refine ZF ?_ | ((first | refine xm ?_ | refine xrA rfl ?_ | refine xsA rfl ?_ | fail); (repeat first | refine nx ?_ | simp only [hre, lCc, lC5])) | (exfalso; simp at hc; done) | exact false | fail
     refine key _ _ _ ⟨rfl, ?_, rfl⟩
     exact eE
    | true =>
     have ii := ii hre
     by_cases eY : fr[i]?.getD 0 = -1
     ·have e1 : Cn p fr s i = { s with k := s.k.set i true } := by simp [Cn, hre, eY]
      rw [e1] at key
      repeat' first | refine st ?_ | (refine EV.reg ?_; (conv => (arg 2; whnf)); (repeat first | refine nx ?_ | simp only [hre, lCc, lC5, Ap, lA1, ay, gT, dp, aU, aC])) | (refine Aq.call (Ci (evAt p i)) ?_; (repeat first | refine nx ?_ | simp only [hre, lCc, lC5, Ap, lA1, ay, gT, dp, aU, aC])) | with_reducible assumption | (refine JD ?_ (fun hc K' hK => ?_) ?_; rotate_left) | (refine cX ?_ ?_ <;> intro h <;> try exact Ah h) | refine ZF ?_ | ((first | refine xm ?_ | refine xrA rfl ?_ | refine xsA rfl ?_ | fail); (repeat first | refine nx ?_ | simp only [hre, lCc, lC5, Ap, lA1, ay, gT, dp, aU, aC])) | (refine xw ?_; (repeat first | refine nx ?_ | simp only [hre, lCc, lC5, Ap, lA1, ay, gT, dp, aU, aC])) | fail
      refine key _ _ _ ⟨rfl, ?_, rfl⟩
      exact eE
     ·have cp := ii.resolve_left eY
      have sY : (fr[i]?.getD 0).toNat < s.t.length := by omega
      have oX : (fr[i]?.getD 0).toNat < s.w.length := by omega
      have et : s.t[(fr[i]?.getD 0).toNat]?.getD false = s.t[(fr[i]?.getD 0).toNat] := by rw [lA2 sY]; rfl
      have ew : s.w[(fr[i]?.getD 0).toNat]?.getD 0 = s.w[(fr[i]?.getD 0).toNat] := by rw [lA2 oX]; rfl
      have e1 : Cn p fr s i = if s.t[(fr[i]?.getD 0).toNat] = true then { s with r := s.r.set i (s.w[(fr[i]?.getD 0).toNat]), k := s.k.set i true } else s := by
       simp only [Cn, hre, eY, et, ew]; simp
      rw [e1] at key
      clear et ew e1
      repeat' first | refine st ?_ | (refine EV.reg ?_; (conv => (arg 2; whnf)); (repeat first | refine nx ?_ | simp only [hre, lCc, lC5, Ap, lA1, ay, gT, dp, aU, aC])) | ((first | refine lAb _ (lAd (Cg (f := vi) oX) ?_) | refine lAb _ (lAd (Cg (f := vb) sY) ?_) | refine Aq.call (Ci (evAt p i)) ?_ | fail); (repeat first | refine nx ?_ | simp only [hre, lCc, lC5, Ap, lA1, ay, gT, dp, aU, aC])) | with_reducible assumption | (refine JD ?_ (fun hc K' hK => ?_) ?_; rotate_left) | (refine cX ?_ ?_ <;> intro h <;> try exact Ah h) | refine ZF ?_ | ((first | refine xm ?_ | refine xrA rfl ?_ | refine xsA rfl ?_ | fail); (repeat first | refine nx ?_ | simp only [hre, lCc, lC5, Ap, lA1, ay, gT, dp, aU, aC])) | (refine xw ?_; (repeat first | refine nx ?_ | simp only [hre, lCc, lC5, Ap, lA1, ay, gT, dp, aU, aC])) | fail
      ·rw [if_pos (by assumption)] at key
       refine key _ _ _ ⟨rfl, ?_, rfl⟩
       exact eE
      ·rw [if_neg (by simp_all)] at key
       refine key _ _ _ ⟨rfl, ?_, rfl⟩
       exact eE
   rintro ρ2 M2 G2 ⟨rfl, hq, rfl⟩
   refine JE (G' := (eb0, Cl 121 (Bj (evAt p i))) :: wdG (Cn p fr s i) xb rb wb kb tb (.slice (some ⟨fb, fo, none⟩) fr.length fc) d o n) ?_ hq
   clear hq
   have jI : (Cn p fr s i).Len p.length := Rn bh
   generalize Cn p fr s i = s2 at *
   have eh := jI.r
   have el := jI.w
   have en := jI.k
   have eu := jI.t
   have gU : i < s2.r.length := by omega
   have mW : i < s2.k.length := by omega
   have er : s2.r[i]?.getD 0 = s2.r[i] := by rw [lA2 gU]; rfl
   have ek : s2.k[i]?.getD false = s2.k[i] := by rw [lA2 mW]; rfl
   have e1 : Cz p s2 i = if (evAt p i).op.kind = 1 then { s2 with w := s2.w.set i (evAt p i).op.v, t := s2.t.set i true }
    else if (evAt p i).op.kind = 2 then { s2 with w := s2.w.set i (IntKind.i64.wrap (s2.r[i] + (evAt p i).op.v)), t := s2.t.set i s2.k[i] }
    else if (evAt p i).op.kind = 3 ∨ (evAt p i).op.kind = 4 then { s2 with w := s2.w.set i (evAt p i).op.w, t := s2.t.set i true } else s2 := by simp only [Cz, er, ek]
   rw [e1] at ih3
   clear er ek e1 ii kL oW
   repeat' first | refine st ?_ | (refine EV.reg ?_; (conv => (arg 2; whnf)); (repeat first | refine nx ?_ | simp only [Ap, lA1, eh, el, en, eu, aC])) | (refine cX ?_ ?_ <;> intro h <;> try exact Ah h) | refine ZF ?_ | (refine xiA rfl ?_; (repeat first | refine nx ?_ | simp only [Ap, lA1, eh, el, en, eu, aC])) | (refine xw ?_; (repeat first | refine nx ?_ | simp only [Ap, lA1, eh, el, en, eu, aC])) | fail
   rotate_left
   ·refine EV.any (t := Ag1) [(eb0, Cl 121 (Bj (evAt p i))), (rb, Cl 3 (s2.r.map vi)), (kb, Cl 4 (s2.k.map vb))] eS ?_
    (repeat first | refine nx ?_ | simp only [Ag1])
    repeat' first | refine su ?_ | (refine EV.reg ?_; (conv => (arg 2; whnf)); (repeat first | refine nx ?_ | simp only [Ap, lA1, eh, el, en, eu, aC])) | ((first | refine lAb _ (lAd (Cg (f := vb) (i := i) mW) ?_) | refine lAb _ (lAd (Cg (f := vi) (i := i) gU) ?_) | fail); (repeat first | refine nx ?_ | simp only [Ap, lA1, eh, el, en, eu, aC])) | refine ZF ?_ | (refine xiA rfl ?_; (repeat first | refine nx ?_ | simp only [Ap, lA1, eh, el, en, eu, aC])) | (refine xw ?_; (repeat first | refine nx ?_ | simp only [Ap, lA1, eh, el, en, eu, aC])) | (refine lAd (Aa.le_refl _) (lAd (Ax ?_) ?_); focus ((repeat' first | exact lA0 _ | exact lAe _ | exact lAh _ _ | refine lAg _ ?_ | refine lAo ?_ _ | refine lA9 ?_ | refine lAq _ ?_); done); (repeat first | refine nx ?_ | simp only [Ap, lA1, eh, el, en, eu, aC])) | fail
    rw [if_neg (show ¬ (evAt p i).op.kind = 1 by assumption), if_pos (show (evAt p i).op.kind = 2 by assumption)] at ih3
    refine JE ih3 ?_
    exact eE
   all_goals
    first
     | rw [if_pos (show (evAt p i).op.kind = 1 by assumption)] at ih3
     | rw [if_neg (show ¬ (evAt p i).op.kind = 1 by assumption), if_pos (show (evAt p i).op.kind = 2 by assumption)] at ih3
     | rw [if_neg (show ¬ (evAt p i).op.kind = 1 by assumption), if_neg (show ¬ (evAt p i).op.kind = 2 by assumption), if_pos (show (evAt p i).op.kind = 3 ∨ (evAt p i).op.kind = 4 by omega)] at ih3
     | rw [if_neg (show ¬ (evAt p i).op.kind = 1 by assumption), if_neg (show ¬ (evAt p i).op.kind = 2 by assumption), if_neg (show ¬ ((evAt p i).op.kind = 3 ∨ (evAt p i).op.kind = 4) by omega)] at ih3
    refine JE ih3 ?_
    exact eE
  ·have bo : i = p.length := by omega
   subst bo
   have ih3 := ih (x + 1) (by omega) (by omega)
   simp only [Bk, lp] at ih3
   refine JE ih3 ?_
   exact eE
 ·have bk : x = p.length + 1 := by omega
  subst bk
  have fx := Fu p fr (p.length + 1)
  refine EV.frz (wdG (Bk p fr (p.length + 1)) xb rb wb kb tb (.slice fa fr.length fc) d o n) ?_
  (refine rt Q36_ok ?_; try with_reducible exact ⟨⟩)
  have er := fx.r
  have ew := fx.w
  have ek := fx.k
  refine ⟨Av rb p.length p.length, Av wb p.length p.length, Av kb p.length p.length, rfl, ⟨some ⟨rb, 0, none⟩, p.length, by rw [Aw, er], Or.inr ⟨rb, 0, rfl, ?_⟩⟩, ⟨some ⟨wb, 0, none⟩, p.length, by rw [Aw, ew], Or.inr ⟨wb, 0, rfl, ?_⟩⟩, ⟨some ⟨kb, 0, none⟩, p.length, by rw [Aw, ek], Or.inr ⟨kb, 0, rfl, ?_⟩⟩⟩
  ·exact An 1 rfl (by rw [A0, Aw, lAu, lBr, lAw (by rw [lA1]; exact lA5 _)]) (by rw [lA1, Aw]; omega)
  ·exact An 2 rfl (by rw [A0, Aw, lAu, lBr, lAw (by rw [lA1]; exact lA5 _)]) (by rw [lA1, Aw]; omega)
  ·exact An 3 rfl (by rw [Er, Aw, lAu, lBr, lAw (by rw [lA1]; exact lA5 _)]) (by rw [lA1, Aw]; omega)
end
abbrev vu (n : Nat) : Value := .int .u32 n
abbrev Rel := List Nat
def A6 (r : Rel) (a b : Nat) : Bool := (r[a]?.getD 0).testBit b
def orR (r : Rel) (a m : Nat) : Rel := r.set a (r[a]?.getD 0 ||| m)
def N0 (r : Rel) (a b : Nat) : Rel := orR r a (2 ^ b)
def closeRow (r : Rel) (k : Nat) : Nat → Rel
 | 0 => r
 | a + 1 => if A6 (closeRow r k a) a k then orR (closeRow r k a) a ((closeRow r k a)[k]?.getD 0) else closeRow r k a
def closeGo (r : Rel) : Nat → Rel
 | 0 => r
 | k + 1 => closeRow (closeGo r k) k r.length
def Ca (r : Rel) : Rel := closeGo r r.length
def Be (r : Rel) : Bool := (List.range r.length).any fun a => A6 r a a
structure RelOk (n : Nat) (r : Rel) : Prop where
 len : r.length = n
 lt : ∀ a : Nat, r[a]?.getD 0 < 2 ^ n
theorem RelOk.or {n : Nat} {r : Rel} (h : RelOk n r) (a : Nat) {m : Nat} (hm : m < 2 ^ n) : RelOk n (orR r a m) := by
 refine ⟨by simp [orR, h.len], fun b => ?_⟩
 simp only [orR, List.getElem?_set]
 split
 ·split
  ·simp only [lAn]; exact lCo (h.lt a) hm
  ·simp only [Option.getD_none]; exact lD4 n
 ·exact h.lt b
theorem RelOk.put {n : Nat} {r : Rel} (h : RelOk n r) (a : Nat) {b : Nat} (hb : b < n) : RelOk n (N0 r a b) := h.or a (lBk (by decide) hb)
theorem RelOk.zero (n : Nat) : RelOk n (List.replicate n 0) := by
 refine ⟨by simp, fun a => ?_⟩
 rw [lBy]
 split <;> simp [lD4]
theorem RelOk.closeRow {n : Nat} {r : Rel} (h : RelOk n r) (k : Nat) : ∀ a, RelOk n (closeRow r k a)
 | 0 => h
 | a + 1 => by
  simp only [EV.closeRow]
  split
  ·exact (RelOk.closeRow h k a).or a ((RelOk.closeRow h k a).lt k)
  ·exact RelOk.closeRow h k a
theorem RelOk.closeGo {n : Nat} {r : Rel} (h : RelOk n r) : ∀ k, RelOk n (closeGo r k)
 | 0 => h
 | k + 1 => RelOk.closeRow (RelOk.closeGo h k) k _
theorem RelOk.close {n : Nat} {r : Rel} (h : RelOk n r) : RelOk n (Ca r) := RelOk.closeGo h _
theorem Ah7 {x : Nat} (h : x < 2 ^ 32) : BitVec.ofInt IntKind.u32.bits (x : Int) = (BitVec.ofNat 32 x : BitVec IntKind.u32.bits) := lFe 32 x
theorem Sx {x : Nat} (h : x < 2 ^ 32) : IntKind.u32.wrap (x : Int) = x := by
 have e : (2 : Int) ^ IntKind.u32.bits = 4294967296 := rfl
 have e3 : IntKind.u32.signed = false := rfl
 have h' : x < 4294967296 := h
 simp only [IntKind.wrap, e, e3, lCc]
 simp only [lC8, if_false]
 omega
theorem Rp {x y : Nat} (hx : x < 2 ^ 32) (hy : y < 2 ^ 32) : IntKind.u32.wrap ((BitVec.ofInt IntKind.u32.bits (x : Int) ||| BitVec.ofInt IntKind.u32.bits (y : Int)).toNat : Int) = ((x ||| y : Nat) : Int) := by
 rw [Ah7 hx, Ah7 hy]
 have e : (BitVec.ofNat 32 x ||| BitVec.ofNat 32 y).toNat = x ||| y := by
  rw [BitVec.toNat_or, lD5, lD5, lCh hx, lCh hy]
 show IntKind.u32.wrap ((BitVec.ofNat 32 x ||| BitVec.ofNat 32 y).toNat : Int) = _
 rw [e]
 exact Sx (lCo hx hy)
theorem Dk {b : Nat} (hb : b < 32) : IntKind.u32.wrap (1 * 2 ^ min b IntKind.u32.bits) = ((2 ^ b : Nat) : Int) := by
 rw [show IntKind.u32.bits = 32 from rfl, lC0 (by omega), Int.one_mul]
 rw [show ((2 : Int) ^ b) = ((2 ^ b : Nat) : Int) from by simp]
 exact Sx (lBk (by decide) hb)
theorem J7 {x b : Nat} (hx : x < 2 ^ 32) (hb : b < 32) : IntKind.u32.wrap ((BitVec.ofInt IntKind.u32.bits (x : Int) ||| BitVec.ofInt IntKind.u32.bits (2 ^ b)).toNat : Int) = ((x ||| 2 ^ b : Nat) : Int) := by
 have := Rp (y := 2 ^ b) hx (lBk (by decide) hb)
 rwa [show ((2 ^ b : Nat) : Int) = 2 ^ b from by simp] at this
theorem Ah8 {x b : Nat} (hx : x < 2 ^ 32) (hb : b < 32) : decide (IntKind.u32.wrap ((BitVec.ofInt IntKind.u32.bits ((x : Int).fdiv (2 ^ min b IntKind.u32.bits)) &&& BitVec.ofInt IntKind.u32.bits 1).toNat : Int) = 1) = x.testBit b := by
 have e0 : min b IntKind.u32.bits = b := lC0 (show b ≤ 32 by omega)
 rw [e0]
 have e1 : (x : Int).fdiv (2 ^ b) = ((x / 2 ^ b : Nat) : Int) := by
  rw [lDs _ (by exact_mod_cast lA8 _)]; simp
 have hd : x / 2 ^ b < 2 ^ 32 := lEg (lFi _ _) hx
 rw [e1, Ah7 hd]
 have e : (BitVec.ofNat 32 (x / 2 ^ b) &&& BitVec.ofInt 32 1).toNat = (x / 2 ^ b) % 2 := by
  rw [lFc, lD5, lCh hd]
  show (x / 2 ^ b) &&& 1 = _
  exact lEx _
 show decide (IntKind.u32.wrap ((BitVec.ofNat 32 (x / 2 ^ b) &&& BitVec.ofInt 32 1).toNat : Int) = 1) = _
 rw [e, Sx (by omega)]
 rw [lE2]
 simp only [decide_eq_decide]
 omega
section
variable {M : Aa}
theorem K1 (s : Value) (p : List Ev) (hs : Sl M 6 Bj s p) (hb : p.length ≤ 32) : Con Tryz.prog 136 #[s] M [] fun v _ G' => ∃ b, v = Av b p.length p.length ∧ G' = [(b, Cl 144 ((List.replicate p.length 0).map vu))] := by
 obtain ⟨a, c, rfl, aH⟩ := hs
 refine Con.enter Q33_ok (args := [.slice a p.length c]) (by simp [Q33]) fun w0 => ?_
 simp only [Q33, A9]
 repeat' first | refine st ?_ | (refine EV.reg ?_; (conv => (arg 2; whnf)); (repeat first | refine nx ?_ | simp only [Ba])) | (with_reducible intro b; (repeat first | refine nx ?_ | simp only [Ba])) | refine ZF ?_ | fail
 (refine rt Q33_ok ?_; try with_reducible exact ⟨⟩)
 exact ⟨b, rfl, by simp⟩
theorem N9 {b n a j c x : Nat} (h : rd M b a 1 [vu x]) (ha : a < n) (hn : n < 1000000) (hj : j < 32) (hx : x < 2 ^ 32) : Aq Tryz.prog 68 #[Av b n c, vi a, vi j] M (vb (x.testBit j)) := by
 refine Con.enter Q41_ok (args := [Av b n c, vi a, vi j]) (by simp [Q41]) fun w0 => ?_
 simp only [Q41, A9]
 have aW : (a : Int) < n := by omega
 have jJ : ¬ ((j : Int) < 0) := by omega
 repeat' first | refine st ?_ | (refine EV.reg ?_; (conv => (arg 2; whnf)); (repeat first | refine nx ?_ | simp only [jJ])) | (refine EV.ret Q41_ok ?_; (repeat first | refine nx ?_ | simp only [jJ, Q41])) | refine ZF ?_ | (refine xm ?_; (repeat first | refine nx ?_ | simp only [jJ])) | fail
 rw [Ah8 hx hj]
theorem Ao8 {b n a j c : Nat} {r : Rel} (hr : RelOk n r) (hn : n ≤ 32) (ha : a < n) (hj : j < n) : Con Tryz.prog 121 #[Av b n c, vi a, vi j] M [(b, Cl 144 (r.map vu))] fun _ _ G' => G' = [(b, Cl 144 ((N0 r a j).map vu))] := by
 refine Con.enter Q42_ok (args := [Av b n c, vi a, vi j]) (by simp [Q42]) fun w0 => ?_
 simp only [Q42, A9]
 have aW : (a : Int) < n := by omega
 have jJ : ¬ ((j : Int) < 0) := by omega
 have dA : a < r.length := by rw [hr.len]; exact ha
 have hx : r[a] < 2 ^ 32 := by
  have := hr.lt a
  rw [lA2 dA] at this
  exact lAx this (lCg (by decide) hn)
 have h2 : 2 ^ j < 2 ^ 32 := lBk (by decide) (by omega)
 repeat' first | (refine EV.any _ (lA0 _) ?_; (conv => (arg 2; whnf)); (repeat first | refine nx ?_ | simp only [jJ, Ap, dA, ha, lA1, hr.len, Dk (show j < 32 by omega), J7 hx (show j < 32 by omega)])) | (refine lAb _ (lAd (Cg (f := vu) dA) ?_); (repeat first | refine nx ?_ | simp only [jJ, Ap, dA, ha, lA1, hr.len, Dk (show j < 32 by omega), J7 hx (show j < 32 by omega)])) | refine ZF ?_ | (refine xw ?_; (repeat first | refine nx ?_ | simp only [jJ, Ap, dA, ha, lA1, hr.len, Dk (show j < 32 by omega), J7 hx (show j < 32 by omega)])) | fail
 refine EV.done Q42_ok ?_
 (repeat first | refine nx ?_ | simp only [Q42])
 simp only [N0, orR, lA2 dA, lAn]
theorem Hl {b n c : Nat} {a j : Int} {r : Rel} (hr : RelOk n r) (hn : n ≤ 32) (tv : 0 ≤ a) (ha : a < n) (sN : 0 ≤ j) (hj : j < n) : Con Tryz.prog 121 #[Av b n c, vi a, vi j] M [(b, Cl 144 (r.map vu))] fun _ _ G' => G' = [(b, Cl 144 ((N0 r a.toNat j.toNat).map vu))] := by
 obtain ⟨a', rfl⟩ := lEb tv
 obtain ⟨j', rfl⟩ := lEb sN
 simp only [lAy]
 exact Ao8 hr hn (by omega) (by omega)
theorem RelOk.at {n : Nat} {r : Rel} (h : RelOk n r) (hn : n ≤ 32) (a : Nat) : r[a]?.getD 0 < 2 ^ 32 := lAx (h.lt a) (lCg (by decide) hn)
theorem RelOk.get {n : Nat} {r : Rel} (h : RelOk n r) {a : Nat} (ha : a < n) : ∃ h' : a < r.length, r[a]?.getD 0 = r[a] := by
 have h' : a < r.length := by rw [h.len]; exact ha
 exact ⟨h', by rw [lA2 h']; rfl⟩
theorem Ly {b n c : Nat} {r : Rel} (hr : RelOk n r) (hn : n ≤ 32) : Con Tryz.prog 106 #[Av b n c] M [(b, Cl 144 (r.map vu))] fun v _ G' => v = Av b n c ∧ G' = [(b, Cl 144 ((Ca r).map vu))] := by
 refine Con.enter Q40_ok (args := [Av b n c]) (by simp [Q40]) fun w0 => ?_
 simp only [Q40, A9]
 repeat' first | refine st ?_ | refine rg ?_ | exact ⟨⟩ | fail
 refine JC (fun k : Nat => ([(0, Av b n c), (6, vi n), (7, vi k)], M, [(b, Cl 144 ((closeGo r k).map vu))])) (fun k => k ≤ n) (fun k => n - k) 0 rfl (lA8 _) ?env1 (lA0 _) ?_
 case env1 =>
  exact eE
 intro k hk ih
 dsimp only at hk ih ⊢
 have mX := RelOk.closeGo hr k
 repeat' first | refine st ?_ | refine rg ?_ | (refine cX ?_ ?_ <;> intro h <;> try exact Ah h) | exact ⟨⟩ | fail
 ·refine JC (fun a : Nat => ([(0, Av b n c), (3, vi k), (6, vi n), (7, vi k), (11, vi n), (12, vi a)], M, [(b, Cl 144 ((closeRow (closeGo r k) k a).map vu))])) (fun a => a ≤ n) (fun a => n - a) 0 rfl (lA8 _) ?env2 (lA0 _) ?_
  case env2 =>
   exact eE
  intro a ha ih2
  dsimp only at ha ih2 ⊢
  have lr := RelOk.closeRow mX k a
  repeat' first | refine st ?_ | refine rg ?_ | (refine cX ?_ ?_ <;> intro h <;> try exact Ah h) | exact ⟨⟩ | fail
  ·have aW : a < n := by omega
   have af : k < n := by omega
   have ih3 := ih2 (a + 1) (by omega) (by omega)
   have hs : closeRow (closeGo r k) k (a + 1) = if A6 (closeRow (closeGo r k) k a) a k then orR (closeRow (closeGo r k) k a) a ((closeRow (closeGo r k) k a)[k]?.getD 0) else closeRow (closeGo r k) k a := rfl
   rw [hs] at ih3
   clear hs ih ih2
   generalize closeRow (closeGo r k) k a = q at *
   obtain ⟨dA, ea⟩ := lr.get aW
   obtain ⟨gm, ek⟩ := lr.get af
   have dT := lr.at (by omega) a
   have gn := lr.at (by omega) k
   simp only [A6, orR, ea, ek] at ih3 dT gn
   have k5 := lr.len
   repeat' first | refine su ?_ | ((first | refine EV.reg ?_ | refine EV.any _ (lA0 _) ?_ | fail); (conv => (arg 2; whnf)); (repeat first | refine nx ?_ | simp only [Ap, aW, lA1, Rp dT gn, k5])) | ((first | refine lAb _ (lAd (Cg (f := vu) gm) ?_) | refine lAb _ (lAd (Cg (f := vu) dA) ?_) | refine Aq.call (N9 (j := k) (Cg (f := vu) dA) aW (by omega) (by omega) dT) ?_ | fail); (repeat first | refine nx ?_ | simp only [Ap, aW, lA1, Rp dT gn, k5])) | (refine cX ?_ ?_ <;> intro h <;> try exact Ah h) | refine ZF ?_ | (refine xw ?_; (repeat first | refine nx ?_ | simp only [Ap, aW, lA1, Rp dT gn, k5])) | fail
   ·rw [if_pos (by assumption)] at ih3
    refine JE ih3 ?_
    exact eE
   ·rw [if_neg (by simp_all)] at ih3
    refine JE ih3 ?_
    exact eE
  ·have bo : a = n := by omega
   subst bo
   have ih3 := ih (k + 1) (by omega) (by omega)
   have e : closeGo r (k + 1) = closeRow (closeGo r k) k a := by rw [closeGo, hr.len]
   rw [e] at ih3
   refine JE ih3 ?_
   exact eE
 ·have bo : k = n := by omega
  subst bo
  (refine rt Q40_ok ?_; try with_reducible exact ⟨⟩)
  simp only [Ca, hr.len]
theorem Ul {r : Rel} {i : Nat} (h : ∀ a, a < i → A6 r a a = false) (hi : r.length ≤ i) : Be r = false := by
 simp only [Be, lF5, lAl]
 intro a ha
 rw [h a (by omega)]; simp
theorem Oz {b n c : Nat} {r : Rel} (hr : RelOk n r) (hn : n ≤ 32) (tw : rd M b 0 n (r.map vu)) : Aq Tryz.prog 122 #[Av b n c] M (vb (Be r)) := by
 refine Con.enter Q39_ok (args := [Av b n c]) (by simp [Q39]) fun w0 => ?_
 simp only [Q39, A9]
 repeat' first | refine st ?_ | refine rg ?_ | exact ⟨⟩ | fail
 refine JC (fun k : Nat => ([(0, Av b n c), (5, vi n), (6, vi k)], M, [])) (fun k => k ≤ n ∧ ∀ a, a < k → A6 r a a = false) (fun k => n - k) 0 rfl ⟨lA8 _, fun a ha => absurd ha (lBn _)⟩ ?env1 (lA0 _) ?_
 case env1 =>
  exact eE
 rintro k ⟨hk, aI⟩ ih
 dsimp only at hk aI ih ⊢
 repeat' first | refine st ?_ | refine rg ?_ | (refine cX ?_ ?_ <;> intro h <;> try exact Ah h) | exact ⟨⟩ | fail
 ·have af : k < n := by omega
  obtain ⟨gm, ek⟩ := hr.get af
  have gn := hr.at (by omega) k
  have hq : rd M b k 1 [vu r[k]] := by
   have := tw.pt k 1 (by omega) (K0 vu r gm)
   rwa [lBi] at this
  rw [ek] at gn
  repeat' first | refine st ?_ | refine rg ?_ | (refine Aq.call (N9 (j := k) (Aw8 hq) af (by omega) (by omega) gn) ?_; try refine nx ?_) | (refine cX ?_ ?_ <;> intro h <;> try exact Ah h) | exact ⟨⟩ | fail
  ·(refine rt Q39_ok ?_; try with_reducible exact ⟨⟩)
   have : Be r = true := by
    simp only [Be, lBx, lAl]
    exact ⟨k, gm, by simp only [A6, ek]; assumption⟩
   rw [this]
  ·refine JE (ih (k + 1) ⟨by omega, fun a ha => ?_⟩ (by omega)) ?_
   ·by_cases e : a = k
    ·subst e; simp only [A6, ek]; assumption
    ·exact aI a (by omega)
   ·exact eE
 ·(refine rt Q39_ok ?_; try with_reducible exact ⟨⟩)
  rw [Ul aI (by rw [hr.len]; omega)]
end
def Aa4 (p : List Ev) : Prop := ∀ i, i < p.length → B3 (evAt p i).op.ord = true
def Fl (p : List Ev) (w : Nat) : Nat → Nat → Nat
 | 0, s => s
 | a + 1, s => if (evAt p a).th = (evAt p w).th then Fl p w a (if (evAt p a).op.kind = 5 ∧ (evAt p a).rel = true then s ||| 2 ^ a else s) else s
def F0 (p : List Ev) (w : Nat) : Nat := Fl p w w (if (evAt p w).rel then 2 ^ w else 0)
def K2 (p : List Ev) (r : Nat) : Nat → Nat → Nat → Nat
 | 0, _, s => s
 | f + 1, b, s => if (evAt p b).th = (evAt p r).th then K2 p r f (b + 1) (if (evAt p b).op.kind = 5 ∧ (evAt p b).acq = true then s ||| 2 ^ b else s) else s
def J8 (p : List Ev) (r : Nat) : Nat := K2 p r (p.length - (r + 1)) (r + 1) (if (evAt p r).acq then 2 ^ r else 0)
theorem O0 {p : List Ev} {w n : Nat} : ∀ (a s : Nat), a ≤ n → s < 2 ^ n → Fl p w a s < 2 ^ n
 | 0, s, _, h => h
 | a + 1, s, ha, h => by
  simp only [Fl]
  split
  ·refine O0 a _ (by omega) ?_
   split
   ·exact lCo h (lBk (by decide) (by omega))
   ·exact h
  ·exact h
theorem Rq {p : List Ev} {w : Nat} (hw : w < p.length) : F0 p w < 2 ^ p.length := by
 refine O0 _ _ (by omega) ?_
 split
 ·exact lBk (by decide) hw
 ·exact lD4 _
theorem Um {p : List Ev} {r n : Nat} : ∀ (f b s : Nat), b + f ≤ n → s < 2 ^ n → K2 p r f b s < 2 ^ n
 | 0, _, s, _, h => h
 | f + 1, b, s, hb, h => by
  simp only [K2]
  split
  ·refine Um f _ _ (by omega) ?_
   split
   ·exact lCo h (lBk (by decide) (by omega))
   ·exact h
  ·exact h
theorem Yk {p : List Ev} {r : Nat} (hr : r < p.length) : J8 p r < 2 ^ p.length := by
 refine Um _ _ _ (by omega) ?_
 split
 ·exact lBk (by decide) hr
 ·exact lD4 _
theorem Aa5 {s n : Nat} (h : s < 2 ^ n) (hn : n ≤ 32) : s < 2 ^ 32 := lAx h (lCg (by decide) hn)
def Dr (p : List Ev) : Nat → Rel
 | 0 => List.replicate p.length 0
 | i + 1 => if (evAt p (i + 1)).th = (evAt p i).th then N0 (Dr p i) i (i + 1) else Dr p i
def Ij (r : Rel) (fen : List Int) : Nat → Rel
 | 0 => r
 | k + 1 => N0 (Ij r fen k) (fen[k]?.getD 0).toNat (fen[k + 1]?.getD 0).toNat
def Ix (p : List Ev) (fen : List Int) : Rel := Ij (Dr p (p.length - 1)) fen (fen.length - 1)
def Iy (p : List Ev) (l : List Int) : Prop := ∀ x ∈ l, 0 ≤ x ∧ x < p.length
theorem Iy.at {p : List Ev} {l : List Int} (h : Iy p l) {k : Nat} (hk : k < l.length) : 0 ≤ l[k]?.getD 0 ∧ l[k]?.getD 0 < p.length := by
 rw [lA2 hk]; exact h _ (lAm hk)
theorem stepsA_ok (p : List Ev) : ∀ i, i ≤ p.length - 1 → RelOk p.length (Dr p i)
 | 0, _ => RelOk.zero _
 | i + 1, h => by
  simp only [Dr]
  split
  ·exact (stepsA_ok p i (by omega)).put i (by omega)
  ·exact stepsA_ok p i (by omega)
theorem stepsB_ok {p : List Ev} {r : Rel} (hr : RelOk p.length r) {fen : List Int} (hf : Iy p fen) : ∀ k, k ≤ fen.length - 1 → RelOk p.length (Ij r fen k)
 | 0, _ => hr
 | k + 1, h => by
  have := hf.at (k := k + 1) (by omega)
  exact (stepsB_ok hr hf k (by omega)).put _ (by omega)
theorem stepsP_ok {p : List Ev} {fen : List Int} (hf : Iy p fen) : RelOk p.length (Ix p fen) := stepsB_ok (stepsA_ok p _ (lA5 _)) hf _ (lA5 _)
section
variable {M : Aa}
theorem Ql (p : List Ev) (s : Value) (hs : Sl M 6 Bj s p) (hb : p.length < 1000000) (f d o n : Value) (dn : List Bool) (hd : Sl M 1 eb d dn) (w : Nat) (hw : w < p.length) (hl : dn.length = p.length) :
  Aq Tryz.prog 104 #[s, .agg #[f, d, o, n], vi w] M (vb ((evAt p w).reads && (dn[w]?.getD false))) := by
 obtain ⟨a, c, rfl, aH⟩ := hs
 obtain ⟨da, dc, rfl, d4⟩ := hd
 obtain ⟨pb, po, rfl, hat⟩ := Sl.at (enc := Bj) (fun _ => rfl) (by decide) aH (by omega)
 obtain ⟨db, do', rfl, aN⟩ := Sl.at (sz := 1) (enc := eb) (fun _ => rfl) (by decide) d4 (by omega)
 have k8 := JJ hat w hw
 have pZ : rd M db (do' + w) 1 [vb (dn[w]?.getD false)] := by
  have := aN w (by omega)
  rw [lAu] at this
  rwa [lA2 (by omega : w < dn.length)]
 have aV : (w : Int) < p.length := by omega
 have dO : (w : Int) < dn.length := by omega
 refine Con.enter Q17_ok (args := [.slice (some ⟨pb, po, none⟩) p.length c, .agg #[f, .slice (some ⟨db, do', none⟩) dn.length dc, o, n], vi w]) (by simp [Q17]) fun w0 => ?_
 simp only [Q17, A9]
 repeat' first | refine st ?_ | refine rg ?_ | (refine Aq.call (Ci (evAt p w)) ?_; try refine nx ?_) | with_reducible assumption | (refine JD ?_ (fun hc K' hK => ?_) ?_; rotate_left) | refine rt Q17_ok ?_ | (with_reducible intro b; try refine nx ?_) | refine ZF ?_ | ((first | refine xm ?_ | refine xsA rfl ?_ | fail); try refine nx ?_) | exact ⟨⟩ | fail
 all_goals simp_all
theorem W2 (p : List Ev) (s : Value) (hs : Sl M 6 Bj s p) (hb : p.length ≤ 32) (ho : Aa4 p) (w : Nat) (hw : w < p.length) :
  Aq Tryz.prog 103 #[s, vi w] M (vu (F0 p w)) := by
 obtain ⟨a, c, rfl, aH⟩ := hs
 obtain ⟨pb, po, rfl, hat⟩ := Sl.at (enc := Bj) (fun _ => rfl) (by decide) aH (by omega)
 have hat := JJ hat
 have k8 := hat w hw
 have p2 := k8.pt 5 1 (by omega) rfl
 have aV : (w : Int) < p.length := by omega
 have cl : ¬ ((w : Int) < 0) := by omega
 refine Con.enter Q34_ok (args := [.slice (some ⟨pb, po, none⟩) p.length c, vi w]) (by simp [Q34]) fun w0 => ?_
 simp only [Q34, A9]
 refine EV.seq (EV.reg ?_)
 (repeat first | refine nx ?_ | simp only [Cs6])
 refine EV.seq (EV.reg ?_)
 (repeat first | refine nx ?_ | simp only [Cs7])
 refine EV.seq (JI (fun ρ' M' G' => M' = M ∧ (∀ q ∈ [(0, .slice (some ⟨pb, po, none⟩) p.length c), (1, vi w), (5, vu (if (evAt p w).rel then 2 ^ w else 0))], get ρ' q.1 = some q.2) ∧ G' = []) ?_ ?_)
 ·intro k' key
  have h0 : IntKind.u32.wrap ((BitVec.ofInt IntKind.u32.bits (0 : Int) ||| BitVec.ofInt IntKind.u32.bits (2 ^ w)).toNat : Int) = ((2 ^ w : Nat) : Int) := by
   have := J7 (x := 0) (b := w) (by decide) (by omega)
   simpa using this
  repeat' first | refine st ?_ | (refine EV.reg ?_; (conv => (arg 2; whnf)); (repeat first | refine nx ?_ | simp only [cl, Dk (show w < 32 by omega), h0])) | (refine Aq.call (Yi (evAt p w) (ho w hw)) ?_; (repeat first | refine nx ?_ | simp only [cl, Dk (show w < 32 by omega), h0])) | (refine cX ?_ ?_ <;> intro h <;> try exact Ah h) | refine ZF ?_ | (refine xm ?_; (repeat first | refine nx ?_ | simp only [cl, Dk (show w < 32 by omega), h0])) | fail
  all_goals
   refine key _ _ _ ⟨rfl, ?_, rfl⟩
   simp only [*, lC8, if_true, if_false]
   exact eE
 rintro ρ2 M2 G2 ⟨rfl, hq, rfl⟩
 refine JA (G' := []) ?_ hq (lA0 _)
 clear hq
 generalize aM : (if (evAt p w).rel then 2 ^ w else 0) = s0
 have k9 : s0 < 2 ^ p.length := by
  rw [← aM]; split
  ·exact lBk (by decide) hw
  ·exact lD4 _
 have fy : IntKind.i64.wrap ((w : Int) - 1) = (w : Int) - 1 := w64 (by omega) (by omega)
 repeat' first | refine st ?_ | (refine EV.reg ?_; (conv => (arg 2; whnf)); (repeat first | refine nx ?_ | simp only [fy])) | fail
 refine JC (fun x : Nat × Nat => ([(0, .slice (some ⟨pb, po, none⟩) p.length c), (1, vi w), (5, vu x.2), (6, vi ((x.1 : Int) - 1))], M2, [])) (fun x => x.1 ≤ w ∧ x.2 < 2 ^ p.length ∧ Fl p w x.1 x.2 = F0 p w) (fun x => x.1) (w, s0) rfl ⟨lA5 _, k9, by rw [← aM]; rfl⟩ ?env1 (lA0 _) ?_
 case env1 =>
  exact eE
 rintro ⟨x, s⟩ ⟨hx, ak, aa⟩ ih
 dsimp only at hx ak aa ih ⊢
 cases x with
 | zero =>
  have e0 : decide (0 ≤ ((0 : Nat) : Int) - 1) = false := by decide
  repeat' first | refine st ?_ | ((first | refine EV.reg ?_ | refine EV.any _ (lA0 _) ?_ | fail); (conv => (arg 2; whnf)); (repeat first | refine nx ?_ | simp only [e0])) | (refine JT ?_ (fun hc => ?_) ?_; rotate_left; (try simp only [decide_eq_true_eq, decide_eq_false_iff_not, lB6, lCe, lA6, lAr, lBj, lBq] at hc)) | (refine cX ?_ ?_ <;> intro h <;> try exact Ah h) | refine ZF ?_ | (exfalso; simp at hc; done) | exact false | fail
  (refine rt Q34_ok ?_; try with_reducible exact ⟨⟩)
  rw [← aa]; rfl
 | succ a =>
  have ea : ((a + 1 : Nat) : Int) - 1 = a := by omega
  have cp : decide ((a : Int) ≥ 0) = true := by simp
  have kd : decide (0 ≤ (a : Int)) = true := by simp
  have ez := hat a (by omega)
  have p4 := ez.pt 5 1 (by omega) rfl
  have ke := ez.pt 0 1 (by omega) rfl
  have tx : (a : Int) < p.length := by omega
  have cm : ¬ ((a : Int) < 0) := by omega
  have ew : IntKind.i64.wrap ((a : Int) - 1) = (a : Int) - 1 := w64 (by omega) (by omega)
  have am := J7 (x := s) (b := a) (Aa5 ak hb) (by omega)
  rw [ea]
  simp only [Fl] at aa
  repeat' first | refine st ?_ | ((first | refine EV.reg ?_ | refine EV.any _ (lA0 _) ?_ | fail); (conv => (arg 2; whnf)); (repeat first | refine nx ?_ | simp only [cp, kd, cm, Dk (show a < 32 by omega), am, ew])) | (refine Aq.call (Yi (evAt p a) (ho a (by omega))) ?_; (repeat first | refine nx ?_ | simp only [cp, kd, cm, Dk (show a < 32 by omega), am, ew])) | with_reducible assumption | (refine JD ?_ (fun hc K' hK => ?_) ?_; rotate_left) | (refine JT ?_ (fun hc => ?_) ?_; rotate_left; (try simp only [decide_eq_true_eq, decide_eq_false_iff_not, lB6, lCe, lA6, lAr, lBj, lBq] at hc)) | (with_reducible rfl) | (refine cX ?_ ?_ <;> intro h <;> try exact Ah h) | refine ZF ?_ | (refine xm ?_; (repeat first | refine nx ?_ | simp only [cp, kd, cm, Dk (show a < 32 by omega), am, ew])) | fail
  ·rw [if_pos (by simp_all), if_pos (by simp_all)] at aa
   refine JA (ih (a, s ||| 2 ^ a) ⟨by dsimp only; omega, lCo ak (lBk (by decide) (by omega)), aa⟩ (by dsimp only; omega)) ?_ (lA0 _)
   exact eE
  ·rw [if_pos (by simp_all), if_neg (by grind)] at aa
   refine JA (ih (a, s) ⟨by dsimp only; omega, ak, aa⟩ (by dsimp only; omega)) ?_ (lA0 _)
   exact eE
  ·rw [if_neg (by simp_all)] at aa
   (refine rt Q34_ok ?_; try with_reducible exact ⟨⟩)
   rw [← aa]
theorem Ah9 (p : List Ev) (s : Value) (hs : Sl M 6 Bj s p) (hb : p.length ≤ 32) (ho : Aa4 p) (w : Nat) (hw : w < p.length) :
  Aq Tryz.prog 105 #[s, vi w] M (vu (J8 p w)) := by
 obtain ⟨a, c, rfl, aH⟩ := hs
 obtain ⟨pb, po, rfl, hat⟩ := Sl.at (enc := Bj) (fun _ => rfl) (by decide) aH (by omega)
 have hat := JJ hat
 have k8 := hat w hw
 have p2 := k8.pt 5 1 (by omega) rfl
 have aV : (w : Int) < p.length := by omega
 have cl : ¬ ((w : Int) < 0) := by omega
 refine Con.enter Q16_ok (args := [.slice (some ⟨pb, po, none⟩) p.length c, vi w]) (by simp [Q16]) fun w0 => ?_
 simp only [Q16, A9]
 refine EV.seq (EV.reg ?_)
 (repeat first | refine nx ?_ | simp only [Cs9])
 refine EV.seq (EV.reg ?_)
 (repeat first | refine nx ?_ | simp only [Ct0])
 refine EV.seq (JI (fun ρ' M' G' => M' = M ∧ (∀ q ∈ [(0, .slice (some ⟨pb, po, none⟩) p.length c), (1, vi w), (5, vu (if (evAt p w).acq then 2 ^ w else 0))], get ρ' q.1 = some q.2) ∧ G' = []) ?_ ?_)
 ·intro k' key
  have h0 : IntKind.u32.wrap ((BitVec.ofInt IntKind.u32.bits (0 : Int) ||| BitVec.ofInt IntKind.u32.bits (2 ^ w)).toNat : Int) = ((2 ^ w : Nat) : Int) := by
   have := J7 (x := 0) (b := w) (by decide) (by omega)
   simpa using this
  repeat' first | refine st ?_ | (refine EV.reg ?_; (conv => (arg 2; whnf)); (repeat first | refine nx ?_ | simp only [cl, Dk (show w < 32 by omega), h0])) | (refine Aq.call (Yh (evAt p w) (ho w hw)) ?_; (repeat first | refine nx ?_ | simp only [cl, Dk (show w < 32 by omega), h0])) | (refine cX ?_ ?_ <;> intro h <;> try exact Ah h) | refine ZF ?_ | (refine xm ?_; (repeat first | refine nx ?_ | simp only [cl, Dk (show w < 32 by omega), h0])) | fail
  all_goals
   refine key _ _ _ ⟨rfl, ?_, rfl⟩
   simp only [*, lC8, if_true, if_false]
   exact eE
 rintro ρ2 M2 G2 ⟨rfl, hq, rfl⟩
 refine JA (G' := []) ?_ hq (lA0 _)
 clear hq
 generalize aM : (if (evAt p w).acq then 2 ^ w else 0) = s0
 have k9 : s0 < 2 ^ p.length := by
  rw [← aM]; split
  ·exact lBk (by decide) hw
  ·exact lD4 _
 have fy : IntKind.i64.wrap ((w : Int) + 1) = ((w + 1 : Nat) : Int) := w64 (by omega) (by omega)
 repeat' first | refine st ?_ | refine rg ?_ | exact ⟨⟩ | fail
 rw [fy]
 refine JC (fun x : Nat × Nat => ([(0, .slice (some ⟨pb, po, none⟩) p.length c), (1, vi w), (5, vu x.2), (6, vi x.1)], M2, [])) (fun x => x.1 ≤ p.length ∧ x.2 < 2 ^ p.length ∧ K2 p w (p.length - x.1) x.1 x.2 = J8 p w) (fun x => p.length - x.1) (w + 1, s0) rfl ⟨hw, k9, by rw [← aM]; rfl⟩ ?env1 (lA0 _) ?_
 case env1 =>
  exact eE
 rintro ⟨a, s⟩ ⟨hx, ak, aa⟩ ih
 dsimp only at hx ak aa ih ⊢
 by_cases ha : a < p.length
 ·have aU : decide ((a : Int) < p.length) = true := by simpa using ha
  have ez := hat a (by omega)
  have p4 := ez.pt 5 1 (by omega) rfl
  have ke := ez.pt 0 1 (by omega) rfl
  have tx : (a : Int) < p.length := by omega
  have cm : ¬ ((a : Int) < 0) := by omega
  have am := J7 (x := s) (b := a) (Aa5 ak hb) (by omega)
  have ef : p.length - a = (p.length - (a + 1)) + 1 := by omega
  rw [ef] at aa
  simp only [K2] at aa
  repeat' first | refine st ?_ | ((first | refine EV.reg ?_ | refine EV.any _ (lA0 _) ?_ | fail); (conv => (arg 2; whnf)); (repeat first | refine nx ?_ | simp only [aU, cm, Dk (show a < 32 by omega), am])) | (refine Aq.call (Yh (evAt p a) (ho a (by omega))) ?_; (repeat first | refine nx ?_ | simp only [aU, cm, Dk (show a < 32 by omega), am])) | with_reducible assumption | (refine JD ?_ (fun hc K' hK => ?_) ?_; rotate_left) | (refine JT ?_ (fun hc => ?_) ?_; rotate_left; (try simp only [decide_eq_true_eq, decide_eq_false_iff_not, lB6, lCe, lA6, lAr, lBj, lBq] at hc)) | (with_reducible rfl) | (refine cX ?_ ?_ <;> intro h <;> try exact Ah h) | refine ZF ?_ | (refine xm ?_; (repeat first | refine nx ?_ | simp only [aU, cm, Dk (show a < 32 by omega), am])) | fail
  ·rw [if_pos (by simp_all), if_pos (by simp_all)] at aa
   refine JA (ih (a + 1, s ||| 2 ^ a) ⟨by dsimp only; omega, lCo ak (lBk (by decide) (by omega)), aa⟩ (by dsimp only; omega)) ?_ (lA0 _)
   exact eE
  ·rw [if_pos (by simp_all), if_neg (by grind)] at aa
   refine JA (ih (a + 1, s) ⟨by dsimp only; omega, ak, aa⟩ (by dsimp only; omega)) ?_ (lA0 _)
   exact eE
  ·rw [if_neg (by simp_all)] at aa
   (refine rt Q16_ok ?_; try with_reducible exact ⟨⟩)
   rw [← aa]
 ·have e0 : decide ((a : Int) < p.length) = false := by simp; omega
  have ea : p.length - a = 0 := by omega
  rw [ea] at aa
  repeat' first | refine st ?_ | ((first | refine EV.reg ?_ | refine EV.any _ (lA0 _) ?_ | fail); (conv => (arg 2; whnf)); (repeat first | refine nx ?_ | simp only [e0])) | (refine JT ?_ (fun hc => ?_) ?_; rotate_left; (try simp only [decide_eq_true_eq, decide_eq_false_iff_not, lB6, lCe, lA6, lAr, lBj, lBq] at hc)) | (refine cX ?_ ?_ <;> intro h <;> try exact Ah h) | refine ZF ?_ | (exfalso; simp at hc; done) | exact false | fail
  (refine rt Q16_ok ?_; try with_reducible exact ⟨⟩)
  rw [← aa]; rfl
theorem Rr (p : List Ev) (s : Value) (hs : Sl M 6 Bj s p) (hb : p.length ≤ 32) (f d o n : Value) (fen : List Int) (hn : Sl M 1 ei n fen) (hin : Iy p fen) (aj : fen.length < 1000000) :
  Con Tryz.prog 102 #[s, .agg #[f, d, o, n]] M [] fun v _ G' => ∃ b, v = Av b p.length p.length ∧ G' = [(b, Cl 144 ((Ix p fen).map vu))] := by
 have aM := hs
 obtain ⟨a, c, rfl, aH⟩ := hs
 obtain ⟨na, nc, rfl, kf⟩ := hn
 refine Con.enter Q35_ok (args := [.slice a p.length c, .agg #[f, d, o, .slice na fen.length nc]]) (by simp [Q35]) fun w0 => ?_
 simp only [Q35, A9]
 repeat' first | refine st ?_ | refine rg ?_ | (with_reducible intro b; try refine nx ?_) | exact ⟨⟩ | fail
 rename Nat => xb
 refine Con.callB (G1 := []) (K1 _ p (aM.mono (JB _ _)) hb) (Aa.le_refl _) (lAf _) ?_
 rintro v M' G' ⟨rb, rfl, rfl⟩
 (refine nx ?_; try with_reducible exact ⟨⟩)
 repeat' first | refine st ?_ | refine rg ?_ | exact ⟨⟩ | fail
 refine JC (fun x : Nat => ([(0, .slice a p.length c), (3, pv xb 0), (5, Av rb p.length p.length), (6, vi ((x : Int) + 1))], M, [(xb, Cl 45 [f, d, o, .slice na fen.length nc]), (rb, Cl 144 ((Dr p x).map vu))]))
  (fun x => x ≤ p.length - 1) (fun x => p.length - x) 0 rfl (lA8 _) ?env1 (lA0 _) ?_
 case env1 =>
  exact eE
 intro x hx ih
 dsimp only at hx ih ⊢
 have ht : ((x : Int) + 1).toNat = x + 1 := by omega
 have aV : IntKind.i64.wrap ((x : Int) + 1 - 1) = x := w64 (by omega) (by omega) |>.trans (by omega)
 repeat' first | refine st ?_ | ((first | refine EV.reg ?_ | refine EV.any _ (lA0 _) ?_ | fail); (conv => (arg 2; whnf)); (repeat first | refine nx ?_ | simp only [ht, aV])) | (refine cX ?_ ?_ <;> intro h <;> try exact Ah h) | fail
 ·have dj : x + 1 < p.length := by omega
  obtain ⟨pb, po, rfl, hat⟩ := Sl.at (enc := Bj) (fun _ => rfl) (by decide) aH (by omega)
  have hat := JJ hat
  have gS := (hat (x + 1) (by omega)).pt 5 1 (by omega) rfl
  have iC := (hat x (by omega)).pt 5 1 (by omega) rfl
  have ih3 := ih (x + 1) (by omega) (by omega)
  rw [show Dr p (x + 1) = if (evAt p (x + 1)).th = (evAt p x).th then N0 (Dr p x) x (x + 1) else Dr p x from rfl] at ih3
  have ai := stepsA_ok p x (by omega)
  clear ih
  repeat' first | refine su ?_ | (refine EV.reg ?_; (conv => (arg 2; whnf)); (repeat first | refine nx ?_ | simp only [ht, aV])) | (refine cX ?_ ?_ <;> intro h <;> try exact Ah h) | refine ZF ?_ | (refine xm ?_; (repeat first | refine nx ?_ | simp only [ht, aV])) | fail
  ·refine JN (Hl ai hb (by omega) (by omega) (by omega) (by omega)) (JB _ _) ?_
   rintro v M' G' rfl
   rw [if_pos h] at ih3
   simp only [lAy, ht]
   (refine nx ?_; try with_reducible exact ⟨⟩)
   repeat' first | refine su ?_ | refine rg ?_ | exact ⟨⟩ | fail
   refine JE ih3 ?_
   exact eE
  ·rw [if_neg (by simp_all)] at ih3
   refine JE ih3 ?_
   exact eE
 ·have cV : x = p.length - 1 := by omega
  subst cV
  clear ih
  have ai := stepsA_ok p (p.length - 1) (lA5 _)
  repeat' first | fail
  refine JC (fun x : Nat => ([(0, .slice a p.length c), (3, pv xb 0), (5, Av rb p.length p.length), (7, vi ((x : Int) + 1))], M, [(xb, Cl 45 [f, d, o, .slice na fen.length nc]), (rb, Cl 144 ((Ij (Dr p (p.length - 1)) fen x).map vu))]))
   (fun x => x ≤ fen.length - 1) (fun x => fen.length - x) 0 rfl (lA8 _) ?env2 (lA0 _) ?_
  case env2 =>
   exact eE
  intro x hx ih
  dsimp only at hx ih ⊢
  have ht : ((x : Int) + 1).toNat = x + 1 := by omega
  have aV : IntKind.i64.wrap ((x : Int) + 1 - 1) = x := w64 (by omega) (by omega) |>.trans (by omega)
  repeat' first | refine st ?_ | (refine EV.reg ?_; (conv => (arg 2; whnf)); (repeat first | refine nx ?_ | simp only [ht, aV])) | (refine cX ?_ ?_ <;> intro h <;> try exact Ah h) | (refine xsA rfl ?_; (repeat first | refine nx ?_ | simp only [ht, aV])) | fail
  ·have dj : x + 1 < fen.length := by omega
   obtain ⟨pb, po, rfl, hat⟩ := Sl.at (sz := 1) (enc := ei) (fun _ => rfl) (by decide) kf (by omega)
   have gS := hat (x + 1) (by omega)
   have iC := hat x (by omega)
   have q1 := hin.at (k := x + 1) dj
   have q0 := hin.at (k := x) (by omega)
   rw [lAu] at gS iC
   rw [← show fen[x + 1]?.getD 0 = fen[x + 1] from by rw [lA2 dj]; rfl] at gS
   rw [← show fen[x]?.getD 0 = fen[x] from by rw [lA2]; rfl] at iC
   have ih3 := ih (x + 1) (by omega) (by omega)
   rw [show Ij (Dr p (p.length - 1)) fen (x + 1) = N0 (Ij (Dr p (p.length - 1)) fen x) (fen[x]?.getD 0).toNat (fen[x + 1]?.getD 0).toNat from rfl] at ih3
   have p5 := stepsB_ok ai hin x (by omega)
   generalize fen[x]?.getD 0 = ea at *
   generalize fen[x + 1]?.getD 0 = eb2 at *
   clear ih
   refine EV.any (t := Bd0) _ (lA0 _) ?_
   (repeat first | refine nx ?_ | simp only [Bd0])
   repeat' first | refine ZF ?_ | ((first | refine xm ?_ | refine xsA rfl ?_ | fail); (repeat first | refine nx ?_ | simp only [ht, aV])) | fail
   refine JN (Hl p5 hb (by omega) (by omega) (by omega) (by omega)) (JB _ _) ?_
   rintro v M' G' rfl
   (refine nx ?_; try with_reducible exact ⟨⟩)
   repeat' first | refine su ?_ | (refine EV.reg ?_; (conv => (arg 2; whnf)); (repeat first | refine nx ?_ | simp only [ht, aV])) | fail
   refine JE ih3 ?_
   exact eE
  ·have cV : x = fen.length - 1 := by omega
   subst cV
   refine JE (ρ' := [(4, Av rb p.length p.length)]) (G' := [(rb, Cl 144 ((Ij (Dr p (p.length - 1)) fen (fen.length - 1)).map vu))]) ?_ ?env3
   case env3 =>
    exact eE
   (refine rt Q35_ok ?_; try with_reducible exact ⟨⟩)
   exact ⟨rb, rfl, rfl⟩
end
structure Exec where
 frm : List Int
 dn : List Bool
 ord : List (List Int)
 fen : List Int
structure POk (p : List Ev) : Prop where
 len : p.length ≤ 32
 ord : Aa4 p
 loc : ∀ i, i < p.length → 0 ≤ (evAt p i).op.loc ∧ (evAt p i).op.loc < 3
structure XOk (p : List Ev) (e : Exec) : Prop where
 fl : e.frm.length = p.length
 dl : e.dn.length = p.length
 ol : e.ord.length = 3
 fr : ∀ i : Nat, i < p.length → e.frm[i]?.getD 0 < p.length ∧ ((evAt p i).reads = true → -1 ≤ e.frm[i]?.getD 0)
 oin : ∀ l ∈ e.ord, Iy p l ∧ l.length ≤ p.length
 fin : Iy p e.fen ∧ e.fen.length ≤ p.length
theorem XOk.fromOk {p : List Ev} {e : Exec} (h : XOk p e) : Df p e.frm := ⟨h.fl, fun i hi hr => by
 have := h.fr i hi
 have h2 := this.2 hr
 omega⟩
def IsX (M : Aa) (v : Value) (e : Exec) : Prop := ∃ f d o n, v = .agg #[f, d, o, n] ∧ Sl M 1 ei f e.frm ∧ Sl M 1 eb d e.dn ∧ Dj M 1 ei o e.ord ∧ Sl M 1 ei n e.fen
theorem IsX.mono {M M' : Aa} (hM : M.le M') {v : Value} {e : Exec} (h : IsX M v e) : IsX M' v e := by
 obtain ⟨f, d, o, n, rfl, h1, h2, h3, h4⟩ := h
 exact ⟨f, d, o, n, rfl, h1.mono hM, h2.mono hM, h3.mono hM, h4.mono hM⟩
def O1 (p : List Ev) (e : Exec) (w : Nat) : Bool := (evAt p w).reads && (e.dn[w]?.getD false)
def Af (e : Exec) (i : Nat) : Int := e.frm[i]?.getD 0
def Dl (p : List Ev) (e : Exec) : Nat → Nat → Nat → Nat
 | 0, _, s => s
 | k + 1, w, s => if O1 p e w = true ∧ 0 ≤ Af e w then Dl p e k (Af e w).toNat (s ||| F0 p w) else s ||| F0 p w
def E6 (p : List Ev) (e : Exec) (r : Nat) : Nat := Dl p e p.length (Af e r).toNat 0
def Jw (q : Rel) (set to : Nat) : Nat → Rel
 | 0 => q
 | a + 1 => if set.testBit a then orR (Jw q set to a) a to else Jw q set to a
def Iz (p : List Ev) (e : Exec) : Nat → Rel
 | 0 => Ix p e.fen
 | r + 1 => if (evAt p r).reads = true ∧ 0 ≤ Af e r then Jw (Iz p e r) (E6 p e r) (J8 p r) p.length else Iz p e r
def Gz (p : List Ev) (e : Exec) : Rel := Ca (Iz p e p.length)
theorem Rs {p : List Ev} {e : Exec} (hx : XOk p e) : ∀ (k w s : Nat), w < p.length → s < 2 ^ p.length → Dl p e k w s < 2 ^ p.length
 | 0, _, _, _, h => h
 | k + 1, w, s, hw, h => by
  have hs : s ||| F0 p w < 2 ^ p.length := lCo h (Rq hw)
  simp only [Dl]
  split
  ·rename_i hc
   have := (hx.fr w hw).1
   exact Rs hx k _ _ (by simp only [Af] at hc ⊢; omega) hs
  ·exact hs
theorem orAll_ok {n : Nat} {q : Rel} (hq : RelOk n q) {set to : Nat} (ht : to < 2 ^ n) : ∀ a, RelOk n (Jw q set to a)
 | 0 => hq
 | a + 1 => by
  simp only [Jw]
  split
  ·exact (orAll_ok hq ht a).or a ht
  ·exact orAll_ok hq ht a
theorem befGo_ok {p : List Ev} {e : Exec} (hx : XOk p e) : ∀ r, r ≤ p.length → RelOk p.length (Iz p e r)
 | 0, _ => stepsP_ok hx.fin.1
 | r + 1, h => by
  simp only [Iz]
  split
  ·exact orAll_ok (befGo_ok hx r (by omega)) (Yk (by omega)) _
  ·exact befGo_ok hx r (by omega)
section
variable {M : Aa}
theorem W3 (p : List Ev) (s : Value) (hs : Sl M 6 Bj s p) (hp : POk p) (e : Exec) (v : Value) (hv : IsX M v e) (hx : XOk p e) :
  Con Tryz.prog 67 #[s, v] M [] fun v _ G' => ∃ b, v = Av b p.length p.length ∧ G' = [(b, Cl 144 ((Gz p e).map vu))] := by
 have aM := hs
 have hb := hp.len
 obtain ⟨a, c, rfl, aH⟩ := hs
 obtain ⟨f, d, o, n, rfl, hf, hd, ho, hn⟩ := hv
 have oY := hd
 obtain ⟨fa, fc, rfl, bc⟩ := hf
 obtain ⟨da, dc, rfl, mY⟩ := hd
 have aj := hx.fl
 refine Con.enter Q10_ok (args := [.slice a p.length c, .agg #[.slice fa e.frm.length fc, .slice da e.dn.length dc, o, n]]) (by simp [Q10]) fun w0 => ?_
 simp only [Q10, A9]
 repeat' first | refine st ?_ | refine rg ?_ | ((first | with_reducible intro b | refine xrA rfl ?_ | fail); try refine nx ?_) | exact ⟨⟩ | fail
 rename Nat => xb
 have ij := hx.fin.2
 refine Con.callB (G1 := []) (Rr p _ (aM.mono (JB _ _)) hb _ _ _ _ e.fen (hn.mono (JB _ _)) hx.fin.1 (by omega)) (Aa.le_refl _) (lAf _) ?_
 rintro v M' G' ⟨rb, rfl, rfl⟩
 (refine nx ?_; try with_reducible exact ⟨⟩)
 repeat' first | refine st ?_ | refine rg ?_ | exact ⟨⟩ | fail
 refine JC (fun r : Nat => ([(0, .slice a p.length c), (3, pv xb 0), (5, Av rb p.length p.length), (15, vi p.length), (16, vi r)], M, [(xb, Cl 45 [.slice fa e.frm.length fc, .slice da e.dn.length dc, o, n]), (rb, Cl 144 ((Iz p e r).map vu))]))
  (fun r => r ≤ p.length) (fun r => p.length - r) 0 rfl (lA8 _) ?env1 (lA0 _) ?_
 case env1 =>
  exact eE
 intro r hr ih
 dsimp only at hr ih ⊢
 repeat' first | refine st ?_ | refine rg ?_ | (refine cX ?_ ?_ <;> intro h <;> try exact Ah h) | exact ⟨⟩ | fail
 ·have bj : r < p.length := by omega
  obtain ⟨pb, po, rfl, hat⟩ := Sl.at (enc := Bj) (fun _ => rfl) (by decide) aH (by omega)
  obtain ⟨fb, fo, rfl, aN⟩ := Sl.at (sz := 1) (enc := ei) (fun _ => rfl) (by decide) bc (by omega)
  have hat := JJ hat
  have iE : ∀ i, i < p.length → rd M fb (fo + i) 1 [vi (Af e i)] := by
   intro i hi
   have := aN i (by omega)
   rw [lAu] at this
   simp only [Af]
   rwa [lA2 (by omega : i < e.frm.length)]
  have an := hat r bj
  have bW := iE r bj
  have aU : ∀ i, i < p.length → Af e i < p.length := fun i hi => (hx.fr i hi).1
  have gV := aU r bj
  have vj : (r : Int) < e.frm.length := by omega
  have ih3 := ih (r + 1) (by omega) (by omega)
  rw [show Iz p e (r + 1) = if (evAt p r).reads = true ∧ 0 ≤ Af e r then Jw (Iz p e r) (E6 p e r) (J8 p r) p.length else Iz p e r from rfl] at ih3
  have ai := befGo_ok hx r (by omega)
  generalize Iz p e r = q at *
  clear ih aN
  repeat' first | refine su ?_ | refine rg ?_ | with_reducible assumption | (refine Aq.call (Ci (evAt p r)) ?_; try refine nx ?_) | (refine JD ?_ (fun hc K' hK => ?_) ?_; rotate_left) | (refine cX ?_ ?_ <;> intro h <;> try exact Ah h) | refine ZF ?_ | ((first | refine xm ?_ | refine xsA rfl ?_ | fail); try refine nx ?_) | exact ⟨⟩ | fail
  ·rw [if_neg (by grind)] at ih3
   refine JE ih3 ?_
   exact eE
  ·obtain ⟨hre, cp⟩ := h
   have cp : 0 ≤ Af e r := by omega
   rw [if_pos ⟨hre, cp⟩] at ih3
   obtain ⟨w0', oZ⟩ := lEb cp
   refine EV.seq ?_
   repeat' first | refine rg ?_ | exact ⟨⟩ | fail
   refine EV.seq ?_
   repeat' first | refine rg ?_ | refine ZF ?_ | ((first | refine xm ?_ | refine xsA rfl ?_ | fail); try refine nx ?_) | exact ⟨⟩ | fail
   refine EV.seq (JI (fun ρ' M' G' => M' = M ∧ (∀ q ∈ [(0, .slice (some ⟨pb, po, none⟩) p.length c), (3, pv xb 0), (5, Av rb p.length p.length), (6, vi r), (7, vu (E6 p e r)), (15, vi p.length), (16, vi r)], get ρ' q.1 = some q.2) ∧
    G' = [(xb, Cl 45 [.slice (some ⟨fb, fo, none⟩) e.frm.length fc, .slice da e.dn.length dc, o, n]), (rb, Cl 144 (q.map vu))]) ?_ ?_)
   ·intro k' key
    clear ih3
    repeat' first | refine st ?_ | refine rg ?_ | exact ⟨⟩ | fail
    refine JC (fun x : Nat × Nat × Nat => ([(0, .slice (some ⟨pb, po, none⟩) p.length c), (3, pv xb 0), (5, Av rb p.length p.length), (6, vi r), (7, vu x.2.2), (8, vi x.2.1), (15, vi p.length), (16, vi r), (39, vi p.length), (40, vi x.1)], M, [(xb, Cl 45 [.slice (some ⟨fb, fo, none⟩) e.frm.length fc, .slice da e.dn.length dc, o, n]), (rb, Cl 144 (q.map vu))]))
     (fun x => x.1 ≤ p.length ∧ x.2.1 < p.length ∧ x.2.2 < 2 ^ p.length ∧ Dl p e (p.length - x.1) x.2.1 x.2.2 = E6 p e r) (fun x => p.length - x.1) (0, w0', 0) rfl ⟨lA8 _, by dsimp only; omega, lD4 _, by simp only [E6, oZ, Nat.sub_zero, lAy]⟩ ?env2 (lA0 _) ?_
    case env2 =>
     repeat' first | (refine lBs.2 (lAd ?_ ?_)) | (intro _ bn; cases bn; done) | rfl | (simp (disch := omega) only [Ak, Au, reduceIte, Nat.reduceEqDiff, Option.some.injEq, Value.int.injEq, w64, lDf, lDg, lB8, lD7, oZ]; done) | fail
    rintro ⟨j, w, s⟩ ⟨hj, hw, hs, aa⟩ ih
    dsimp only at hj hw hs aa ih ⊢
    repeat' first | refine st ?_ | refine rg ?_ | (refine cX ?_ ?_ <;> intro h <;> try exact Ah h) | exact ⟨⟩ | fail
    ·have ak := Rq hw
     have am := Rp (Aa5 hs hb) (Aa5 ak hb)
     have oX := iE w hw
     have ty := aU w hw
     have sZ : (w : Int) < e.frm.length := by omega
     have ef : p.length - j = (p.length - (j + 1)) + 1 := by omega
     rw [ef] at aa
     simp only [Dl] at aa
     repeat' first | refine st ?_ | (refine EV.reg ?_; (conv => (arg 2; whnf)); (repeat first | refine nx ?_ | simp only [am])) | ((first | refine Aq.call (Ql p _ (aM.mono (JB _ _)) (by omega) _ _ _ _ e.dn (oY.mono (JB _ _)) w hw hx.dl) ?_ | refine Aq.call (W2 p _ (aM.mono (JB _ _)) hb hp.ord w hw) ?_ | fail); (repeat first | refine nx ?_ | simp only [am])) | with_reducible assumption | (refine JD ?_ (fun hc K' hK => ?_) ?_; rotate_left) | (refine cX ?_ ?_ <;> intro h <;> try exact Ah h) | refine ZF ?_ | ((first | refine xm ?_ | refine xrA rfl ?_ | refine xsA rfl ?_ | fail); (repeat first | refine nx ?_ | simp only [am])) | fail
     ·rw [if_neg (show ¬ (O1 p e w = true ∧ 0 ≤ Af e w) by simp only [O1]; grind)] at aa
      refine key _ _ _ ⟨rfl, ?_, rfl⟩
      simp only [aa]
      exact eE
     ·rw [if_pos (show O1 p e w = true ∧ 0 ≤ Af e w by simp only [O1]; grind)] at aa
      obtain ⟨w1, aV⟩ := lEb (show 0 ≤ Af e w by omega)
      rw [aV, lAy] at aa
      refine JE (ih (j + 1, w1, s ||| F0 p w) ⟨by dsimp only; omega, by dsimp only; omega, lCo hs ak, aa⟩ (by dsimp only; omega)) ?_
      simp only [aV]
      exact eE
    ·have : p.length - j = 0 := by omega
     rw [this] at aa
     simp only [Dl] at aa
     refine key _ _ _ ⟨rfl, ?_, rfl⟩
     repeat' first | (refine lBs.2 (lAd ?_ ?_)) | (intro _ bn; cases bn; done) | rfl | (simp (disch := omega) only [Ak, Au, reduceIte, Nat.reduceEqDiff, Option.some.injEq, Value.int.injEq, w64, lDf, lDg, lB8, lD7, aa]; done) | fail
   rintro ρ2 M2 G2 ⟨rfl, hq, rfl⟩
   refine JA ?_ hq (lA0 _)
   clear hq
   have hh : E6 p e r < 2 ^ p.length := Rs hx _ _ _ (by omega) (lD4 _)
   have he := Yk bj
   repeat' first | refine st ?_ | refine rg ?_ | (refine Aq.call (Ah9 p _ (aM.mono (JB _ _)) hb hp.ord r bj) ?_; try refine nx ?_) | exact ⟨⟩ | fail
   refine JC (fun x : Nat => ([(0, .slice (some ⟨pb, po, none⟩) p.length c), (3, pv xb 0), (5, Av rb p.length p.length), (6, vi r), (7, vu (E6 p e r)), (9, vu (J8 p r)), (15, vi p.length), (16, vi r), (70, vi p.length), (71, vi x)], M2, [(xb, Cl 45 [.slice (some ⟨fb, fo, none⟩) e.frm.length fc, .slice da e.dn.length dc, o, n]), (rb, Cl 144 ((Jw q (E6 p e r) (J8 p r) x).map vu))]))
    (fun x => x ≤ p.length) (fun x => p.length - x) 0 rfl (lA8 _) ?env3 (lA0 _) ?_
   case env3 =>
    exact eE
   intro x gJ ih
   dsimp only at gJ ih ⊢
   have gR := orAll_ok (set := E6 p e r) ai he x
   by_cases dj : x < p.length
   ·have vk : (x : Int) < p.length := by omega
    have ih4 := ih (x + 1) (by omega) (by omega)
    rw [show Jw q (E6 p e r) (J8 p r) (x + 1) = if (E6 p e r).testBit x then orR (Jw q (E6 p e r) (J8 p r) x) x (J8 p r) else Jw q (E6 p e r) (J8 p r) x from rfl] at ih4
    generalize Jw q (E6 p e r) (J8 p r) x = q2 at *
    generalize E6 p e r = vl at *
    generalize J8 p r = ee2 at *
    obtain ⟨dA, ea⟩ := gR.get dj
    have dT := gR.at hb x
    simp only [orR, ea] at ih4 dT
    have k5 := gR.len
    have az := Ah8 (b := x) (Aa5 hh hb) (by omega)
    have am := Rp dT (Aa5 he hb)
    have d5 : ¬ ((x : Int) < 0) := by omega
    clear ih ih3
    repeat' first | refine st ?_ | (refine EV.reg ?_; (conv => (arg 2; whnf)); (repeat first | refine nx ?_ | simp only [az, am, d5, Ap, dj, lA1, k5])) | (refine lAb _ (lAd (Cg (f := vu) dA) ?_); (repeat first | refine nx ?_ | simp only [az, am, d5, Ap, dj, lA1, k5])) | (refine cX ?_ ?_ <;> intro h <;> try exact Ah h) | refine ZF ?_ | (refine xw ?_; (repeat first | refine nx ?_ | simp only [az, am, d5, Ap, dj, lA1, k5])) | fail
    ·rw [if_pos (by assumption)] at ih4
     refine JE ih4 ?_
     exact eE
    ·rw [if_neg (by simp_all)] at ih4
     refine JE ih4 ?_
     exact eE
   ·have cV : x = p.length := by omega
    subst cV
    repeat' first | refine st ?_ | refine rg ?_ | (refine cX ?_ ?_ <;> intro h <;> try exact Ah h) | exact ⟨⟩ | fail
    refine JE ih3 ?_
    exact eE
 ·have cV : r = p.length := by omega
  subst cV
  have ai := befGo_ok hx p.length (lA5 _)
  refine JN (Ly ai hb) (JB _ _) ?_
  rintro v M' G' ⟨rfl, rfl⟩
  (refine nx ?_; try with_reducible exact ⟨⟩)
  repeat' first | fail
  refine JE (ρ' := [(4, Av rb p.length p.length)]) (G' := [(rb, Cl 144 ((Ca (Iz p e p.length)).map vu))]) ?_ ?env4
  case env4 =>
   exact eE
  (refine rt Q10_ok ?_; try with_reducible exact ⟨⟩)
  exact ⟨rb, rfl, rfl⟩
end
def Ae (l : List Int) (i : Nat) : Int := l[i]?.getD 0
def Am9 (q : Rel) (l : List Int) (i : Nat) : Nat → Rel
 | 0 => q
 | j + 1 => N0 (Am9 q l i j) (Ae l i).toNat (Ae l (i + 1 + j)).toNat
def Ai0 (q : Rel) (l : List Int) : Nat → Rel
 | 0 => q
 | i + 1 => Am9 (Ai0 q l i) l i (l.length - (i + 1))
def Ad0 (q : Rel) (ord : List (List Int)) : Nat → Rel
 | 0 => q
 | k + 1 => Ai0 (Ad0 q ord k) (ord[k]?.getD []) (ord[k]?.getD []).length
def Sy (q : Rel) (r : Nat) (fr : Int) (l : List Int) : Nat → Rel × Bool
 | 0 => (q, decide (fr = -1))
 | i + 1 => (if (Sy q r fr l i).2 = true ∧ Ae l i ≠ r then N0 (Sy q r fr l i).1 r (Ae l i).toNat else (Sy q r fr l i).1, (Sy q r fr l i).2 || decide (Ae l i = fr))
def Lz (p : List Ev) (e : Exec) (r : Nat) : List Int := e.ord[(evAt p r).op.loc.toNat]?.getD []
def O2 (q : Rel) (e : Exec) (r : Nat) : Rel := if 0 ≤ Af e r then N0 q (Af e r).toNat r else q
def Qm (p : List Ev) (e : Exec) : Nat → Rel
 | 0 => Ad0 (List.replicate p.length 0) e.ord e.ord.length
 | r + 1 => if (evAt p r).reads = true then (Sy (O2 (Qm p e r) e r) r (Af e r) (Lz p e r) (Lz p e r).length).1 else Qm p e r
def Bg4 (p : List Ev) (e : Exec) : Rel := Ca (Qm p e p.length)
theorem E0 {p : List Ev} {l : List Int} (h : Iy p l) {k : Nat} (hk : k < l.length) : 0 ≤ Ae l k ∧ Ae l k < p.length := h.at hk
theorem comC_ok {p : List Ev} {q : Rel} (hq : RelOk p.length q) {l : List Int} (hl : Iy p l) (i : Nat) : ∀ j, i + 1 + j ≤ l.length → RelOk p.length (Am9 q l i j)
 | 0, _ => hq
 | j + 1, h => by
  have := E0 hl (k := i + 1 + j) (by omega)
  exact (comC_ok hq hl i j (by omega)).put _ (by omega)
theorem comB_ok {p : List Ev} {q : Rel} (hq : RelOk p.length q) {l : List Int} (hl : Iy p l) : ∀ i, i ≤ l.length → RelOk p.length (Ai0 q l i)
 | 0, _ => hq
 | i + 1, h => comC_ok (comB_ok hq hl i (by omega)) hl i _ (by omega)
theorem comA_ok {p : List Ev} {q : Rel} (hq : RelOk p.length q) {ord : List (List Int)} (ho : ∀ l ∈ ord, Iy p l ∧ l.length ≤ p.length) : ∀ k, k ≤ ord.length → RelOk p.length (Ad0 q ord k)
 | 0, _ => hq
 | k + 1, h => by
  have hk : k < ord.length := by omega
  have e : ord[k]?.getD [] = ord[k] := by rw [lA2 hk]; rfl
  simp only [Ad0, e]
  exact comB_ok (comA_ok hq ho k (by omega)) (ho _ (lAm hk)).1 _ (lA5 _)
theorem comE_ok {p : List Ev} {q : Rel} (hq : RelOk p.length q) {r : Nat} {fr : Int} {l : List Int} (hl : Iy p l) : ∀ i, i ≤ l.length → RelOk p.length (Sy q r fr l i).1
 | 0, _ => hq
 | i + 1, h => by
  have := E0 hl (k := i) (by omega)
  simp only [Sy]
  split
  ·exact (comE_ok hq hl i (by omega)).put _ (by omega)
  ·exact comE_ok hq hl i (by omega)
theorem comD1_ok {p : List Ev} {q : Rel} (hq : RelOk p.length q) {e : Exec} {r : Nat} (hr : r < p.length) : RelOk p.length (O2 q e r) := by
 simp only [O2]; split
 ·exact hq.put _ hr
 ·exact hq
theorem Sz {p : List Ev} (hp : POk p) {e : Exec} (hx : XOk p e) {r : Nat} (hr : r < p.length) : ∃ h : (evAt p r).op.loc.toNat < e.ord.length, Lz p e r = e.ord[(evAt p r).op.loc.toNat] ∧ Iy p (Lz p e r) ∧ (Lz p e r).length ≤ p.length := by
 have := hp.loc r hr
 have hl : (evAt p r).op.loc.toNat < e.ord.length := by rw [hx.ol]; omega
 have e1 : Lz p e r = e.ord[(evAt p r).op.loc.toNat] := by simp only [Lz]; rw [lA2 hl]; rfl
 have := hx.oin _ (lAm hl)
 exact ⟨hl, e1, by rw [e1]; exact this.1, by rw [e1]; exact this.2⟩
theorem comD_ok {p : List Ev} (hp : POk p) {e : Exec} (hx : XOk p e) : ∀ r, r ≤ p.length → RelOk p.length (Qm p e r)
 | 0, _ => comA_ok (RelOk.zero _) hx.oin _ (lA5 _)
 | r + 1, h => by
  simp only [Qm]
  split
  ·exact comE_ok (comD1_ok (comD_ok hp hx r (by omega)) (by omega)) (Sz hp hx (by omega)).choose_spec.2.1 _ (lA5 _)
  ·exact comD_ok hp hx r (by omega)
theorem Cj {M : Aa} {wb wo : Nat} {l : List Int} (hat : ∀ i (hi : i < l.length), rd M wb (wo + i * 1) 1 (ei l[i])) (i : Nat) (hi : i < l.length) : rd M wb (wo + i) 1 [vi (Ae l i)] := by
 have := hat i hi
 rw [lAu] at this
 simp only [Ae]
 rwa [lA2 hi]
section
variable {M : Aa}
theorem Ao9 (p : List Ev) (s : Value) (hs : Sl M 6 Bj s p) (hp : POk p) (e : Exec) (v : Value) (hv : IsX M v e) (hx : XOk p e) :
  Con Tryz.prog 123 #[s, v] M [] fun v _ G' => ∃ b, v = Av b p.length p.length ∧ G' = [(b, Cl 144 ((Bg4 p e).map vu))] := by
 have aM := hs
 have hb := hp.len
 obtain ⟨a, c, rfl, aH⟩ := hs
 obtain ⟨f, d, o, n, rfl, hf, hd, ho, hn⟩ := hv
 obtain ⟨fa, fc, rfl, bc⟩ := hf
 obtain ⟨oa, oc, ovs, rfl, ar, bQ, bi⟩ := ho
 have aj := hx.fl
 have eG := hx.ol
 obtain ⟨ob, oo, rfl, bC⟩ := Dj.at bQ ar bi (by omega)
 refine Con.enter Q12_ok (args := [.slice a p.length c, .agg #[.slice fa e.frm.length fc, d, .slice (some ⟨ob, oo, none⟩) e.ord.length oc, n]]) (by simp [Q12]) fun w0 => ?_
 simp only [Q12, A9]
 repeat' first | refine st ?_ | refine rg ?_ | (with_reducible intro b; try refine nx ?_) | exact ⟨⟩ | fail
 rename Nat => xb
 refine Con.callB (G1 := []) (K1 _ p (aM.mono (JB _ _)) hb) (Aa.le_refl _) (lAf _) ?_
 rintro v M' G' ⟨rb, rfl, rfl⟩
 (refine nx ?_; try with_reducible exact ⟨⟩)
 repeat' first | refine st ?_ | refine rg ?_ | (refine xsA rfl ?_; try refine nx ?_) | exact ⟨⟩ | fail
 refine JC (fun k : Nat => ([(0, .slice a p.length c), (3, pv xb 0), (5, Av rb p.length p.length), (20, .slice (some ⟨ob, oo, none⟩) e.ord.length oc), (21, vi e.ord.length), (22, vi k)], M,
   [(xb, Cl 45 [.slice fa e.frm.length fc, d, .slice (some ⟨ob, oo, none⟩) e.ord.length oc, n]), (rb, Cl 144 ((Ad0 (List.replicate p.length 0) e.ord k).map vu))]))
  (fun k => k ≤ e.ord.length) (fun k => e.ord.length - k) 0 rfl (lA8 _) ?env1 (lA0 _) ?_
 case env1 =>
  exact eE
 intro k hk ih
 dsimp only at hk ih ⊢
 repeat' first | refine st ?_ | refine rg ?_ | (refine cX ?_ ?_ <;> intro h <;> try exact Ah h) | refine ZF ?_ | (refine xsA rfl ?_; try refine nx ?_) | exact ⟨⟩ | fail
 ·have af : k < e.ord.length := by omega
  obtain ⟨la, lc, aT, cW, aX⟩ := bC k af
  rw [lAu] at aT
  obtain ⟨hin, kZ⟩ := hx.oin _ (lAm af)
  have p6 := comA_ok (RelOk.zero p.length) hx.oin k (by omega)
  have ih1 := ih (k + 1) (by omega) (by omega)
  have eo : e.ord[k]?.getD [] = e.ord[k] := by rw [lA2 af]; rfl
  simp only [Ad0, eo] at ih1
  generalize e.ord[k] = l at *
  generalize Ad0 (List.replicate p.length 0) e.ord k = q at *
  clear ih
  repeat' first | refine st ?_ | refine rg ?_ | (refine xn ?_; try refine nx ?_) | exact ⟨⟩ | fail
  refine JC (fun i : Nat => ([(0, .slice a p.length c), (3, pv xb 0), (5, Av rb p.length p.length), (7, .slice la l.length lc), (20, .slice (some ⟨ob, oo, none⟩) e.ord.length oc), (21, vi e.ord.length), (22, vi k), (26, .slice la l.length lc), (27, vi l.length), (28, vi i)], M,
    [(xb, Cl 45 [.slice fa e.frm.length fc, d, .slice (some ⟨ob, oo, none⟩) e.ord.length oc, n]), (rb, Cl 144 ((Ai0 q l i).map vu))]))
   (fun i => i ≤ l.length) (fun i => l.length - i) 0 rfl (lA8 _) ?env2 (lA0 _) ?_
  case env2 =>
   exact eE
  intro i hi ih
  dsimp only at hi ih ⊢
  repeat' first | refine st ?_ | refine rg ?_ | (refine cX ?_ ?_ <;> intro h <;> try exact Ah h) | exact ⟨⟩ | fail
  ·have aC : i < l.length := by omega
   obtain ⟨wb, wo, rfl, bA⟩ := Sl.at (sz := 1) (enc := ei) (fun _ => rfl) (by decide) aX (by omega)
   have bA := Cj bA
   have kg := bA i aC
   have fA := E0 hin aC
   have gW := comB_ok p6 hin i hi
   have ih2 := ih (i + 1) (by omega) (by omega)
   simp only [Ai0] at ih2
   generalize Ai0 q l i = q2 at *
   clear ih
   have aV : IntKind.i64.wrap ((i : Int) + 1) = ((i + 1 : Nat) : Int) := w64 (by omega) (by omega)
   repeat' first | refine st ?_ | (refine EV.reg ?_; (conv => (arg 2; whnf)); (repeat first | refine nx ?_ | simp only [aV])) | refine ZF ?_ | (refine xm ?_; (repeat first | refine nx ?_ | simp only [aV])) | fail
   simp only [lC9, C2]
   refine ⟨i + 1, by simp, by omega, cW, Or.inr rfl, ?_⟩
   obtain ⟨ro, kh, ero⟩ := Sv (wb := wb) (wo := wo) (n := l.length) (c := lc) (i := i + 1) cW
   rw [ero]
   have vm : (((l.length - (i + 1) : Nat)) : Int) = ((l.length - (i + 1) : Nat) : Int) := rfl
   generalize hm : l.length - (i + 1) = m at *
   refine EV.block ?_
   refine JC (fun j : Nat => ([(0, .slice a p.length c), (3, pv xb 0), (5, Av rb p.length p.length), (7, .slice (some ⟨wb, wo, none⟩) l.length lc), (8, vi i), (9, vi (Ae l i)), (20, .slice (some ⟨ob, oo, none⟩) e.ord.length oc), (21, vi e.ord.length), (22, vi k), (26, .slice (some ⟨wb, wo, none⟩) l.length lc), (27, vi l.length), (28, vi i),
     (36, .slice (some ⟨wb, ro, none⟩) m (lc - (i + 1))), (37, vi m), (38, vi j)], M,
     [(xb, Cl 45 [.slice fa e.frm.length fc, d, .slice (some ⟨ob, oo, none⟩) e.ord.length oc, n]), (rb, Cl 144 ((Am9 q2 l i j).map vu))]))
    (fun j => j ≤ m) (fun j => m - j) 0 rfl (lA8 _) ?env3 (lA0 _) ?_
   case env3 =>
    exact eE
   intro j hj ih
   dsimp only at hj ih ⊢
   repeat' first | refine st ?_ | refine rg ?_ | (refine cX ?_ ?_ <;> intro h <;> try exact Ah h) | refine ZF ?_ | exact ⟨⟩ | fail
   ·have aR : j < m := by omega
    have iF := kh (by omega)
    subst iF
    have mV := bA (i + 1 + j) (by omega)
    rw [← lDa] at mV
    have mZ := E0 hin (k := i + 1 + j) (by omega)
    have jK := comC_ok gW hin i j (by omega)
    have ih3 := ih (j + 1) (by omega) (by omega)
    simp only [Am9] at ih3
    clear ih
    repeat' first | refine rg ?_ | (refine xm ?_; try refine nx ?_) | exact ⟨⟩ | fail
    refine JN (Hl jK hb fA.1 fA.2 mZ.1 mZ.2) (JB _ _) ?_
    rintro v M'' G' rfl
    (refine nx ?_; try with_reducible exact ⟨⟩)
    repeat' first | refine su ?_ | refine rg ?_ | exact ⟨⟩ | fail
    refine JE ih3 ?_
    exact eE
   ·have jm : j = m := by omega
    subst jm
    refine JE ih2 ?_
    exact eE
  ·have bO : i = l.length := by omega
   subst bO
   refine JE ih1 ?_
   exact eE
 ·have eH : k = e.ord.length := by omega
  subst eH
  clear ih
  repeat' first | fail
  refine JC (fun r : Nat => ([(0, .slice a p.length c), (3, pv xb 0), (5, Av rb p.length p.length), (50, .slice fa e.frm.length fc), (51, vi e.frm.length), (52, vi r)], M,
    [(xb, Cl 45 [.slice fa e.frm.length fc, d, .slice (some ⟨ob, oo, none⟩) e.ord.length oc, n]), (rb, Cl 144 ((Qm p e r).map vu))]))
   (fun r => r ≤ e.frm.length) (fun r => e.frm.length - r) 0 rfl (lA8 _) ?env4 (lA0 _) ?_
  case env4 =>
   exact eE
  intro r hr ih
  dsimp only at hr ih ⊢
  repeat' first | refine st ?_ | refine rg ?_ | (refine cX ?_ ?_ <;> intro h <;> try exact Ah h) | exact ⟨⟩ | fail
  ·have bj : r < p.length := by omega
   obtain ⟨pb, po, rfl, hat⟩ := Sl.at (enc := Bj) (fun _ => rfl) (by decide) aH (by omega)
   obtain ⟨fb, fo, rfl, aN⟩ := Sl.at (sz := 1) (enc := ei) (fun _ => rfl) (by decide) bc (by omega)
   have an := JJ hat r bj
   have tz := an.pt 1 1 (by omega) rfl
   have bW : rd M fb (fo + r) 1 [vi (Af e r)] := Cj aN r (by omega)
   obtain ⟨gV, hlo⟩ := hx.fr r bj
   obtain ⟨cW, eo, hin, kZ⟩ := Sz hp hx bj
   have bg := hp.loc r bj
   obtain ⟨la, lc, aT, _, aX⟩ := bC _ cW
   rw [← eo] at aT aX
   rw [lAu] at aT
   have s3 : (evAt p r).op.loc < (e.ord.length : Int) := by omega
   have m4 := comD_ok hp hx r (by omega)
   have ih1 := ih (r + 1) (by omega) (by omega)
   simp only [Qm] at ih1
   have m5 := comD1_ok (e := e) m4 bj
   have s5 : O2 (Qm p e r) e r = if 0 ≤ Af e r then N0 (Qm p e r) (Af e r).toNat r else Qm p e r := rfl
   generalize Qm p e r = q at *
   generalize Lz p e r = l at *
   change Af e r < _ at gV
   clear ih hat aN eo
   cases hre : (evAt p r).reads with
   | false =>
    rw [if_neg (by rw [hre]; simp)] at ih1
    repeat' first | refine st ?_ | (refine EV.reg ?_; (conv => (arg 2; whnf)); (repeat first | refine nx ?_ | simp only [hre])) | (refine Aq.call (Ci (evAt p r)) ?_; (repeat first | refine nx ?_ | simp only [hre])) | (refine cX ?_ ?_ <;> intro h <;> try exact Ah h) | refine ZF ?_ | (refine xm ?_; (repeat first | refine nx ?_ | simp only [hre])) | fail
    refine JE ih1 ?_
    exact eE
   | true =>
    rw [if_pos hre] at ih1
    repeat' first | refine ZF ?_ | (refine xm ?_; try refine nx ?_) | exact ⟨⟩ | fail
    refine EV.seq ?_
    refine EV.seq ?_
    repeat' first | refine su ?_ | (refine EV.reg ?_; (conv => (arg 2; whnf)); (repeat first | refine nx ?_ | simp only [hre])) | (refine Aq.call (Ci (evAt p r)) ?_; (repeat first | refine nx ?_ | simp only [hre])) | (refine cX ?_ ?_ <;> intro h <;> try exact Ah h) | refine ZF ?_ | (refine xm ?_; (repeat first | refine nx ?_ | simp only [hre])) | fail
    refine EV.seq (JI (fun ρ' M' G' => M' = M ∧ (∀ q ∈ [(0, .slice (some ⟨pb, po, none⟩) p.length c), (3, pv xb 0), (5, Av rb p.length p.length), (12, vi r), (13, vi (Af e r)), (50, .slice (some ⟨fb, fo, none⟩) e.frm.length fc), (51, vi e.frm.length), (52, vi r)], get ρ' q.1 = some q.2) ∧
     G' = [(xb, Cl 45 [.slice (some ⟨fb, fo, none⟩) e.frm.length fc, d, .slice (some ⟨ob, oo, none⟩) e.ord.length oc, n]), (rb, Cl 144 ((O2 q e r).map vu))]) ?_ ?_)
    ·intro k' key
     clear ih1
     rw [s5] at key
     repeat' first | refine st ?_ | refine rg ?_ | (refine cX ?_ ?_ <;> intro h <;> try exact Ah h) | exact ⟨⟩ | fail
     ·refine JN (Hl m4 hb (by omega) gV (by omega) (by omega)) (JB _ _) ?_
      rintro v M'' G' rfl
      (refine nx ?_; try with_reducible exact ⟨⟩)
      repeat' first | fail
      rw [if_pos (by omega)] at key
      refine JH (key _ _ _ ⟨rfl, ?_, rfl⟩)
      exact eE
     ·rw [if_neg (by omega)] at key
      refine JH (key _ _ _ ⟨rfl, ?_, rfl⟩)
      exact eE
    rintro ρ2 M2 G2 ⟨rfl, hq, rfl⟩
    refine JA ?_ hq (lA0 _)
    clear hq s5
    generalize O2 q e r = q1 at *
    repeat' first | refine st ?_ | ((first | refine EV.reg ?_ | refine EV.any _ (lA0 _) ?_ | fail); (conv => (arg 2; whnf)); refine nx ?_) | refine ZF ?_ | ((first | refine xm ?_ | refine xn ?_ | refine xsA rfl ?_ | fail); try refine nx ?_) | exact ⟨⟩ | fail
    refine JC (fun i : Nat => ([(0, .slice (some ⟨pb, po, none⟩) p.length c), (3, pv xb 0), (5, Av rb p.length p.length), (12, vi r), (13, vi (Af e r)), (14, vb (Sy q1 r (Af e r) l i).2), (50, .slice (some ⟨fb, fo, none⟩) e.frm.length fc), (51, vi e.frm.length), (52, vi r), (80, .slice la l.length lc), (81, vi l.length), (82, vi i)], M2,
      [(xb, Cl 45 [.slice (some ⟨fb, fo, none⟩) e.frm.length fc, d, .slice (some ⟨ob, oo, none⟩) e.ord.length oc, n]), (rb, Cl 144 ((Sy q1 r (Af e r) l i).1.map vu))]))
     (fun i => i ≤ l.length) (fun i => l.length - i) 0 rfl (lA8 _) ?env5 (lA0 _) ?_
    case env5 =>
     exact eE
    intro i hi ih
    dsimp only at hi ih ⊢
    repeat' first | refine st ?_ | refine rg ?_ | (refine cX ?_ ?_ <;> intro h <;> try exact Ah h) | exact ⟨⟩ | fail
    ·have aC : i < l.length := by omega
     obtain ⟨wb, wo, rfl, bA⟩ := Sl.at (sz := 1) (enc := ei) (fun _ => rfl) (by decide) aX (by omega)
     have kg := Cj bA i aC
     have fA := E0 hin aC
     have m6 := comE_ok (r := r) (fr := Af e r) m5 hin i hi
     have ih2 := ih (i + 1) (by omega) (by omega)
     simp only [Sy] at ih2
     generalize Sy q1 r (Af e r) l i = qe at *
     obtain ⟨qe1, qe2⟩ := qe
     dsimp only at m6 ih2 ⊢
     clear ih ih1 bA
     repeat' first | refine st ?_ | refine rg ?_ | with_reducible assumption | (refine JD ?_ (fun hc K' hK => ?_) ?_; rotate_left) | (refine cX ?_ ?_ <;> intro h <;> try exact Ah h) | refine ZF ?_ | (refine xm ?_; try refine nx ?_) | exact ⟨⟩ | fail
     ·refine JN (Hl m6 hb (by omega) (by omega) fA.1 fA.2) (JB _ _) ?_
      rintro v M'' G' rfl
      (refine nx ?_; try with_reducible exact ⟨⟩)
      rw [if_pos (by simp_all)] at ih2
      repeat' first | refine su ?_ | refine rg ?_ | with_reducible assumption | (refine JD ?_ (fun hc K' hK => ?_) ?_; rotate_left) | exact ⟨⟩ | fail
      refine JE ih2 ?_
      exact eE
     ·rw [if_neg (by grind)] at ih2
      refine JE ih2 ?_
      exact eE
    ·have bO : i = l.length := by omega
     subst bO
     refine JE ih1 ?_
     exact eE
  ·have hre : r = e.frm.length := by omega
   subst hre
   have ai := comD_ok hp hx p.length (lA5 _)
   rw [aj]
   refine JN (Ly ai hb) (JB _ _) ?_
   rintro v M' G' ⟨rfl, rfl⟩
   (refine nx ?_; try with_reducible exact ⟨⟩)
   repeat' first | fail
   refine JE (ρ' := [(4, Av rb p.length p.length)]) (G' := [(rb, Cl 144 ((Ca (Qm p e p.length)).map vu))]) ?_ ?env6
   case env6 =>
    exact eE
   (refine rt Q12_ok ?_; try with_reducible exact ⟨⟩)
   exact ⟨rb, rfl, rfl⟩
end
def Ec (q : Rel) (e : Exec) : Nat → Rel
 | 0 => q
 | r + 1 => if 0 ≤ Af e r then N0 (Ec q e r) (Af e r).toNat r else Ec q e r
def Un (p : List Ev) (e : Exec) : Rel := Ca (Ec (Ix p e.fen) e p.length)
def O3 (p : List Ev) (e : Exec) : Bool := (List.range p.length).any fun a => (List.range p.length).any fun b => A6 (Gz p e) a b && A6 (Bg4 p e) b a
def Ed (l : List Int) : Nat → Int
 | 0 => -1
 | i + 1 => Ae l i
def S0 (p : List Ev) (e : Exec) (l : List Int) (i : Nat) : Bool := (evAt p (Ae l i).toNat).reads && decide (Af e (Ae l i).toNat ≠ Ed l i)
def C0 (p : List Ev) (e : Exec) (l : List Int) : Bool := (List.range l.length).any (S0 p e l)
def Dm (p : List Ev) (e : Exec) : Int :=
 if Be (Un p e) then 2 else if Be (Gz p e) || O3 p e then 3 else if e.ord.any (C0 p e) then 4 else 0
theorem roundGo_ok {p : List Ev} {q : Rel} (hq : RelOk p.length q) {e : Exec} (hx : XOk p e) : ∀ r, r ≤ p.length → RelOk p.length (Ec q e r)
 | 0, _ => hq
 | r + 1, h => by
  simp only [Ec]
  split
  ·exact (roundGo_ok hq hx r (by omega)).put _ (by omega)
  ·exact roundGo_ok hq hx r (by omega)
theorem beforeP_ok {p : List Ev} {e : Exec} (hx : XOk p e) : RelOk p.length (Gz p e) := (befGo_ok hx _ (lA5 _)).close
theorem comP_ok {p : List Ev} (hp : POk p) {e : Exec} (hx : XOk p e) : RelOk p.length (Bg4 p e) := (comD_ok hp hx _ (lA5 _)).close
theorem Gl {M : Aa} {G : Own} {α : Type} {b n : Nat} {T : TypeId} {f : α → Value} {xs : List α} [h : At G b T (xs.map f)] (hn : xs.length = n) : rd (M.add G) b 0 n (xs.map f) :=
 Bm h.mem (by rw [lBr, lAw (by rw [lA1]; omega)]) (by rw [lA1]; omega)
theorem Gm {n : Nat} {f : Nat → Bool} (h : ∀ a, a < n → f a = false) : (List.range n).any f = false := by
 simp only [lF5, lAl]
 intro a ha; rw [h a ha]; simp
theorem Fm {n : Nat} {f : Nat → Bool} {a : Nat} (ha : a < n) (h : f a = true) : (List.range n).any f = true := by
 simp only [lBx, lAl]; exact ⟨a, ha, h⟩
section
variable {M : Aa}
theorem O4 (p : List Ev) (s : Value) (hs : Sl M 6 Bj s p) (hp : POk p) (e : Exec) (v : Value) (hv : IsX M v e) (hx : XOk p e) :
  Aq Tryz.prog 83 #[s, v] M (vi (Dm p e)) := by
 have aM := hs
 have bY := hv
 have hb := hp.len
 obtain ⟨a, c, rfl, aH⟩ := hs
 obtain ⟨f, d, o, n, rfl, hf, hd, ho, hn⟩ := hv
 have gH := hn
 obtain ⟨fa, fc, rfl, bc⟩ := hf
 obtain ⟨oa, oc, ovs, rfl, ar, bQ, bi⟩ := ho
 have aj := hx.fl
 have eG := hx.ol
 have bR := hx.fin.2
 obtain ⟨ob, oo, rfl, bC⟩ := Dj.at bQ ar bi (by omega)
 refine Con.enter Q11_ok (args := [.slice a p.length c, .agg #[.slice fa e.frm.length fc, d, .slice (some ⟨ob, oo, none⟩) e.ord.length oc, n]]) (by simp [Q11]) fun w0 => ?_
 simp only [Q11, A9]
 repeat' first | refine st ?_ | refine rg ?_ | ((first | with_reducible intro b | refine xrA rfl ?_ | fail); try refine nx ?_) | exact ⟨⟩ | fail
 rename Nat => xb
 refine Con.callB (G1 := []) (Rr p _ (aM.mono (JB _ _)) hb _ _ _ _ e.fen (gH.mono (JB _ _)) hx.fin.1 (by omega)) (Aa.le_refl _) (lAf _) ?_
 rintro v M' G' ⟨rb, rfl, rfl⟩
 (refine nx ?_; try with_reducible exact ⟨⟩)
 repeat' first | refine st ?_ | refine rg ?_ | (refine xsA rfl ?_; try refine nx ?_) | exact ⟨⟩ | fail
 refine JC (fun r : Nat => ([(0, .slice a p.length c), (3, pv xb 0), (5, Av rb p.length p.length), (21, .slice fa e.frm.length fc), (22, vi e.frm.length), (23, vi r)], M,
   [(xb, Cl 45 [.slice fa e.frm.length fc, d, .slice (some ⟨ob, oo, none⟩) e.ord.length oc, n]), (rb, Cl 144 ((Ec (Ix p e.fen) e r).map vu))]))
  (fun r => r ≤ e.frm.length) (fun r => e.frm.length - r) 0 rfl (lA8 _) ?env1 (lA0 _) ?_
 case env1 =>
  exact eE
 intro r hr ih
 dsimp only at hr ih ⊢
 have jL := roundGo_ok (stepsP_ok hx.fin.1) hx r (by omega)
 repeat' first | refine st ?_ | refine rg ?_ | (refine cX ?_ ?_ <;> intro h <;> try exact Ah h) | exact ⟨⟩ | fail
 ·have bj : r < p.length := by omega
  obtain ⟨fb, fo, rfl, aN⟩ := Sl.at (sz := 1) (enc := ei) (fun _ => rfl) (by decide) bc (by omega)
  have bW : rd M fb (fo + r) 1 [vi (Af e r)] := Cj aN r (by omega)
  obtain ⟨gV, hlo⟩ := hx.fr r bj
  change Af e r < _ at gV
  have ih1 := ih (r + 1) (by omega) (by omega)
  simp only [Ec] at ih1
  generalize Ec (Ix p e.fen) e r = q at *
  clear ih aN
  repeat' first | refine st ?_ | refine rg ?_ | (refine cX ?_ ?_ <;> intro h <;> try exact Ah h) | refine ZF ?_ | (refine xm ?_; try refine nx ?_) | exact ⟨⟩ | fail
  ·refine JN (Hl jL hb (by omega) gV (by omega) (by omega)) (JB _ _) ?_
   rintro v M'' G' rfl
   (refine nx ?_; try with_reducible exact ⟨⟩)
   rw [if_pos (by omega)] at ih1
   repeat' first | refine su ?_ | refine rg ?_ | exact ⟨⟩ | fail
   refine JE ih1 ?_
   exact eE
  ·rw [if_neg (by omega)] at ih1
   refine JE ih1 ?_
   exact eE
 ·have hre : r = p.length := by omega
  subst hre
  clear ih
  refine JN (Ly jL hb) (JB _ _) ?_
  rintro v M' G' ⟨rfl, rfl⟩
  (refine nx ?_; try with_reducible exact ⟨⟩)
  have ki : RelOk p.length (Un p e) := jL.close
  rw [show Ca (Ec (Ix p e.fen) e p.length) = Un p e from rfl]
  repeat' first | refine st ?_ | refine rg ?_ | (refine Aq.call (Oz ki hb (Gl (f := vu) ki.len)) ?_; try refine nx ?_) | (refine cX ?_ ?_ <;> intro h <;> try exact Ah h) | exact ⟨⟩ | fail
  ·(refine rt Q11_ok ?_; try with_reducible exact ⟨⟩)
   rw [Dm, if_pos (by assumption)]
  have fB : Dm p e = if Be (Gz p e) || O3 p e then 3 else if e.ord.any (C0 p e) then 4 else 0 := by rw [Dm, if_neg (by simp_all)]
  rw [fB]
  refine JE (ρ' := [(0, .slice a p.length c), (3, pv xb 0)]) (G' := [(xb, Cl 45 [.slice fa e.frm.length fc, d, .slice (some ⟨ob, oo, none⟩) e.ord.length oc, n])]) ?_ ?env2
  case env2 =>
   exact eE
  clear ki jL fB
  refine EV.any (t := Ag0) _ (lA0 _) ?_
  (repeat first | refine nx ?_ | simp only [Ag0])
  repeat' first | (refine xrA rfl ?_; try refine nx ?_) | exact ⟨⟩ | fail
  refine Con.callB (G1 := []) (W3 p _ (aM.mono (JB _ _)) hp e _ (bY.mono (JB _ _)) hx) (Aa.le_refl _) (lAf _) ?_
  rintro v M1 G1 ⟨gp, rfl, rfl⟩
  (refine nx ?_; try with_reducible exact ⟨⟩)
  repeat' first | (refine lAd (Aa.le_refl _) (lAd (Ax ?_) ?_); focus ((repeat' first | exact lA0 _ | exact lAe _ | exact lAh _ _ | refine lAg _ ?_ | refine lAo ?_ _ | refine lA9 ?_ | refine lAq _ ?_); done); try refine nx ?_) | exact ⟨⟩ | fail
  refine Con.callB (G1 := []) (Ao9 p _ (aM.mono (JB _ _)) hp e _ (bY.mono (JB _ _)) hx) (Aa.le_refl _) (lAf _) ?_
  rintro v M2 G2 ⟨cb, rfl, rfl⟩
  (refine nx ?_; try with_reducible exact ⟨⟩)
  have gW := beforeP_ok hx
  have jK := comP_ok hp hx
  have gA : O3 p e = (List.range p.length).any fun a => (List.range p.length).any fun b => A6 (Gz p e) a b && A6 (Bg4 p e) b a := rfl
  generalize Gz p e = jn at *
  generalize Bg4 p e = coR at *
  repeat' first | refine st ?_ | refine rg ?_ | (refine Aq.call (Oz gW hb (Gl (f := vu) gW.len)) ?_; try refine nx ?_) | (refine cX ?_ ?_ <;> intro h <;> try exact Ah h) | exact ⟨⟩ | fail
  ·(refine rt Q11_ok ?_; try with_reducible exact ⟨⟩)
   rw [if_pos (by simp_all)]
  have kj : Be (jn) = false := by simp_all
  refine JC (fun x : Nat => ([(0, .slice a p.length c), (3, pv xb 0), (8, Av gp p.length p.length), (9, Av cb p.length p.length), (47, vi p.length), (48, vi x)], M,
    [(xb, Cl 45 [.slice fa e.frm.length fc, d, .slice (some ⟨ob, oo, none⟩) e.ord.length oc, n]), (gp, Cl 144 ((jn).map vu)), (cb, Cl 144 ((coR).map vu))]))
   (fun x => x ≤ p.length ∧ ∀ x', x' < x → ((List.range p.length).any fun y => A6 (jn) x' y && A6 (coR) y x') = false) (fun x => p.length - x) 0 rfl ⟨lA8 _, fun _ h => absurd h (lBn _)⟩ ?env3 (lA0 _) ?_
  case env3 =>
   exact eE
  rintro x ⟨d5, aI⟩ ih
  dsimp only at d5 aI ih ⊢
  repeat' first | refine st ?_ | refine rg ?_ | (refine cX ?_ ?_ <;> intro h <;> try exact Ah h) | (refine xsA rfl ?_; try refine nx ?_) | exact ⟨⟩ | fail
  ·have dj : x < p.length := by omega
   refine JC (fun y : Nat => ([(0, .slice a p.length c), (3, pv xb 0), (8, Av gp p.length p.length), (9, Av cb p.length p.length), (10, vi x), (47, vi p.length), (48, vi x), (52, vi p.length), (53, vi y)], M,
     [(xb, Cl 45 [.slice fa e.frm.length fc, d, .slice (some ⟨ob, oo, none⟩) e.ord.length oc, n]), (gp, Cl 144 ((jn).map vu)), (cb, Cl 144 ((coR).map vu))]))
    (fun y => y ≤ p.length ∧ ∀ y', y' < y → (A6 (jn) x y' && A6 (coR) y' x) = false) (fun y => p.length - y) 0 rfl ⟨lA8 _, fun _ h => absurd h (lBn _)⟩ ?env4 (lA0 _) ?_
   case env4 =>
    exact eE
   rintro y ⟨uA, cK⟩ ih2
   dsimp only at uA cK ih2 ⊢
   repeat' first | refine st ?_ | refine rg ?_ | (refine cX ?_ ?_ <;> intro h <;> try exact Ah h) | exact ⟨⟩ | fail
   ·have p7 : y < p.length := by omega
    obtain ⟨gB, eb1⟩ := gW.get dj
    obtain ⟨aS, ec1⟩ := jK.get p7
    have dT := gW.at hb x
    have kl := jK.at hb y
    have c8 : (A6 (jn) x y && A6 (coR) y x) = ((jn)[x].testBit y && (coR)[y].testBit x) := by simp only [A6, eb1, ec1]
    rw [eb1] at dT
    rw [ec1] at kl
    have ih3 := ih2 (y + 1)
    clear ih ih2
    repeat' first | fail
    refine Aq.call (N9 (j := y) (Cg (f := vu) gB) dj (by omega) (by omega) dT) ?_
    (refine nx ?_; try with_reducible exact ⟨⟩)
    have next : (jn[x].testBit y && coR[y].testBit x) = false → _ := fun uB => ih3 ⟨by omega, fun y' eP => by
     by_cases e1 : y' = y
     ·subst e1; rw [c8]; exact uB
     ·exact cK y' (by omega)⟩ (by omega)
    repeat' first | refine st ?_ | refine rg ?_ | (refine A4.intro (fun hc => ?_) (fun hc => ?_) <;> try simp only [ne_eq, lBd, lB9, not_true_eq_false, not_false_eq_true, reduceCtorEq] at hc <;> try (exfalso; first | exact hc | omega | (simp at hc; done))) | (refine cX ?_ ?_ <;> intro h <;> try exact Ah h) | exact ⟨⟩ | fail
    all_goals try (exfalso; exact hc h; done)
    ·refine Aq.call (N9 (j := x) (Cg (f := vu) aS) p7 (by omega) (by omega) kl) ?_
     (refine nx ?_; try with_reducible exact ⟨⟩)
     repeat' first | refine st ?_ | refine rg ?_ | (refine cX ?_ ?_ <;> intro h <;> try exact Ah h) | exact ⟨⟩ | fail
     ·(refine rt Q11_ok ?_; try with_reducible exact ⟨⟩)
      have p8 : O3 p e = true := gA ▸ Fm dj (Fm p7 (by rw [c8]; simp_all))
      rw [if_pos (by rw [p8]; simp)]
     ·refine JE (next (by grind)) ?_
      exact eE
    ·refine JE (next (by grind)) ?_
     exact eE
   ·refine JE (ih (x + 1) ⟨by omega, fun x' bk => ?_⟩ (by omega)) ?_
    ·by_cases e1 : x' = x
     ·subst e1; exact Gm fun y' eP => cK y' (by omega)
     ·exact aI x' (by omega)
    ·exact eE
  ·have p8 : O3 p e = false := gA ▸ Gm fun x' bk => aI x' (by omega)
   rw [kj, p8]
   simp only [Bool.or_self, lC8, if_false]
   clear ih
   refine JC (fun k : Nat => ([(0, .slice a p.length c), (3, pv xb 0), (69, .slice (some ⟨ob, oo, none⟩) e.ord.length oc), (70, vi e.ord.length), (71, vi k)], M,
     [(xb, Cl 45 [.slice fa e.frm.length fc, d, .slice (some ⟨ob, oo, none⟩) e.ord.length oc, n])]))
    (fun k => k ≤ e.ord.length ∧ (e.ord.take k).any (C0 p e) = false) (fun k => e.ord.length - k) 0 rfl ⟨lA8 _, by simp⟩ ?env5 (by simp) ?_
   case env5 =>
    exact eE
   rintro k ⟨hk, aI⟩ ih
   dsimp only at hk aI ih ⊢
   repeat' first | refine st ?_ | refine rg ?_ | (refine cX ?_ ?_ <;> intro h <;> try exact Ah h) | refine ZF ?_ | exact ⟨⟩ | fail
   ·have af : k < e.ord.length := by omega
    obtain ⟨la, lc, aT, cW, aX⟩ := bC k af
    rw [lAu] at aT
    obtain ⟨hin, kZ⟩ := hx.oin _ (lAm af)
    have aJ := lAm af
    have gX : (e.ord.take (k + 1)).any (C0 p e) = C0 p e e.ord[k] := by
     rw [lA7 af, List.any_append, aI]; simp
    have ih1 := ih (k + 1)
    rw [gX] at ih1
    generalize e.ord[k] = l at *
    clear ih gX
    repeat' first | refine st ?_ | refine rg ?_ | (refine xn ?_; try refine nx ?_) | exact ⟨⟩ | fail
    refine JC (fun i : Nat => ([(0, .slice a p.length c), (3, pv xb 0), (13, .slice la l.length lc), (14, vi (Ed l i)), (69, .slice (some ⟨ob, oo, none⟩) e.ord.length oc), (70, vi e.ord.length), (71, vi k), (75, .slice la l.length lc), (76, vi l.length), (77, vi i)], M,
      [(xb, Cl 45 [.slice fa e.frm.length fc, d, .slice (some ⟨ob, oo, none⟩) e.ord.length oc, n])]))
     (fun i => i ≤ l.length ∧ ∀ i', i' < i → S0 p e l i' = false) (fun i => l.length - i) 0 rfl ⟨lA8 _, fun _ h => absurd h (lBn _)⟩ ?env6 (lA0 _) ?_
    case env6 =>
     exact eE
    rintro i ⟨hi, cK⟩ ih2
    dsimp only at hi cK ih2 ⊢
    repeat' first | refine st ?_ | refine rg ?_ | (refine cX ?_ ?_ <;> intro h <;> try exact Ah h) | exact ⟨⟩ | fail
    ·have aC : i < l.length := by omega
     obtain ⟨wb, wo, rfl, bA⟩ := Sl.at (sz := 1) (enc := ei) (fun _ => rfl) (by decide) aX (by omega)
     have kg := Cj bA i aC
     have fA := E0 hin aC
     obtain ⟨pb, po, rfl, hat⟩ := Sl.at (enc := Bj) (fun _ => rfl) (by decide) aH (by omega)
     obtain ⟨fb, fo, rfl, aN⟩ := Sl.at (sz := 1) (enc := ei) (fun _ => rfl) (by decide) bc (by omega)
     have k8 := JJ hat (Ae l i).toNat (by omega)
     have oX : rd M fb (fo + (Ae l i).toNat) 1 [vi (Af e (Ae l i).toNat)] := Cj aN _ (by omega)
     have iG : Ae l i < (e.frm.length : Int) := by omega
     have oV : S0 p e l i = ((evAt p (Ae l i).toNat).reads && decide (Af e (Ae l i).toNat ≠ Ed l i)) := rfl
     have ih3 := ih2 (i + 1)
     simp only [Ed] at ih3
     clear ih2 bA hat aN
     repeat' first | refine st ?_ | refine rg ?_ | (refine Aq.call (Ci (evAt p (Ae l i).toNat)) ?_; try refine nx ?_) | with_reducible assumption | (refine JD ?_ (fun hc K' hK => ?_) ?_; rotate_left) | (refine cX ?_ ?_ <;> intro h <;> try exact Ah h) | refine ZF ?_ | ((first | refine xm ?_ | refine xsA rfl ?_ | fail); try refine nx ?_) | exact ⟨⟩ | fail
     ·(refine rt Q11_ok ?_; try with_reducible exact ⟨⟩)
      have jo : C0 p e l = true := Fm aC (by rw [oV]; simp_all)
      rw [if_pos (lBx.2 ⟨l, aJ, jo⟩)]
     ·refine JE (ih3 ⟨by omega, fun i' bo => ?_⟩ (by omega)) ?_
      ·by_cases e1 : i' = i
       ·subst e1; rw [oV]; grind
       ·exact cK i' (by omega)
      ·exact eE
    ·refine JE (ih1 ⟨by omega, Gm fun i' bo => cK i' (by omega)⟩ (by omega)) ?_
     exact eE
   ·have eH : k = e.ord.length := by omega
    subst eH
    rw [lB2] at aI
    (refine rt Q11_ok ?_; try with_reducible exact ⟨⟩)
    rw [aI]; rfl
end
def I0 (p : List Ev) (e : Exec) (i : Nat) : Bool :=
 (decide ((evAt p i).op.kind = 3) && xor (e.dn[i]?.getD false) (decide ((Aw p e.frm).r[i]?.getD 0 = (evAt p i).op.v))) ||
 (decide ((evAt p i).op.kind = 4) && (e.dn[i]?.getD false) && decide ((Aw p e.frm).r[i]?.getD 0 ≠ (evAt p i).op.v))
def Ee (p : List Ev) (e : Exec) : Bool := !((List.range p.length).any (I0 p e)) && decide (Dm p e = 0)
section
variable {M : Aa}
theorem S1 (p : List Ev) (s : Value) (hs : Sl M 6 Bj s p) (hp : POk p) (e : Exec) (v : Value) (hv : IsX M v e) (hx : XOk p e) :
  Aq Tryz.prog 81 #[s, v] M (vb (Ee p e)) := by
 have aM := hs
 have bY := hv
 have hb := hp.len
 obtain ⟨a, c, rfl, aH⟩ := hs
 obtain ⟨f, d, o, n, rfl, hf, hd, ho, hn⟩ := hv
 have dh := hf
 obtain ⟨da, dc, rfl, mY⟩ := hd
 have ax := hx.dl
 refine Con.enter Q32_ok (args := [.slice a p.length c, .agg #[f, .slice da e.dn.length dc, o, n]]) (by simp [Q32]) fun w0 => ?_
 simp only [Q32, A9]
 repeat' first | refine st ?_ | refine rg ?_ | ((first | with_reducible intro b | refine xrA rfl ?_ | fail); try refine nx ?_) | exact ⟨⟩ | fail
 rename Nat => xb
 refine Con.callS (G1 := []) (Ro p _ aM (by omega) e.frm _ _ _ _ dh hx.fromOk) ?_
 rintro v M1 G1 bv ⟨rv, wv, kv, rfl, hr, -, -⟩
 obtain ⟨ra, rc, rfl, cn⟩ := hr
 have ed : (Aw p e.frm).r.length = p.length := (Fu p e.frm _).r
 (refine nx ?_; try with_reducible exact ⟨⟩)
 repeat' first | refine st ?_ | refine rg ?_ | exact ⟨⟩ | fail
 refine JE (ρ' := [(0, .slice a p.length c), (3, pv xb 0), (5, .slice ra (Aw p e.frm).r.length rc), (17, .slice a p.length c), (18, vi p.length), (19, vi (0 : Nat))]) (G' := [(xb, Cl 45 [f, .slice da e.dn.length dc, o, n])]) ?_ ?env0
 case env0 =>
  exact eE
 refine JC (fun i : Nat => ([(0, .slice a p.length c), (3, pv xb 0), (5, .slice ra (Aw p e.frm).r.length rc), (17, .slice a p.length c), (18, vi p.length), (19, vi i)], M1, [(xb, Cl 45 [f, .slice da e.dn.length dc, o, n])]))
  (fun i => i ≤ p.length ∧ ∀ i', i' < i → I0 p e i' = false) (fun i => p.length - i) 0 rfl ⟨lA8 _, fun _ h => absurd h (lBn _)⟩ ?env1 (lA0 _) ?_
 case env1 =>
  exact eE
 rintro i ⟨hi, aI⟩ ih
 dsimp only at hi aI ih ⊢
 repeat' first | refine st ?_ | refine rg ?_ | (refine cX ?_ ?_ <;> intro h <;> try exact Ah h) | (refine xrA rfl ?_; try refine nx ?_) | exact ⟨⟩ | fail
 ·have aC : i < p.length := by omega
  obtain ⟨pb, po, rfl, hat⟩ := Sl.at (enc := Bj) (fun _ => rfl) (by decide) aH (by omega)
  obtain ⟨db, do', rfl, iH⟩ := Sl.at (sz := 1) (enc := eb) (fun _ => rfl) (by decide) mY (by omega)
  obtain ⟨rb, ro, rfl, gY⟩ := Sl.at (sz := 1) (enc := ei) (fun _ => rfl) (by decide) cn (by omega)
  have jH := (JJ hat i aC).mono bv
  have s6 : rd M1 db (do' + i) 1 [vb (e.dn[i]?.getD false)] := by
   have := (iH i (by omega)).mono bv
   rw [lAu] at this
   rwa [lA2 (by omega : i < e.dn.length)]
  have iD : rd M1 rb (ro + i) 1 [vi ((Aw p e.frm).r[i]?.getD 0)] := Cj gY i (by omega)
  have uC : (i : Int) < e.dn.length := by omega
  have s7 : (i : Int) < (Aw p e.frm).r.length := by omega
  have ik : I0 p e i = ((decide ((evAt p i).op.kind = 3) && xor (e.dn[i]?.getD false) (decide ((Aw p e.frm).r[i]?.getD 0 = (evAt p i).op.v))) ||
   (decide ((evAt p i).op.kind = 4) && (e.dn[i]?.getD false) && decide ((Aw p e.frm).r[i]?.getD 0 ≠ (evAt p i).op.v))) := rfl
  have ih3 := ih (i + 1)
  have hpos : I0 p e i = true → Ee p e = false := fun h => by
   rw [Ee, Fm aC h]; rfl
  clear ih hat iH gY
  repeat' first | refine st ?_ | ((first | refine EV.reg ?_ | refine EV.any _ (lA0 _) ?_ | fail); (conv => (arg 2; whnf)); refine nx ?_) | (refine JT ?_ (fun hc => ?_) ?_; rotate_left; (try simp only [decide_eq_true_eq, decide_eq_false_iff_not, lB6, lCe, lA6, lAr, lBj, lBq] at hc)) | (with_reducible rfl) | (refine cX ?_ ?_ <;> intro h <;> try exact Ah h) | (with_reducible intro b; try refine nx ?_) | refine ZF ?_ | ((first | refine xm ?_ | refine xiA rfl ?_ | refine xsA rfl ?_ | fail); try refine nx ?_) | (refine xw ?_; refine nx ?_) | exact ⟨⟩ | fail
  ·have hw : I0 p e i = true := by rw [ik]; simp_all
   (refine rt Q32_ok ?_; try with_reducible exact ⟨⟩)
   rw [hpos hw]
  ·have hw : I0 p e i = false := by rw [ik]; grind
   refine JE (ih3 ⟨by omega, fun i' bo => ?_⟩ (by omega)) ?_
   ·by_cases e1 : i' = i
    ·subst e1; exact hw
    ·exact aI i' (by omega)
   ·exact eE
 ·have bO : i = p.length := by omega
  subst bO
  have uD : Ee p e = decide (Dm p e = 0) := by rw [Ee, Gm aI]; rfl
  repeat' first | (refine Aq.call (O4 p _ (aM.mono (Aa.le_trans bv (JB _ _))) hp e _ (bY.mono (Aa.le_trans bv (JB _ _))) hx) ?_; try refine nx ?_) | exact ⟨⟩ | fail
  (refine rt Q32_ok ?_; try with_reducible exact ⟨⟩)
  rw [uD]
end
theorem Yl {H : Aa} {n : Nat} {cs : List Value} (h : rdS H 1 none n cs) : n = 0 ∧ cs = [] := by
 rcases h with ⟨h0, rfl⟩ | ⟨b, off, e, _⟩
 ·exact ⟨by omega, rfl⟩
 ·cases e
section
variable {M : Aa}
theorem Hm (xs : List Int) (s : Value) (hs : Sl M 1 ei s xs) (hb : xs.length < 1000000) : Con Tryz.prog 113 #[s] M [] (Dh7 xs) := by
 obtain ⟨a, c, rfl, aH⟩ := hs
 rw [A0] at aH
 refine Con.enter Q111_ok (args := [.slice a xs.length c]) (by simp [Dk1]) fun w0 => ?_
 simp only [Dk1, A9]
 cases a with
 | none =>
  obtain ⟨h0, eB⟩ := Yl aH
  repeat' first | refine st ?_ | (refine EV.reg ?_; (conv => (arg 2; whnf)); (repeat first | refine nx ?_ | simp only [Option.isNone_none])) | (refine cX ?_ ?_ <;> intro h <;> try exact Ah h) | fail
  (refine rt Q111_ok ?_; try with_reducible exact ⟨⟩)
  exact ⟨none, by rw [h0]; rfl, ⟨h0, eB⟩, rfl⟩
 | some ad =>
  repeat' first | refine st ?_ | (refine EV.reg ?_; (conv => (arg 2; whnf)); (repeat first | refine nx ?_ | simp only [lEy])) | (refine cX ?_ ?_ <;> intro h <;> try exact Ah h) | (with_reducible intro b; (repeat first | refine nx ?_ | simp only [lEy])) | fail
  refine ⟨xs.map vi, aH.mono (JB _ _), Yj xs, Or.inl ⟨some (b, 0, []), 0, rfl, [], ⟨rfl, rfl, lA5 _, by decide⟩, [], by simp [osg], ?_, ?_, ?_⟩⟩
  ·simp only [maxLen]; omega
  ·omega
  intro o' bH _
  (refine nx ?_; try with_reducible exact ⟨⟩)
  repeat' first | fail
  rw [lBi] at bH
  rw [lAj] at bH
  (refine rt Q111_ok ?_; try with_reducible exact ⟨⟩)
  exact ⟨o', rfl, bH, rfl⟩
def Fr2 (xs : List Bool) (v : Value) (_ : Aa) (G' : Own) : Prop := ∃ ov : Vec, v = osv ov xs.length ∧ Ey 1 ov xs.length (xs.map vb) ∧ G' = osg 4 ov (xs.map vb)
theorem W4 (xs : List Bool) (s : Value) (hs : Sl M 1 eb s xs) (hb : xs.length < 1000000) : Con Tryz.prog 124 #[s] M [] (Fr2 xs) := by
 obtain ⟨a, c, rfl, aH⟩ := hs
 rw [Er] at aH
 refine Con.enter Q110_ok (args := [.slice a xs.length c]) (by simp [Dk6]) fun w0 => ?_
 simp only [Dk6, A9]
 cases a with
 | none =>
  obtain ⟨h0, eB⟩ := Yl aH
  repeat' first | refine st ?_ | (refine EV.reg ?_; (conv => (arg 2; whnf)); (repeat first | refine nx ?_ | simp only [Option.isNone_none])) | (refine cX ?_ ?_ <;> intro h <;> try exact Ah h) | fail
  (refine rt Q110_ok ?_; try with_reducible exact ⟨⟩)
  exact ⟨none, by rw [h0]; rfl, ⟨h0, eB⟩, rfl⟩
 | some ad =>
  repeat' first | refine st ?_ | (refine EV.reg ?_; (conv => (arg 2; whnf)); (repeat first | refine nx ?_ | simp only [lEy])) | (refine cX ?_ ?_ <;> intro h <;> try exact Ah h) | (with_reducible intro b; (repeat first | refine nx ?_ | simp only [lEy])) | fail
  refine ⟨xs.map vb, aH.mono (JB _ _), Au3 xs, Or.inl ⟨some (b, 0, []), 0, rfl, [], ⟨rfl, rfl, lA5 _, by decide⟩, [], by simp [osg], ?_, ?_, ?_⟩⟩
  ·simp only [maxLen]; omega
  ·omega
  intro o' bH _
  (refine nx ?_; try with_reducible exact ⟨⟩)
  repeat' first | fail
  rw [lBi] at bH
  rw [lAj] at bH
  (refine rt Q110_ok ?_; try with_reducible exact ⟨⟩)
  exact ⟨o', rfl, bH, rfl⟩
theorem Ai1 (a : Option Addr) (n c : Nat) (hc : n ≤ c) : Aq Tryz.prog 119 #[.slice a n c] M (.slice a n n) := by
 refine Con.enter Q109_ok (args := [.slice a n c]) (by simp [Dk4]) fun w0 => ?_
 simp only [Dk4, A9]
 repeat' first | refine st ?_ | refine rg ?_ | exact ⟨⟩ | fail
 simp only [lC9, C2]
 refine ⟨n, rfl, n, rfl, lA5 _, hc, Or.inl rfl, ?_⟩
 have e : (if n = 0 then a else a.map fun x => x.add 0) = a := by
  split
  ·rfl
  ·cases a <;> simp [Addr.add]
 rw [e]
 (refine rt Q109_ok ?_; try with_reducible exact ⟨⟩)
def Ha (f : Int → Bool) (xs : List Int) : Int := if h : (xs.findIdx f) < xs.length then xs.findIdx f else -1
theorem Qn (xs : List Int) (s : Value) (hs : Sl M 1 ei s xs) (hb : xs.length < 1000000) (g : Nat) (caps : Array Value) (f : Int → Bool)
  (hf : ∀ M', M.le M' → ∀ x ∈ xs, Aq Tryz.prog g (#[vi x] ++ caps) M' (vb (f x))) : Aq Tryz.prog 140 #[s, .func (.func g) #[] caps] M (vi (Ha f xs)) := by
 obtain ⟨a, c, rfl, aH⟩ := hs
 refine Con.enter Q118_ok (args := [.slice a xs.length c, .func (.func g) #[] caps]) (by simp [Dk8]) fun w0 => ?_
 simp only [Dk8, A9]
 repeat' first | refine st ?_ | refine rg ?_ | exact ⟨⟩ | fail
 refine JC (fun i : Nat => ([(0, .slice a xs.length c), (1, .func (.func g) #[] caps), (7, vi xs.length), (8, vi i)], M, [])) (fun i => i ≤ xs.length ∧ ∀ j (h : j < xs.length), j < i → f xs[j] = false) (fun i => xs.length - i) 0 rfl ⟨lA8 _, fun j _ h => absurd h (lBn _)⟩ ?env1 (lA0 _) ?_
 case env1 =>
  exact eE
 rintro i ⟨hi, aI⟩ ih
 dsimp only at hi aI ih ⊢
 repeat' first | refine st ?_ | refine rg ?_ | (refine cX ?_ ?_ <;> intro h <;> try exact Ah h) | exact ⟨⟩ | fail
 ·have aC : i < xs.length := by omega
  obtain ⟨wb, wo, rfl, hat⟩ := Sl.at (sz := 1) (enc := ei) (fun _ => rfl) (by decide) aH (by omega)
  have iD := hat i aC
  rw [lAu] at iD
  repeat' first | refine st ?_ | refine rg ?_ | (refine Aq.call (hf _ (JB _ _) xs[i] (lAm aC)) ?_; try refine nx ?_) | (refine cX ?_ ?_ <;> intro h <;> try exact Ah h) | refine ZF ?_ | (refine xm ?_; try refine nx ?_) | exact ⟨⟩ | fail
  ·(refine rt Q118_ok ?_; try with_reducible exact ⟨⟩)
   have e : xs.findIdx f = i := by
    rw [List.findIdx_eq aC]
    exact ⟨by assumption, fun j hj => aI j (by omega) hj⟩
   rw [Ha, dif_pos (by omega), e]
  ·refine JA (ih (i + 1) ⟨by omega, fun j hj bD => ?_⟩ (by omega)) ?_ (lA0 _)
   ·by_cases e : j = i
    ·subst e; assumption
    ·exact aI j hj (by omega)
   ·exact eE
 ·(refine rt Q118_ok ?_; try with_reducible exact ⟨⟩)
  have e : xs.findIdx f = xs.length := by
   rw [List.findIdx_eq_length]
   intro x hx
   obtain ⟨j, hj, rfl⟩ := lBf hx
   exact aI j hj (by omega)
  rw [Ha, dif_neg (by omega)]
theorem L0 (xs : List Int) (s : Value) (hs : Sl M 1 ei s xs) (hb : xs.length < 1000000) (g : Nat) (caps : Array Value) (f : Int → Bool)
  (hf : ∀ M', M.le M' → ∀ x ∈ xs, Aq Tryz.prog g (#[vi x] ++ caps) M' (vb (f x))) : Aq Tryz.prog 117 #[s, .func (.func g) #[] caps] M (vb (xs.any f)) := by
 have aM := hs
 obtain ⟨a, c, rfl, aH⟩ := hs
 refine Con.enter Q115_ok (args := [.slice a xs.length c, .func (.func g) #[] caps]) (by simp [Dk3]) fun w0 => ?_
 simp only [Dk3, A9]
 repeat' first | refine st ?_ | refine rg ?_ | (refine Aq.call (Qn xs _ (aM.mono (JB _ _)) hb g caps f (fun M' bB => hf M' (Aa.le_trans (JB _ _) bB))) ?_; try refine nx ?_) | refine rt Q115_ok ?_ | exact ⟨⟩ | fail
 have e : decide (0 ≤ Ha f xs) = xs.any f := by
  rw [lEz, decide_eq_true_iff, lBx, Ha]
  constructor
  ·intro h
   split at h
   ·rename_i h2; exact lF1.1 h2
   ·omega
  ·intro h
   rw [dif_pos (lF1.2 h)]; omega
 first | rw [← e] | (rw [← e]; simp)
theorem Aa6 (xs : List Int) (s : Value) (hs : Sl M 1 ei s xs) (hb : xs.length < 1000000) (x : Int) : Aq Tryz.prog 114 #[s, vi x] M (vi (Ha (fun y => decide (x = y)) xs)) := by
 obtain ⟨a, c, rfl, aH⟩ := hs
 refine Con.enter Q119_ok (args := [.slice a xs.length c, vi x]) (by simp [Dk2]) fun w0 => ?_
 simp only [Dk2, A9]
 repeat' first | refine st ?_ | refine rg ?_ | exact ⟨⟩ | fail
 refine JC (fun i : Nat => ([(0, .slice a xs.length c), (1, vi x), (7, vi xs.length), (8, vi i)], M, [])) (fun i => i ≤ xs.length ∧ ∀ j (h : j < xs.length), j < i → decide (x = xs[j]) = false) (fun i => xs.length - i) 0 rfl ⟨lA8 _, fun j _ h => absurd h (lBn _)⟩ ?env1 (lA0 _) ?_
 case env1 =>
  exact eE
 rintro i ⟨hi, aI⟩ ih
 dsimp only at hi aI ih ⊢
 repeat' first | refine st ?_ | refine rg ?_ | (refine cX ?_ ?_ <;> intro h <;> try exact Ah h) | exact ⟨⟩ | fail
 ·have aC : i < xs.length := by omega
  obtain ⟨wb, wo, rfl, hat⟩ := Sl.at (sz := 1) (enc := ei) (fun _ => rfl) (by decide) aH (by omega)
  have iD := hat i aC
  rw [lAu] at iD
  repeat' first | refine st ?_ | refine rg ?_ | (refine cX ?_ ?_ <;> intro h <;> try exact Ah h) | refine ZF ?_ | (refine xm ?_; try refine nx ?_) | exact ⟨⟩ | fail
  ·(refine rt Q119_ok ?_; try with_reducible exact ⟨⟩)
   have e : xs.findIdx (fun y => decide (x = y)) = i := by
    rw [List.findIdx_eq aC]
    exact ⟨by simpa using by assumption, fun j hj => aI j (by omega) hj⟩
   rw [Ha, dif_pos (by omega), e]
  ·refine JA (ih (i + 1) ⟨by omega, fun j hj bD => ?_⟩ (by omega)) ?_ (lA0 _)
   ·by_cases e : j = i
    ·subst e; simpa using by assumption
    ·exact aI j hj (by omega)
   ·exact eE
 ·(refine rt Q119_ok ?_; try with_reducible exact ⟨⟩)
  have e : xs.findIdx (fun y => decide (x = y)) = xs.length := by
   rw [List.findIdx_eq_length]
   intro y hy
   obtain ⟨j, hj, rfl⟩ := lBf hy
   exact aI j hj (by omega)
  rw [Ha, dif_neg (by omega)]
theorem Ai2 (n : Nat) (hb : n < 1000000) : Con Tryz.prog 141 #[.slice none 0 0, vi n] M [] fun v _ G' => ∃ ov : Vec, v = osv ov 0 ∧ Ey 1 ov 0 [] ∧ G' = osg 3 ov [] := by
 refine Con.enter Q117_ok (args := [.slice none 0 0, vi n]) (by simp [Dk9]) fun w0 => ?_
 simp only [Dk9, A9]
 have e0 : IntKind.i64.wrap ((n : Int) - IntKind.i64.wrap (0 - 0)) = n := by
  rw [show IntKind.i64.wrap (0 - 0) = 0 from by decide, Int.sub_zero]; exact w64 (by omega) (by omega)
 repeat' first | refine st ?_ | (refine EV.reg ?_; (conv => (arg 2; whnf)); (repeat first | refine nx ?_ | simp only [e0])) | (refine cX ?_ ?_ <;> intro h <;> try exact Ah h) | fail
 ·simp only [lC9, C2]
  refine ⟨0, rfl, lA5 _, Or.inl rfl, [], Or.inl ⟨by simp, rfl⟩, by omega, by omega, by simp only [maxLen]; omega, by omega, ?_⟩
  rintro b cap sp ⟨h1, h2, h3, h4⟩
  rw [lAj] at h1 h2
  refine ⟨0, rfl, lA8 _, Or.inl rfl, ?_⟩
  have e : (if cap = 0 then some (⟨b, 0, none⟩ : Addr) else some ((⟨b, 0, none⟩ : Addr).add 0)) = some ⟨b, 0, none⟩ := by
   split
   ·rfl
   ·simp [Addr.add]
  rw [e]
  repeat' first | refine st ?_ | refine rg ?_ | exact ⟨⟩ | fail
  (refine rt Q117_ok ?_; try with_reducible exact ⟨⟩)
  refine ⟨some (b, cap, (List.replicate n [vi 0]).flatten ++ sp), rfl, ⟨by simp, by simpa using h2, lA8 _, h4⟩, by simp [osg]⟩
 ·(refine rt Q117_ok ?_; try with_reducible exact ⟨⟩)
  exact ⟨none, rfl, ⟨rfl, rfl⟩, rfl⟩
theorem W5 (xss : List (List Int)) (s : Value) (hs : Dv M 1 ei s xss) (hb : xss.flatten.length < 1000000) (fB : xss.length < 1000000) : Con Tryz.prog 120 #[s] M [] (Dh7 xss.flatten) := by
 obtain ⟨a, c, vs, rfl, hl, aH, hk⟩ := hs
 refine Con.enter Q114_ok (args := [.slice a xss.length c]) (by simp [Dk5]) fun w0 => ?_
 simp only [Dk5, A9]
 repeat' first | refine st ?_ | refine rg ?_ | exact ⟨⟩ | fail
 refine JC (fun i : Nat => ([(0, .slice a xss.length c), (3, vi (xss.take i).flatten.length), (9, .slice a xss.length c), (10, vi xss.length), (11, vi i)], M, [])) (fun i => i ≤ xss.length) (fun i => xss.length - i) 0 rfl (lA8 _) ?env1 (lA0 _) ?_
 case env1 =>
  exact eE
 intro i hi ih
 dsimp only at hi ih ⊢
 repeat' first | refine st ?_ | refine rg ?_ | (refine cX ?_ ?_ <;> intro h <;> try exact Ah h) | exact ⟨⟩ | fail
 ·have aC : i < xss.length := by omega
  obtain ⟨pb, po, rfl, hat⟩ := Dv.at aH hl hk (by omega)
  obtain ⟨a', c', aT, aX⟩ := hat i aC
  rw [lAu] at aT
  have e := Eb (ts := xss) aC
  have aY := Cw xss (i + 1)
  have hw : IntKind.i64.wrap (((xss.take i).flatten.length : Int) + (xss[i].length : Int)) = ((xss.take (i + 1)).flatten.length : Int) := by
   rw [e, lA4]; rw [e, lA4] at aY; exact (w64 (by omega) (by omega)).trans (by omega)
  have s8 : ¬ (((xss.take (i + 1)).flatten.length : Int) < 0) := by omega
  have ih3 := ih (i + 1) (by omega) (by omega)
  clear ih
  repeat' first | refine st ?_ | (refine EV.reg ?_; (conv => (arg 2; whnf)); (repeat first | refine nx ?_ | simp only [hw, s8])) | (refine cX ?_ ?_ <;> intro h <;> try exact Ah h) | refine ZF ?_ | (refine xn ?_; (repeat first | refine nx ?_ | simp only [hw, s8])) | fail
  all_goals try (exfalso; omega)
  refine JA ih3 ?_ (lA0 _)
  exact eE
 ·have bO : i = xss.length := by omega
  subst bO
  rw [lB2]
  clear ih
  repeat' first | fail
  refine Con.callB (G1 := []) (Ai2 xss.flatten.length hb) (Aa.le_refl _) (lAf _) ?_
  rintro v M' G' ⟨ov0, rfl, jM, rfl⟩
  (refine nx ?_; try with_reducible exact ⟨⟩)
  repeat' first | refine st ?_ | refine rg ?_ | exact ⟨⟩ | fail
  refine JC (fun x : Nat × Vec => ([(6, osv x.2 (xss.take x.1).flatten.length), (25, .slice a xss.length c), (26, vi xss.length), (27, vi x.1)], M, osg 3 x.2 ((xss.take x.1).flatten.map vi))) (fun x => x.1 ≤ xss.length ∧ Ey 1 x.2 (xss.take x.1).flatten.length ((xss.take x.1).flatten.map vi)) (fun x => xss.length - x.1) (0, ov0) rfl ⟨lA8 _, jM⟩ ?env2 (lA0 _) ?_
  case env2 =>
   exact eE
  rintro ⟨i, ov⟩ ⟨hi, aQ⟩ ih
  dsimp only at hi aQ ih ⊢
  repeat' first | refine st ?_ | refine rg ?_ | (refine cX ?_ ?_ <;> intro h <;> try exact Ah h) | exact ⟨⟩ | fail
  ·have aC : i < xss.length := by omega
   obtain ⟨pb, po, rfl, hat⟩ := Dv.at aH hl hk (by omega)
   obtain ⟨a', c', aT, aX⟩ := hat i aC
   rw [lAu] at aT
   rw [A0] at aX
   have e := Eb (ts := xss) aC
   have aY := Cw xss (i + 1)
   rw [e, lA4] at aY
   repeat' first | refine rg ?_ | refine ZF ?_ | (refine xn ?_; try refine nx ?_) | exact ⟨⟩ | fail
   refine ⟨xss[i].map vi, Ww aX, Yj _, Or.inl ⟨ov, _, rfl, _, aQ, [], by simp, ?_, ?_, ?_⟩⟩
   ·simp only [maxLen]; omega
   ·omega
   intro o2 au _
   (refine nx ?_; try with_reducible exact ⟨⟩)
   have ih3 := ih (i + 1, o2) ⟨by dsimp only; omega, by rw [e, lA4, lAv]; exact au⟩ (by dsimp only; omega)
   dsimp only at ih3
   rw [e, lA4, lAv] at ih3
   repeat' first | refine su ?_ | refine rg ?_ | exact ⟨⟩ | fail
   refine JA ih3 ?_ eS
   exact eE
  ·have bO : i = xss.length := by omega
   subst bO
   rw [lB2] at aQ ⊢
   (refine rt Q114_ok ?_; try with_reducible exact ⟨⟩)
   exact ⟨ov, rfl, aQ, rfl⟩
theorem Rt (xs ys : List Int) (s t : Value) (hs : Sl M 1 ei s xs) (ht : Sl M 1 ei t ys) (hb : xs.length < 1000000) (fB : ys.length < 1000000) : Aq Tryz.prog 41 #[s, t] M (vb (decide (xs = ys))) := by
 obtain ⟨a, c, rfl, aH⟩ := hs
 obtain ⟨a2, c2, rfl, d4⟩ := ht
 refine Con.enter Q116_ok (args := [.slice a xs.length c, .slice a2 ys.length c2]) (by simp [Bi9]) fun w0 => ?_
 simp only [Bi9, A9]
 repeat' first | refine st ?_ | refine rg ?_ | (refine cX ?_ ?_ <;> intro h <;> try exact Ah h) | exact ⟨⟩ | fail
 ·(refine rt Q116_ok ?_; try with_reducible exact ⟨⟩)
  rw [decide_eq_false (by rintro rfl; simp_all)]
 have aG : xs.length = ys.length := by omega
 refine JC (fun i : Nat => ([(0, .slice a xs.length c), (1, .slice a2 ys.length c2), (12, vi xs.length), (13, vi i)], M, [])) (fun i => i ≤ xs.length ∧ xs.take i = ys.take i) (fun i => xs.length - i) 0 rfl ⟨lA8 _, rfl⟩ ?env1 (lA0 _) ?_
 case env1 =>
  exact eE
 rintro i ⟨hi, aw⟩ ih
 dsimp only at hi aw ih ⊢
 repeat' first | refine st ?_ | ((first | refine EV.reg ?_ | refine EV.any _ (lA0 _) ?_ | fail); (conv => (arg 2; whnf)); refine nx ?_) | (refine cX ?_ ?_ <;> intro h <;> try exact Ah h) | exact ⟨⟩ | fail
 ·have aC : i < xs.length := by omega
  have bo : i < ys.length := by omega
  obtain ⟨wb, wo, rfl, hat⟩ := Sl.at (sz := 1) (enc := ei) (fun _ => rfl) (by decide) aH (by omega)
  obtain ⟨wb2, wo2, rfl, aN⟩ := Sl.at (sz := 1) (enc := ei) (fun _ => rfl) (by decide) d4 (by omega)
  have iD := hat i aC
  have gU := aN i bo
  rw [lAu] at iD gU
  have iB : (i : Int) < (ys.length : Int) := by omega
  repeat' first | refine st ?_ | refine rg ?_ | (refine cX ?_ ?_ <;> intro h <;> try exact Ah h) | refine ZF ?_ | (refine xm ?_; try refine nx ?_) | exact ⟨⟩ | fail
  ·(refine rt Q116_ok ?_; try with_reducible exact ⟨⟩)
   rw [decide_eq_false (by rintro rfl; simp_all)]
  ·refine JA (ih (i + 1) ⟨by omega, ?_⟩ (by omega)) ?_ (lA0 _)
   ·rw [lA7 aC, lA7 bo, aw]; simp_all
   ·exact eE
 ·have bO : i = xs.length := by omega
  subst bO
  rw [lB2] at aw
  (refine rt Q116_ok ?_; try with_reducible exact ⟨⟩)
  rw [decide_eq_true (by rw [aw, aG, lB2])]
end
def thI (p : List Ev) (x : Int) : Int := (evAt p x.toNat).th
def Ef (p : List Ev) (l : List Int) (i : Nat) : Bool := (l.take i).any fun x => decide (thI p x = thI p (Ae l i))
def Bz (p : List Ev) : Nat → List Int → List (List Int)
 | 0, _ => [[]]
 | n + 1, l => (List.range (n + 1)).flatMap fun i => if Ef p l i then [] else (Bz p n (l.eraseIdx i)).map (Ae l i :: ·)
def Ct (p : List Ev) (l : List Int) : List (List Int) := Bz p l.length l
section
variable {M : Aa}
theorem Qo (p : List Ev) {pb po pc b1 b2 : Nat} {y : Int} (h1 : rd M b1 0 1 [.slice (some ⟨pb, po, none⟩) p.length pc]) (h2 : rd M b2 0 1 [vi y]) (hat : ∀ i, i < p.length → rd M pb (po + i * 6) 6 (Bj (evAt p i)))
  (x : Int) (hx : 0 ≤ x ∧ x < p.length) (hy : 0 ≤ y ∧ y < p.length) : Aq Tryz.prog 118 #[vi x, pv b1 0, pv b2 0] M (vb (decide (thI p x = thI p y))) := by
 have bK := (hat x.toNat (by omega)).pt 5 1 (by omega) rfl
 have dQ := (hat y.toNat (by omega)).pt 5 1 (by omega) rfl
 refine Con.enter Q27_ok (args := [vi x, pv b1 0, pv b2 0]) (by simp [Q27]) fun w0 => ?_
 simp only [Q27, A9]
 repeat' first | refine st ?_ | ((first | refine EV.reg ?_ | refine EV.any _ (lA0 _) ?_ | fail); (conv => (arg 2; whnf)); refine nx ?_) | refine rt Q27_ok ?_ | refine ZF ?_ | ((first | refine xm ?_ | refine xn ?_ | fail); try refine nx ?_) | exact ⟨⟩ | fail
 all_goals rfl
theorem Hc {G : Own} {T : TypeId} {ov : Vec} {n : Nat} {xs : List Int} (ai : Ey 1 ov n (xs.map vi)) (hn : n = xs.length) (hG : ∀ q ∈ osg T ov (xs.map vi), q ∈ G) : SlC (M.add G) 1 ei (osv ov n) xs := by
 subst hn
 refine ⟨oad ov, Rd ov, rfl, ?_, ?_⟩
 ·cases ov with
  | none => exact Nat.le_of_eq ai.1
  | some q => exact ai.2.2.1
 ·rw [A0]; exact E5 ai hG
structure WalkB (p : List Ev) (M : Aa) (l yb pb wb : Nat) (ea : Option Addr) (ec : Nat) : Prop where
 hy : rd M yb 0 1 [yv l]
 hp : rd M pb 0 1 [.slice ea p.length ec]
 hw : rd M wb 0 1 [.func (.func 116) #[] #[pv yb 0, pv pb 0, pv wb 0]]
 hat : 0 < p.length → ∃ eb eo, ea = some ⟨eb, eo, none⟩ ∧ ∀ i, i < p.length → rd M eb (eo + i * 6) 6 (Bj (evAt p i))
theorem WalkB.mono {p : List Ev} {M M' : Aa} {l yb pb wb : Nat} {ea : Option Addr} {ec : Nat} (h : WalkB p M l yb pb wb ea ec) (hM : M.le M') : WalkB p M' l yb pb wb ea ec :=
 ⟨h.hy.mono hM, h.hp.mono hM, h.hw.mono hM, fun h0 => let ⟨eb, eo, e, k⟩ := h.hat h0; ⟨eb, eo, e, fun i hi => (k i hi).mono hM⟩⟩
theorem Ai3 (p : List Ev) (aP : p.length < 1000000) {l yb pb wb : Nat} {ea : Option Addr} {ec : Nat} {L : List (List Int)} {I : List (List Int) → Aa → Own → Prop} {S : Aa → Own → Prop} {M0 : Aa}
  (aE : ∀ xs M2 M3 G2, M2.le M3 → I xs M2 G2 → I xs M3 G2)
  (hy : ∀ xs x, x ∈ L → ∀ M2 G2 v, M0.le M2 → I xs M2 G2 → SlC M2 1 ei v x → Oo Tryz.prog l #[v] M2 G2 fun b M3 G3 => (b = .bool true ∧ I (xs ++ [x]) M3 G3) ∨ (b = .bool false ∧ S M3 G3)) :
  ∀ (n : Nat) (left out : List Int) (xs : List (List Int)) (M : Aa) (G : Own) (ov lv : Value), left.length = n → out.length + n < 1000000 → M0.le M → WalkB p M l yb pb wb ea ec → Iy p left → SlC M 1 ei ov out → SlC M 1 ei lv left →
   (∀ m ∈ Bz p n left, out ++ m ∈ L) → I xs M G →
   Con Tryz.prog 116 #[ov, lv, pv yb 0, pv pb 0, pv wb 0] M G fun v M' G' => (v = .bool true ∧ I (xs ++ (Bz p n left).map (out ++ ·)) M' G') ∨ (v = .bool false ∧ S M' G') := by
 intro n
 induction n with
 | zero =>
  intro left out xs M G ov lv hn ar hM hw hin aQ bF hL hI
  have jM := aQ
  obtain ⟨oa, oc, rfl, li, am⟩ := aQ
  obtain ⟨la, lc, rfl, cW, ay⟩ := bF
  have uE := hw.hy
  refine Con.enter Q26_ok (args := [.slice oa out.length oc, .slice la left.length lc, pv yb 0, pv pb 0, pv wb 0]) (by simp [Q26]) fun w0 => ?_
  simp only [Q26, A9]
  repeat' first | refine st ?_ | (refine EV.reg ?_; (conv => (arg 2; whnf)); (repeat first | refine nx ?_ | simp only [hn])) | (refine cX ?_ ?_ <;> intro h <;> try exact Ah h) | fail
  refine EV.any (t := Be1) [] (lAe _) ?_
  (repeat first | refine nx ?_ | simp only [Be1])
  refine ⟨_, uE.mono (JB _ _), ?_⟩
  refine Con.callS (G1 := []) (Hm out _ jM.sl (by omega)) ?_
  rintro v1 M1 G1 bv ⟨o1, rfl, bU, rfl⟩
  (refine nx ?_; try with_reducible exact ⟨⟩)
  refine ⟨bv, fun q hq => absurd hq lB5, ?_⟩
  refine Fx.keep G ?_
  have aJ : out ∈ L := by have := hL [] (by simp [Bz]); simpa using this
  have ak : SlC (M1.add (osg 3 o1 (out.map vi))) 1 ei (osv o1 out.length) out := by
   refine ⟨oad o1, Rd o1, rfl, ?_, ?_⟩
   ·cases o1 with
    | none => exact Nat.le_of_eq bU.1
    | some q => exact bU.2.2.1
   ·rw [A0]; exact E5 bU (fun q hq => by simpa using hq)
  refine Oo.run (hy xs out aJ _ G _ (Aa.le_trans hM (Aa.le_trans bv (JB _ _))) (aE _ _ _ _ (Aa.le_trans bv (JB _ _)) hI) (by simpa using ak)) ?_
  rintro b M2 G2 bS hb
  (refine rt Q26_ok ?_; try with_reducible exact ⟨⟩)
  simpa [Bz] using hb
 | succ n ihn =>
  intro left out xs M G ov lv hn ar hM hw hin aQ bF hL hI
  have jM := aQ
  have bT := bF
  obtain ⟨oa, oc, rfl, li, am⟩ := aQ
  obtain ⟨la, lc, rfl, cW, ay⟩ := bF
  obtain ⟨wb1, wo1, rfl, bA⟩ := Sl.at (sz := 1) (enc := ei) (fun _ => rfl) (by decide) ay (by omega)
  have bA := Cj bA
  refine Con.enter Q26_ok (args := [.slice oa out.length oc, .slice (some ⟨wb1, wo1, none⟩) left.length lc, pv yb 0, pv pb 0, pv wb 0]) (by simp [Q26]) fun w0 => ?_
  simp only [Q26, A9]
  have hne : decide ((left.length : Int) = 0) = false := decide_eq_false (by omega)
  repeat' first | refine st ?_ | (refine EV.reg ?_; (conv => (arg 2; whnf)); (repeat first | refine nx ?_ | simp only [hne])) | (refine cX ?_ ?_ <;> intro h <;> try exact Ah h) | fail
  refine JC (fun x : Nat × Aa × Own => ([(0, .slice oa out.length oc), (1, .slice (some ⟨wb1, wo1, none⟩) left.length lc), (2, pv yb 0), (3, pv pb 0), (4, pv wb 0), (18, .slice (some ⟨wb1, wo1, none⟩) left.length lc), (19, vi left.length), (20, vi x.1)], x.2.1, x.2.2))
   (fun x => x.1 ≤ left.length ∧ M.le x.2.1 ∧ I (xs ++ ((List.range x.1).flatMap fun i => if Ef p left i then [] else (Bz p n (left.eraseIdx i)).map (Ae left i :: ·)).map (out ++ ·)) x.2.1 x.2.2) (fun x => left.length - x.1) (0, M, G) rfl ⟨lA8 _, Aa.le_refl _, by simpa using hI⟩ ?env1 (lA0 _) ?_
  case env1 =>
   exact eE
  rintro ⟨i, Mi, Gi⟩ ⟨hi, cy, jp⟩ ih
  dsimp only at hi cy jp ih ⊢
  repeat' first | refine st ?_ | refine rg ?_ | (refine cX ?_ ?_ <;> intro h <;> try exact Ah h) | refine ZF ?_ | exact ⟨⟩ | fail
  ·have aC : i < left.length := by omega
   have kg := (bA i aC).mono cy
   repeat' first | ((first | with_reducible intro b | refine xm ?_ | fail); try refine nx ?_) | (refine xw ?_; refine nx ?_) | exact ⟨⟩ | fail
   rename Nat => xb
   refine EV.keep Gi ?_
   generalize hN : Mi.add _ = N
   have aA : Mi.le N := hN ▸ JB _ _
   have uF : rd N xb 0 1 [vi (Ae left i)] := hN ▸ Bm (T := 3) (cs := [vi (Ae left i)]) (by simp) rfl (by simp)
   have iI := aE _ _ _ _ aA jp
   have o4 := (hw.mono cy).mono aA
   clear hN
   have d6 := Aa.le_trans cy aA
   refine EV.seq ?_
   repeat' first | refine rg ?_ | exact ⟨⟩ | fail
   simp only [lC9, C2]
   refine ⟨i, rfl, by omega, Or.inl rfl, ?_⟩
   rw [Bg3]
   have p9 := (ay.mono d6)
   have b0 : Sl N 1 ei (.slice (some ⟨wb1, wo1, none⟩) i lc) (left.take i) := by
    refine ⟨some ⟨wb1, wo1, none⟩, lc, by rw [lC4, lC0 (by omega)], ?_⟩
    rw [lC4, lC0 (by omega), A0, List.map_take]
    rw [A0] at p9
    exact p9.pre (by omega)
   have fA := E0 hin aC
   refine Aq.call (L0 (left.take i) _ (b0.mono (JB _ _)) (by simp; omega) _ _ (fun x => decide (thI p x = thI p (Ae left i))) ?_) ?_
   ·intro M' bB x hx
    have aY := Aa.le_trans (JB N Gi) bB
    obtain ⟨eb, eo, e0, pd⟩ := (o4.mono aY).hat (by omega)
    have := Qo p (e0 ▸ (o4.mono aY).hp) (uF.mono aY) pd x (hin x (List.mem_of_mem_take hx)) fA
    simpa using this
   rw [show (left.take i).any (fun x => decide (thI p x = thI p (Ae left i))) = Ef p left i from rfl]
   generalize gB : Ef p left i = bl
   refine EV.seq ?_
   cases bl with
   | true =>
    refine EV.any (t := Be2) [] (lAe _) ?_
    simp only [Aj, As, Ak, Au, reduceIte, Nat.reduceEqDiff]
    repeat' first | ((refine ZE ?_ (fun lq aD hc => ?_) (fun lq aD => ?_); rotate_left) <;> (try (exfalso; simp at hc; done)) <;> (repeat first | refine nz ?_ | simp only [lBd])) | ((first | refine zo (fun lq aD => ?_) | refine zl ?_ | fail); (repeat first | refine nz ?_ | simp only [lBd])) | refine zq (fun lq tq aD aB => ?_) | refine zf ?_ | refine ZC (fun tq aB => ?_) | ((refine ZD (fun tq aB h => ?_) (fun tq aB h => ?_)) <;> try (exfalso; simp at h; done)) | exact false | fail
    have ih3 := ih (i + 1, N, Gi) ⟨by dsimp only; omega, d6, ?_⟩ (by dsimp only; omega)
    ·dsimp only at ih3
     repeat' first | refine su ?_ | (refine EV.reg ?_; (conv => (arg 2; whnf)); (repeat first | refine nx ?_ | simp only [lCc])) | (refine cX ?_ ?_ <;> intro h <;> try exact Ah h) | fail
     refine JE ih3 ?_
     exact eE
    ·rw [lDi, lB0, lCa, if_pos gB, lAa]
     exact iI
   | false =>
    refine EV.any (t := Be2) [] (lAe _) ?_
    simp only [Aj, As, Ak, Au, reduceIte, Nat.reduceEqDiff]
    repeat' first | ((first | refine zo (fun lq aD => ?_) | refine zl ?_ | fail); (repeat first | refine nz ?_ | simp only [lB9])) | refine zq (fun lq tq aD aB => ?_) | ((first | refine lAb _ (lAd (Aw8 o4.hw) ?_) | refine lAb _ (lAd (Ai1 oa out.length oc li) ?_) | fail); (repeat first | refine nz ?_ | simp only [lB9])) | ((refine ZD (fun tq aB h => ?_) (fun tq aB h => ?_)) <;> try (exfalso; simp at h; done)) | (refine xm ?_; (repeat first | refine nz ?_ | simp only [lB9])) | fail
    simp only [lC9, C2]
    refine ⟨i, rfl, by omega, Or.inl rfl, ?_⟩
    repeat' first | ((first | refine zo (fun lq aD => ?_) | refine zl ?_ | fail); try refine nz ?_) | refine zq (fun lq tq aD aB => ?_) | exact ⟨⟩ | fail
    simp only [lC9, C2]
    have aV : IntKind.i64.wrap ((i : Int) + 1) = ((i + 1 : Nat) : Int) := w64 (by omega) (by omega)
    refine ⟨i + 1, by rw [aV], by omega, cW, Or.inr rfl, ?_⟩
    obtain ⟨ro, kh, ero⟩ := Sv (wb := wb1) (wo := wo1) (n := left.length) (c := lc) (i := i + 1) cW
    rw [Bg3, ero]
    have pe : rdS N 1 oa out.length (out.map vi) := by
     have := am.mono d6
     rwa [A0] at this
    have pf : rdS N 1 (some ⟨wb1, ro, none⟩) (left.length - (i + 1)) ((left.drop (i + 1)).map vi) := by
     by_cases aU : i + 1 < left.length
     ·rw [kh aU]
      rcases p9 with ⟨h0, _⟩ | ⟨b', o', e', bj⟩
      ·omega
      ·cases e'
       refine Or.inr ⟨wb1, wo1 + (i + 1), rfl, ?_⟩
       rw [A0, lAu] at bj
       rw [lAu, List.map_drop]
       exact bj.suf (by omega)
     ·refine Or.inl ⟨by omega, ?_⟩
      rw [lCt (by omega)]; rfl
    repeat' first | (refine zl ?_; try refine nz ?_) | refine zq (fun lq tq aD aB => ?_) | (refine ZA (fun tq aB => ?_) (fun tq aB => ?_) <;> try refine nz ?_) | exact zn | ((first | with_reducible intro b | refine lAd (Aa.le_refl _) (lAd (Ax ?_) ?_); focus ((repeat' first | exact lA0 _ | exact lAe _ | exact lAh _ _ | refine lAg _ ?_ | refine lAo ?_ _ | refine lA9 ?_ | refine lAq _ ?_); done) | fail); try refine nz ?_) | exact ⟨⟩ | fail
    all_goals
     refine ⟨[vi (Ae left i)], Or.inr ⟨_, 0, rfl, Bm (T := 3) (cs := [vi (Ae left i)]) (by simp) rfl (by simp)⟩, by simp [Bq, Ch, Value.oneCell'], Or.inr ⟨oa, out.length, out.length, rfl, out.map vi, Ww pe, by omega, by omega, by simp only [maxLen]; omega, by omega, fun b1 cap sp ai => ?_⟩⟩
     repeat' first | (refine zl ?_; try refine nz ?_) | refine zq (fun lq tq aD aB => ?_) | (refine ZA (fun tq aB => ?_) (fun tq aB => ?_) <;> try refine nz ?_) | exact zn | ((first | with_reducible intro b | refine lAd (Aa.le_refl _) (lAd (Ax ?_) ?_); focus ((repeat' first | exact lA0 _ | exact lAe _ | exact lAh _ _ | refine lAg _ ?_ | refine lAo ?_ _ | refine lA9 ?_ | refine lAq _ ?_); done) | fail); try refine nz ?_) | exact ⟨⟩ | fail
     refine Con.callB (G1 := []) (W5 [left.take i, left.drop (i + 1)] _ ⟨_, _, [.slice (some ⟨wb1, wo1, none⟩) i lc, .slice (some ⟨wb1, ro, none⟩) (left.length - (i + 1)) (lc - (i + 1))], rfl, rfl, Or.inr ⟨_, 0, rfl, Bm (T := 34) (cs := [.slice (some ⟨wb1, wo1, none⟩) i lc, .slice (some ⟨wb1, ro, none⟩) (left.length - (i + 1)) (lc - (i + 1))]) (by simp) rfl (by simp)⟩, ?_⟩ ?_ (by simp)) (Aa.le_refl _) (lAf _) ?_
     ·intro k cM cU
      match k, cU with
      | 0, _ => exact b0.mono (JB _ _)
      | 1, _ => exact ⟨some ⟨wb1, ro, none⟩, lc - (i + 1), by simp, by rw [A0, show ([left.take i, left.drop (i + 1)] : List (List Int))[1].length = left.length - (i + 1) from by simp]; exact Ww pf⟩
     ·simp only [lD0, lEp, lAa, lA4, lC4, lDt]; omega
     rintro v2 M2 G2 ⟨o2, rfl, au, rfl⟩
     have pg : [left.take i, left.drop (i + 1)].flatten = left.eraseIdx i := by simp [lCs]
     rw [pg] at au ⊢
     refine ⟨Aa.le_refl _, fun q hq => absurd hq lB5, ?_⟩
     repeat' first | (refine zl ?_; try refine nz ?_) | refine zq (fun lq tq aD aB => ?_) | (refine ZB (fun tq aB => ?_) (fun tq aB => ?_) <;> try refine nz ?_) | exact zn | exact ⟨⟩ | fail
     refine De.keep Gi ?_
     generalize hR : N.add _ = N2
     have fX : N.le N2 := hR ▸ JB _ _
     have uG : SlC N2 1 ei (osv (some (b1, cap, sp)) (out.length + 1)) (out ++ [Ae left i]) := hR ▸ Hc (T := 3) (by simpa using ai) (by simp) (by simp [osg])
     have ak : SlC N2 1 ei (osv o2 (left.eraseIdx i).length) (left.eraseIdx i) := hR ▸ Hc (T := 3) au rfl (fun q hq => by simp [hq])
     clear hR
     refine Con.run (ihn (left.eraseIdx i) (out ++ [Ae left i]) (xs ++ ((List.range i).flatMap fun i => if Ef p left i then [] else (Bz p n (left.eraseIdx i)).map (Ae left i :: ·)).map (out ++ ·)) N2 Gi _ _ (by rw [lD8 aC]; omega) (by simp; omega) (Aa.le_trans hM (Aa.le_trans d6 fX)) (o4.mono fX) (fun y eP => hin y (List.mem_of_mem_eraseIdx eP)) uG ak ?_ (aE _ _ _ _ fX iI)) ?_
     ·intro m hm
      rw [lAc]
      refine hL _ ?_
      simp only [Bz, lB4, lAl]
      exact ⟨i, by omega, by rw [if_neg (by rw [gB]; simp)]; exact lAk.2 ⟨m, hm, rfl⟩⟩
     rintro v3 M3 G3 dB (⟨rfl, ph⟩ | ⟨rfl, pi⟩)
     ·repeat' first | ((refine ZE ?_ (fun lq aD hc => ?_) (fun lq aD => ?_); rotate_left) <;> (try (exfalso; simp at hc; done)) <;> (repeat first | refine nz ?_ | simp only [lBd])) | ((first | refine zo (fun lq aD => ?_) | refine zl ?_ | fail); (repeat first | refine nz ?_ | simp only [lBd])) | refine zq (fun lq tq aD aB => ?_) | refine zf ?_ | with_reducible rfl | fail
      repeat' first | refine su ?_ | (refine EV.reg ?_; (conv => (arg 2; whnf)); (repeat first | refine nx ?_ | simp only [lC5, lF7])) | (refine cX ?_ ?_ <;> intro h <;> try exact Ah h) | fail
      have ih3 := ih (i + 1, M3, G3) ⟨by dsimp only; omega, Aa.le_trans d6 (Aa.le_trans fX dB), by
       dsimp only
       rw [lDi, lB0, lCa, if_neg (by rw [gB]; simp), lAv, ← lAc, lE5]
       have e : (Bz p n (left.eraseIdx i)).map ((out ++ ·) ∘ (Ae left i :: ·)) = (Bz p n (left.eraseIdx i)).map ((out ++ [Ae left i]) ++ ·) := by
        apply lEt; intro y _; simp
       rw [e]; exact ph⟩ (by dsimp only; omega)
      dsimp only at ih3
      refine JE ih3 ?_
      exact eE
     ·repeat' first | ((refine ZE ?_ (fun lq aD hc => ?_) (fun lq aD => ?_); rotate_left) <;> (try (exfalso; simp at hc; done)) <;> (repeat first | refine nz ?_ | simp only [lB9])) | ((first | refine zo (fun lq aD => ?_) | refine zl ?_ | fail); (repeat first | refine nz ?_ | simp only [lB9])) | refine zq (fun lq tq aD aB => ?_) | refine zf ?_ | with_reducible rfl | fail
      repeat' first | refine st ?_ | (refine EV.reg ?_; (conv => (arg 2; whnf)); (repeat first | refine nx ?_ | simp only [lC5])) | (refine cX ?_ ?_ <;> intro h <;> try exact Ah h) | fail
      (refine rt Q26_ok ?_; try with_reducible exact ⟨⟩)
      exact Or.inr pi
  ·have bO : i = left.length := by omega
   subst bO
   (refine rt Q26_ok ?_; try with_reducible exact ⟨⟩)
   left
   rw [hn] at jp
   exact jp
def ElI (x : List Int) (v : Value) (M : Aa) : Prop := SlC M 1 ei v x
theorem Uo (p : List Ev) (aP : p.length < 1000000) {ps ls : Value} {l : List Int} {pb lb : Nat} (hps : Sl M 6 Bj ps p) (bh : SlC M 1 ei ls l) (hin : Iy p l) (bL : l.length < 1000000)
  (h1 : rd M pb 0 1 [ps]) (h2 : rd M lb 0 1 [ls]) : Ah1 Tryz.prog 115 #[] #[pv pb 0, pv lb 0] M (Ct p l) ElI := by
 intro ly I S M1 G hM aE hy xs hI
 have dZ := h1.mono hM
 have iJ := h2.mono hM
 have pj := bh.mono hM
 obtain ⟨ea, ec, rfl, an⟩ := hps
 refine Con.enter Q25_ok (args := [yv ly, pv pb 0, pv lb 0]) (by simp [Q25]) fun w0 => ?_
 simp only [Q25, A9]
 refine EV.seq (EV.reg ?_)
 (repeat first | refine nx ?_ | simp only [Cw7])
 intro yb
 refine EV.seq (EV.reg ?_)
 (repeat first | refine nx ?_ | simp only [Cw8])
 intro wb
 refine EV.seq ?_
 repeat' first | refine rg ?_ | (refine xiA rfl ?_; try refine nx ?_) | (refine xw ?_; refine nx ?_) | exact ⟨⟩ | fail
 obtain ⟨la, lc, rfl, cW, ay⟩ := pj
 refine ⟨_, _, _, Aw8 iJ, ?_⟩
 refine De.keep G ?_
 generalize hR : M1.add _ = N
 have aA : M1.le N := hR ▸ JB _ _
 have hw : WalkB p N ly yb pb wb ea ec := by
  refine ⟨hR ▸ Bm (T := 151) (cs := [yv ly]) (by simp) rfl (by simp), dZ.mono aA, hR ▸ Bm (T := 50) (cs := [.func (.func 116) #[] #[pv yb 0, pv pb 0, pv wb 0]]) (by simp) rfl (by simp), fun h0 => ?_⟩
  obtain ⟨eb, eo, e, hat⟩ := Sl.at (enc := Bj) (fun _ => rfl) (by decide) an h0
  exact ⟨eb, eo, e, fun i hi => (JJ hat i hi).mono (Aa.le_trans hM aA)⟩
 clear hR
 refine Con.run (Ai3 p aP (L := Ct p l) aE (fun xs x hx M2 G2 v h3 h4 h5 => hy xs x hx M2 G2 v (Aa.le_trans aA h3) h4 h5) l.length l [] xs N G _ _ rfl (by simp; omega) (Aa.le_refl _) hw hin ⟨none, 0, rfl, lA5 _, .inl ⟨rfl, rfl⟩⟩ ⟨la, lc, rfl, cW, ay.mono aA⟩ (fun m hm => by simpa [Ct] using hm) (aE _ _ _ _ aA hI)) ?_
 intro v M' G' bB hv
 refine EV.done Q25_ok ?_
 (repeat first | refine nx ?_ | simp only [Q25])
 rcases hv with ⟨rfl, hv⟩ | ⟨rfl, hv⟩
 ·left; simpa [Ct] using hv
 ·right; exact hv
def Its {α : Type} (L : List α) (El : α → Value → Aa → Prop) (v : Value) (M : Aa) (_ : Own) : Prop := ∃ g caps, v = .func (.func g) #[] caps ∧ Ah1 Tryz.prog g #[] caps M L El
theorem O5 (p : List Ev) (aP : p.length < 1000000) {ps ls : Value} {l : List Int} (hps : Sl M 6 Bj ps p) (bh : SlC M 1 ei ls l) (hin : Iy p l) (bL : l.length < 1000000) :
  Con Tryz.prog 82 #[ps, ls] M [] (Its (Ct p l) ElI) := by
 refine Con.enter Q24_ok (args := [ps, ls]) (by simp [Q24]) fun w0 => ?_
 simp only [Q24, A9]
 have cd := hps
 have pk := bh
 obtain ⟨ea, ec, rfl, an⟩ := hps
 obtain ⟨la, lc, rfl, cW, ay⟩ := bh
 repeat' first | refine st ?_ | refine rg ?_ | (with_reducible intro b; try refine nx ?_) | exact ⟨⟩ | fail
 refine EV.keep [] ?_
 generalize hR : M.add _ = N
 have aA : M.le N := hR ▸ JB _ _
 (refine rt Q24_ok ?_; try with_reducible exact ⟨⟩)
 refine ⟨_, _, rfl, Uo p aP (cd.mono aA) (pk.mono aA) hin bL ?_ ?_⟩
 ·exact hR ▸ Bm (T := 74) (cs := [.slice ea p.length ec]) (by simp) rfl (by simp)
 ·exact hR ▸ Bm (T := 34) (cs := [.slice la l.length lc]) (by simp) rfl (by simp)
end
def Bo (p : List Ev) : List Int := Cq p.length fun i => decide ((evAt p i).op.kind = 3) || decide ((evAt p i).op.kind = 4)
def L1 (p : List Ev) : Nat → List Bool
 | 0 => List.replicate p.length false
 | i + 1 => (L1 p i).set i (decide ((evAt p i).op.kind = 1) || decide ((evAt p i).op.kind = 2))
def K3 (p : List Ev) (set : Nat) : Nat → List Bool
 | 0 => L1 p p.length
 | k + 1 => (K3 p set k).set (Ae (Bo p) k).toNat (set.testBit k)
def I1 (p : List Ev) (set : Nat) : List Bool := K3 p set (Bo p).length
def Hn (p : List Ev) : List (List Bool) := (List.range (2 ^ (Bo p).length)).map (I1 p)
theorem K4 (p : List Ev) : ∀ i, (L1 p i).length = p.length
 | 0 => by simp [L1]
 | i + 1 => by simp [L1, K4 p i]
theorem K5 (p : List Ev) (set : Nat) : ∀ k, (K3 p set k).length = p.length
 | 0 => K4 p _
 | k + 1 => by simp [K3, K5 p set k]
theorem Fv (p : List Ev) (set : Nat) : (I1 p set).length = p.length := K5 p set _
theorem Dh8 {x : Nat} : BitVec.ofInt IntKind.i64.bits (x : Int) = (BitVec.ofNat 64 x : BitVec IntKind.i64.bits) := lFe 64 x
theorem Bg5 {x b : Nat} (hx : x < 2 ^ 62) (hb : b < 64) : decide (IntKind.i64.wrap ((BitVec.ofInt IntKind.i64.bits ((x : Int).fdiv (2 ^ min b IntKind.i64.bits)) &&& BitVec.ofInt IntKind.i64.bits 1).toNat : Int) = 1) = x.testBit b := by
 have e0 : min b IntKind.i64.bits = b := lC0 (show b ≤ 64 by omega)
 rw [e0]
 have e1 : (x : Int).fdiv (2 ^ b) = ((x / 2 ^ b : Nat) : Int) := by
  rw [lDs _ (by exact_mod_cast lA8 _)]; simp
 have hd : x / 2 ^ b < 2 ^ 64 := lEg (lFi _ _) (Nat.lt_trans hx (by decide))
 rw [e1, Dh8]
 have e : (BitVec.ofNat 64 (x / 2 ^ b) &&& BitVec.ofInt 64 1).toNat = (x / 2 ^ b) % 2 := by
  rw [lFc, lD5, lCh hd]
  show (x / 2 ^ b) &&& 1 = _
  exact lEx _
 show decide (IntKind.i64.wrap ((BitVec.ofNat 64 (x / 2 ^ b) &&& BitVec.ofInt 64 1).toNat : Int) = 1) = _
 rw [e, w64 (by omega) (by omega)]
 rw [lE2]
 simp only [decide_eq_decide]
 omega
theorem Bg6 {b : Nat} (hb : b < 62) : IntKind.i64.wrap (1 * 2 ^ min b IntKind.i64.bits) = ((2 ^ b : Nat) : Int) := by
 have e0 : min b IntKind.i64.bits = b := lC0 (show b ≤ 64 by omega)
 rw [e0, Int.one_mul]
 have h : 2 ^ b < 2 ^ 62 := lBk (by decide) hb
 rw [show ((2 : Int) ^ b) = ((2 ^ b : Nat) : Int) from by simp]
 generalize 2 ^ b = y at *
 exact w64 (by omega) (by omega)
def ElB (x : List Bool) (v : Value) (M : Aa) : Prop := SlC M 1 eb v x
section
variable {M : Aa}
theorem S2 (p : List Ev) {pb po pc b1 : Nat} (h1 : rd M b1 0 1 [.slice (some ⟨pb, po, none⟩) p.length pc]) (i : Nat) (hi : i < p.length) (hp : rd M pb (po + i * 6) 6 (Bj (evAt p i))) :
  Aq Tryz.prog 108 #[vi i, pv b1 0] M (vb (decide ((evAt p i).op.kind = 3) || decide ((evAt p i).op.kind = 4))) := by
 have iC := hp.pt 0 1 (by omega) rfl
 have aC : (i : Int) < p.length := by omega
 refine Con.enter Q15_ok (args := [vi i, pv b1 0]) (by simp [Q15]) fun w0 => ?_
 simp only [Q15, A9]
 repeat' first | refine st ?_ | refine rg ?_ | with_reducible assumption | (refine JD ?_ (fun hc K' hK => ?_) ?_; rotate_left) | refine rt Q15_ok ?_ | refine ZF ?_ | ((first | refine xm ?_ | refine xn ?_ | fail); try refine nx ?_) | exact ⟨⟩ | fail
 all_goals simp_all
theorem W6 (p : List Ev) (aP : p.length ≤ 32) {ps : Value} {pb : Nat} (hps : Sl M 6 Bj ps p) (h1 : rd M pb 0 1 [ps]) : Ah1 Tryz.prog 107 #[] #[pv pb 0] M (Hn p) ElB := by
 intro ly I S M1 G hM aE hy xs hI
 have dZ := h1.mono hM
 have fC := hps.mono hM
 obtain ⟨ea, ec, rfl, an⟩ := fC
 refine Con.enter Q14_ok (args := [yv ly, pv pb 0]) (by simp [Q14]) fun w0 => ?_
 simp only [Q14, A9]
 repeat' first | refine st ?_ | refine rg ?_ | (refine xn ?_; try refine nx ?_) | exact ⟨⟩ | fail
 refine Con.callB (G1 := []) (Ow p _ ⟨ea, ec, rfl, an.mono (JB _ _)⟩ (by omega) _ _ (fun i => decide ((evAt p i).op.kind = 3) || decide ((evAt p i).op.kind = 4)) ?_) (Aa.le_refl _) (lAf _) ?_
 ·intro M' bB i hi
  obtain ⟨eb1, eo, rfl, hat⟩ := Sl.at (enc := Bj) (fun _ => rfl) (by decide) an (by omega)
  have aY := Aa.le_trans (JB M1 G) bB
  exact S2 p (dZ.mono aY) i hi ((JJ hat i hi).mono aY)
 rintro v M' G' ⟨of, rfl, eQ, rfl⟩
 change Ey 1 of (Bo p).length ((Bo p).map vi) at eQ
 have kL : Iy p (Bo p) := fun x hx => by
  obtain ⟨i, h1, _, rfl⟩ := B9.1 hx; omega
 have aj : (Bo p).length ≤ p.length := A8 _ _
 rw [show Cq p.length (fun i => decide ((evAt p i).op.kind = 3) || decide ((evAt p i).op.kind = 4)) = Bo p from rfl]
 have iK : ¬ (((Bo p).length : Int) < 0) := by omega
 have bM := Bg6 (b := (Bo p).length) (by omega)
 have vn : 2 ^ (Bo p).length ≤ 2 ^ 32 := lCg (by decide) (by omega)
 repeat' first | fail
 refine EV.keep G ?_
 generalize hR : M1.add _ = N
 have aA : M1.le N := hR ▸ JB _ _
 have bc : rdS N 1 (oad of) (Bo p).length ((Bo p).map vi) := hR ▸ E5 (T := 3) eQ (fun q hq => by simpa using hq)
 have km := dZ.mono aA
 have iI := aE _ _ _ _ aA hI
 clear hR
 repeat' first | refine st ?_ | (refine EV.reg ?_; (conv => (arg 2; whnf)); (repeat first | refine nx ?_ | simp only [iK, bM])) | fail
 have m7 : (2 : Int) ^ (Bo p).length = ((2 ^ (Bo p).length : Nat) : Int) := by simp
 generalize pm : 2 ^ (Bo p).length = n2 at *
 refine JC (fun x : Nat × Aa × Own => ([(0, yv ly), (1, pv pb 0), (3, osv of (Bo p).length), (15, vi n2), (16, vi x.1)], x.2.1, x.2.2))
  (fun x => x.1 ≤ n2 ∧ N.le x.2.1 ∧ I (xs ++ (List.range x.1).map (I1 p)) x.2.1 x.2.2) (fun x => n2 - x.1) (0, N, G) rfl ⟨lA8 _, Aa.le_refl _, by simpa using iI⟩ ?env1 (lA0 _) ?_
 case env1 =>
  simp only [m7]
  exact eE
 rintro ⟨set, Mi, Gi⟩ ⟨cI, cy, jp⟩ ih
 dsimp only at cI cy jp ih ⊢
 repeat' first | refine st ?_ | refine rg ?_ | (refine cX ?_ ?_ <;> intro h <;> try exact Ah h) | exact ⟨⟩ | fail
 ·have vo := km.mono cy
  repeat' first | refine st ?_ | (refine EV.reg ?_; (conv => (arg 2; whnf)); (repeat first | refine nx ?_ | simp only [Ba])) | (with_reducible intro b; (repeat first | refine nx ?_ | simp only [Ba])) | refine ZF ?_ | (refine xn ?_; (repeat first | refine nx ?_ | simp only [Ba])) | fail
  rename Nat => db
  refine JC (fun i : Nat => ([(0, yv ly), (1, pv pb 0), (3, osv of (Bo p).length), (4, vi set), (5, Av db p.length p.length), (15, vi n2), (16, vi set), (22, .slice ea p.length ec), (23, vi p.length), (24, vi i)], Mi, (db, Cl 4 ((L1 p i).map vb)) :: Gi))
   (fun i => i ≤ p.length) (fun i => p.length - i) 0 rfl (lA8 _) ?env2 ?sub2 ?_
  case env2 =>
   exact eE
  case sub2 =>
   simp only [L1, lDz]
   exact lA0 _
  intro i hi ih2
  dsimp only at hi ih2 ⊢
  repeat' first | refine st ?_ | refine rg ?_ | (refine cX ?_ ?_ <;> intro h <;> try exact Ah h) | exact ⟨⟩ | fail
  ·have aC : i < p.length := by omega
   obtain ⟨pb1, po, rfl, hat⟩ := Sl.at (enc := Bj) (fun _ => rfl) (by decide) an (by omega)
   have jH := (JJ hat i aC).mono (Aa.le_trans aA cy)
   have ax := K4 p i
   have ih3 := ih2 (i + 1) (by omega) (by omega)
   rw [show L1 p (i + 1) = (L1 p i).set i (decide ((evAt p i).op.kind = 1) || decide ((evAt p i).op.kind = 2)) from rfl] at ih3
   generalize L1 p i = q at *
   clear ih ih2 hat
   repeat' first | refine su ?_ | (refine EV.reg ?_; (conv => (arg 2; whnf)); (repeat first | refine nx ?_ | simp only [Ap, lA1, ax, aC])) | with_reducible assumption | (refine JD ?_ (fun hc K' hK => ?_) ?_; rotate_left) | (with_reducible intro b; (repeat first | refine nx ?_ | simp only [Ap, lA1, ax, aC])) | refine ZF ?_ | ((first | refine xm ?_ | refine xiA rfl ?_ | fail); (repeat first | refine nx ?_ | simp only [Ap, lA1, ax, aC])) | (refine xw ?_; (repeat first | refine nx ?_ | simp only [Ap, lA1, ax, aC])) | fail
   refine JE ih3 ?_
   exact eE
  ·have bO : i = p.length := by omega
   subst bO
   clear ih2
   repeat' first | fail
   refine JC (fun k : Nat => ([(0, yv ly), (1, pv pb 0), (3, osv of (Bo p).length), (4, vi set), (5, Av db p.length p.length), (15, vi n2), (16, vi set), (43, osv of (Bo p).length), (44, vi (Bo p).length), (45, vi k)], Mi, (db, Cl 4 ((K3 p set k).map vb)) :: Gi))
    (fun k => k ≤ (Bo p).length) (fun k => (Bo p).length - k) 0 rfl (lA8 _) ?env3 (lA0 _) ?_
   case env3 =>
    exact eE
   intro k hk ih2
   dsimp only at hk ih2 ⊢
   repeat' first | refine st ?_ | refine rg ?_ | (refine cX ?_ ?_ <;> intro h <;> try exact Ah h) | exact ⟨⟩ | fail
   ·have af : k < (Bo p).length := by omega
    have pn : rdS Mi 1 (oad of) (Bo p).length ((Bo p).flatMap ei) := by rw [A0]; exact bc.mono cy
    obtain ⟨wb, wo, uH, iE⟩ := Sl.at (sz := 1) (enc := ei) (fun _ => rfl) (by decide) pn (by omega)
    have s9 := Cj iE k af
    have uI := E0 kL af
    have ax := K5 p set k
    have aU : (Ae (Bo p) k).toNat < p.length := by omega
    have az := Bg5 (x := set) (b := k) (by omega) (by omega)
    have hkn : ¬ ((k : Int) < 0) := by omega
    have ih3 := ih2 (k + 1) (by omega) (by omega)
    rw [show K3 p set (k + 1) = (K3 p set k).set (Ae (Bo p) k).toNat (set.testBit k) from rfl] at ih3
    generalize K3 p set k = q at *
    clear ih ih2 iE
    rw [uH]
    repeat' first | refine su ?_ | (refine EV.reg ?_; (conv => (arg 2; whnf)); (repeat first | refine nx ?_ | simp only [Ap, lA1, ax, aU, az, hkn])) | refine ZF ?_ | (refine xm ?_; (repeat first | refine nx ?_ | simp only [Ap, lA1, ax, aU, az, hkn])) | (refine xw ?_; (repeat first | refine nx ?_ | simp only [Ap, lA1, ax, aU, az, hkn])) | fail
    refine JE ih3 ?_
    exact eE
   ·have eH : k = (Bo p).length := by omega
    subst eH
    clear ih2
    rw [show K3 p set (Bo p).length = I1 p set from rfl]
    have ax := Fv p set
    repeat' first | fail
    refine Fx.keep Gi ?_
    have d7 : ElB (I1 p set) (Av db p.length p.length) (Mi.add [(db, Cl 4 ((I1 p set).map vb))]) := by
     refine ⟨some ⟨db, 0, none⟩, p.length, by rw [ax], by omega, Or.inr ⟨db, 0, rfl, ?_⟩⟩
     rw [Er, ax, lAu]
     exact Gl ax
    refine Oo.run (hy (xs ++ (List.range set).map (I1 p)) (I1 p set) (lAk.2 ⟨set, lAl.2 (by omega), rfl⟩) _ Gi _ (Aa.le_trans aA (Aa.le_trans cy (JB _ _))) (aE _ _ _ _ (JB _ _) jp) (by simpa using d7)) ?_
    rintro v3 M3 G3 dB (⟨rfl, ph⟩ | ⟨rfl, pi⟩)
    ·simp only [wpS, wpA, Js, push_cast, lB8, reduceIte, Nat.reduceEqDiff, reduceCtorEq, Nat.reduceAdd, Nat.reduceSub, Nat.reduceMul, Int.reduceToNat, Nat.reduceLeDiff]
     repeat' first | refine su ?_ | (refine EV.reg ?_; (conv => (arg 2; whnf)); (repeat first | refine nx ?_ | simp only [lBd])) | (refine cX ?_ ?_ <;> intro h <;> try exact Ah h) | fail
     have ih3 := ih (set + 1, M3, G3) ⟨by dsimp only; omega, Aa.le_trans cy (Aa.le_trans (JB _ _) dB), by
      dsimp only
      rw [lDi, lAv, lE0, ← lAc]; exact ph⟩ (by dsimp only; omega)
     dsimp only at ih3
     refine JE ih3 ?_
     exact eE
    ·simp only [wpS, wpA, Js, push_cast, lB8, reduceIte, Nat.reduceEqDiff, reduceCtorEq, Nat.reduceAdd, Nat.reduceSub, Nat.reduceMul, Int.reduceToNat, Nat.reduceLeDiff]
     repeat' first | (refine cX ?_ ?_ <;> intro h <;> try exact Ah h) | fail
     (refine rt Q14_ok ?_; try with_reducible exact ⟨⟩)
     exact Or.inr pi
 ·have fL : set = n2 := by omega
  refine EV.done Q14_ok ?_
  (repeat first | refine nx ?_ | simp only [Q14])
  left
  subst fL
  rw [Hn, pm]; exact jp
theorem Aa7 (p : List Ev) (aP : p.length ≤ 32) {ps : Value} (hps : Sl M 6 Bj ps p) : Con Tryz.prog 78 #[ps] M [] (Its (Hn p) ElB) := by
 refine Con.enter Q13_ok (args := [ps]) (by simp [Q13]) fun w0 => ?_
 simp only [Q13, A9]
 have cd := hps
 obtain ⟨ea, ec, rfl, an⟩ := hps
 repeat' first | refine st ?_ | refine rg ?_ | (with_reducible intro b; try refine nx ?_) | exact ⟨⟩ | fail
 refine EV.keep [] ?_
 generalize hR : M.add _ = N
 have aA : M.le N := hR ▸ JB _ _
 (refine rt Q13_ok ?_; try with_reducible exact ⟨⟩)
 exact ⟨_, _, rfl, W6 p aP (cd.mono aA) (hR ▸ Bm (T := 74) (cs := [.slice ea p.length ec]) (by simp) rfl (by simp))⟩
end
def Iq (p : List Ev) (ord : List (List Int)) (i : Nat) : List Int := -1 :: (ord[(evAt p i).op.loc.toNat]?.getD [])
def Hd (l : List Int) (i : Nat) : Int := Ae l (l.findIdx (fun y => decide ((i : Int) = y)) - 1)
def Bf (p : List Ev) (dn : List Bool) (ord : List (List Int)) (i : Nat) : List Int :=
 if (evAt p i).reads = false then [-2] else if dn[i]?.getD false then [Hd (Iq p ord i) i] else Iq p ord i
def Ce (p : List Ev) (dn : List Bool) (ord : List (List Int)) : Nat → Nat → List (List Int)
 | 0, _ => [[]]
 | k + 1, i => (Bf p dn ord i).flatMap fun w => (Ce p dn ord k (i + 1)).map (w :: ·)
def Mu (p : List Ev) (dn : List Bool) (ord : List (List Int)) : List (List Int) := Ce p dn ord p.length 0
structure OrdsOk (p : List Ev) (dn : List Bool) (ord : List (List Int)) : Prop where
 len : ord.length = 3
 bnd : ∀ l ∈ ord, l.length ≤ p.length
 mem : ∀ i, i < p.length → (evAt p i).reads = true → dn[i]?.getD false = true → (i : Int) ∈ ord[(evAt p i).op.loc.toNat]?.getD []
structure FromB (p : List Ev) (dn : List Bool) (ord : List (List Int)) (M : Aa) (l pb yb rb wb ob db fb : Nat) (ea da oa : Option Addr) (ec dc oc : Nat) (ovs : List Value) : Prop where
 hp : rd M pb 0 1 [.slice ea p.length ec]
 hy : rd M yb 0 1 [yv l]
 hr : rd M rb 0 1 [Av fb p.length p.length]
 hw : rd M wb 0 1 [.func (.func 112) #[] #[pv pb 0, pv yb 0, pv rb 0, pv wb 0, pv ob 0, pv db 0]]
 ho : rd M ob 0 1 [.slice oa ord.length oc]
 hd : rd M db 0 1 [.slice da dn.length dc]
 pr : rdS M 6 ea p.length (p.flatMap Bj)
 dr : rdS M 1 da dn.length (dn.flatMap eb)
 ol : ovs.length = ord.length
 orr : rdS M 1 oa ord.length ovs
 ok : ∀ i (h : i < ovs.length) (h' : i < ord.length), SlC M 1 ei ovs[i] ord[i]
section
variable {p : List Ev} {dn : List Bool} {ord : List (List Int)} {l pb yb rb wb ob db fb : Nat} {ea da oa : Option Addr} {ec dc oc : Nat} {ovs : List Value}
theorem FromB.mono {M M' : Aa} (h : FromB p dn ord M l pb yb rb wb ob db fb ea da oa ec dc oc ovs) (hM : M.le M') : FromB p dn ord M' l pb yb rb wb ob db fb ea da oa ec dc oc ovs :=
 ⟨h.hp.mono hM, h.hy.mono hM, h.hr.mono hM, h.hw.mono hM, h.ho.mono hM, h.hd.mono hM, h.pr.mono hM, h.dr.mono hM, h.ol, h.orr.mono hM, fun i a b => (h.ok i a b).mono hM⟩
theorem Ap0 {ord0 : List Int} {i : Nat} (hm : (i : Int) ∈ ord0) : ∃ k, (-1 :: ord0).findIdx (fun y => decide ((i : Int) = y)) = k + 1 ∧ k + 1 < (-1 :: ord0 : List Int).length := by
 have h1 : ((-1 :: ord0 : List Int)).findIdx (fun y => decide ((i : Int) = y)) = ord0.findIdx (fun y => decide ((i : Int) = y)) + 1 := by
  rw [List.findIdx_cons]
  have : decide ((i : Int) = -1) = false := decide_eq_false (by omega)
  rw [this]; rfl
 refine ⟨_, h1, ?_⟩
 have := lF1 (p := fun y => decide ((i : Int) = y)).2 ⟨(i : Int), hm, decide_eq_true rfl⟩
 simp only [lB3]; omega
theorem take_set {cur : List Int} {i : Nat} (hi : i < cur.length) (w : Int) : (cur.set i w).take (i + 1) = cur.take i ++ [w] := by
 rw [lA7 (by simpa using hi), lCz (lA5 i)]
 simp
theorem Aa8 (hp : POk p) (ax : dn.length = p.length) (gZ : OrdsOk p dn ord) {L : List (List Int)} {I : List (List Int) → Aa → Own → Prop} {S : Aa → Own → Prop} {M0 : Aa}
  (aE : ∀ xs M2 M3 G2, M2.le M3 → I xs M2 G2 → I xs M3 G2)
  (hy : ∀ xs x, x ∈ L → ∀ M2 G2 v, M0.le M2 → I xs M2 G2 → SlC M2 1 ei v x → Oo Tryz.prog l #[v] M2 G2 fun b M3 G3 => (b = .bool true ∧ I (xs ++ [x]) M3 G3) ∨ (b = .bool false ∧ S M3 G3)) :
  ∀ (k i : Nat) (cur : List Int) (xs : List (List Int)) (M : Aa) (G : Own), i + k = p.length → cur.length = p.length → M0.le M → FromB p dn ord M l pb yb rb wb ob db fb ea da oa ec dc oc ovs →
   (∀ m ∈ Ce p dn ord k i, cur.take i ++ m ∈ L) → I xs M G →
   Con Tryz.prog 112 #[vi i, pv pb 0, pv yb 0, pv rb 0, pv wb 0, pv ob 0, pv db 0] M ((fb, Cl 3 (cur.map vi)) :: G) fun v M' G' =>
    ∃ (cur' : List Int) (G1 : Own), G'.Perm ((fb, Cl 3 (cur'.map vi)) :: G1) ∧ cur'.length = p.length ∧ cur'.take i = cur.take i ∧
     ((v = .bool true ∧ I (xs ++ (Ce p dn ord k i).map (cur.take i ++ ·)) M' G1) ∨ (v = .bool false ∧ S M' G1)) := by
 have hb := hp.len
 intro k
 induction k with
 | zero =>
  intro i cur xs M G eT aS hM hB hL hI
  have hi : i = p.length := by omega
  subst hi
  have h1 := hB.hp
  have h2 := hB.hy
  have h3 := hB.hr
  refine Con.enter Q23_ok (args := [vi p.length, pv pb 0, pv yb 0, pv rb 0, pv wb 0, pv ob 0, pv db 0]) (by simp [Q23]) fun w0 => ?_
  simp only [Q23, A9]
  repeat' first | refine st ?_ | (refine EV.reg ?_; (conv => (arg 2; whnf)); (repeat first | refine nx ?_ | simp only [decide_true])) | (refine cX ?_ ?_ <;> intro h <;> try exact Ah h) | (refine xn ?_; (repeat first | refine nx ?_ | simp only [decide_true])) | fail
  refine EV.any (t := Cu5) [] (lAe _) ?_
  simp only [Aj, As, Ak, Au, reduceIte, Nat.reduceEqDiff]
  repeat' first | ((first | refine zo (fun lq aD => ?_) | refine zl ?_ | fail); try refine nz ?_) | (refine ZA (fun tq aB => ?_) (fun tq aB => ?_) <;> try refine nz ?_) | exact zn | ((first | refine xm ?_ | refine xn ?_ | fail); try refine nz ?_) | exact ⟨⟩ | fail
  have cQ : Sl (M.add ((fb, Cl 3 (cur.map vi)) :: G)) 1 ei (Av fb p.length p.length) cur := ⟨some ⟨fb, 0, none⟩, p.length, by rw [aS], Or.inr ⟨fb, 0, rfl, by rw [A0, lAu, aS]; exact Gl aS⟩⟩
  refine Con.callB (G1 := []) (Hm cur _ cQ (by omega)) (Aa.le_refl _) (lAf _) ?_
  rintro v1 M1 G1 ⟨o1, rfl, bU, rfl⟩
  refine ⟨Aa.le_refl _, fun q hq => absurd hq lB5, ?_⟩
  repeat' first | (refine zl ?_; try refine nz ?_) | refine zq (fun lq tq aD aB => ?_) | (refine ZB (fun tq aB => ?_) (fun tq aB => ?_) <;> try refine nz ?_) | exact zn | exact ⟨⟩ | fail
  refine Fx.frzS (osg 3 o1 (cur.map vi)) ?_
  have aJ : cur ∈ L := by
   have := hL [] (by simp [Ce])
   rwa [lAa, lAw (by omega)] at this
  have ak : SlC (M.add (osg 3 o1 (cur.map vi))) 1 ei (osv o1 cur.length) cur := Hc bU rfl (fun q hq => hq)
  refine Oo.callS (hy xs cur aJ _ G _ (Aa.le_trans hM (JB _ _)) (aE _ _ _ _ (JB _ _) hI) ak) ?_
  rintro b M2 G2 bS fB
  repeat' first | ((first | refine zo (fun lq aD => ?_) | refine zl ?_ | fail); try refine nz ?_) | refine zq (fun lq tq aD aB => ?_) | refine zf ?_ | exact ⟨⟩ | fail
  (refine rt Q23_ok ?_; try with_reducible exact ⟨⟩)
  refine ⟨cur, G2, lAf _, aS, rfl, ?_⟩
  simpa [Ce, lAw (Nat.le_of_eq aS)] using fB
 | succ k ihk =>
  intro i cur xs M G eT aS hM hB hL hI
  have hi : i < p.length := by omega
  have h1 := hB.hp
  have h2 := hB.hy
  have h3 := hB.hr
  have h4 := hB.hw
  have h5 := hB.ho
  have h6 := hB.hd
  obtain ⟨eb1, eo, rfl, hat⟩ := Sl.at (enc := Bj) (fun _ => rfl) (by decide) hB.pr (by omega)
  have jH := JJ hat i hi
  have pp := jH.pt 1 1 (by omega) rfl
  have vp : (i : Int) < p.length := by omega
  have hne : decide ((i : Int) = p.length) = false := decide_eq_false (by omega)
  have uJ : i < cur.length := by omega
  have aV : IntKind.i64.wrap ((i : Int) + 1) = ((i + 1 : Nat) : Int) := w64 (by omega) (by omega)
  refine Con.enter Q23_ok (args := [vi i, pv pb 0, pv yb 0, pv rb 0, pv wb 0, pv ob 0, pv db 0]) (by simp [Q23]) fun w0 => ?_
  simp only [Q23, A9]
  cases hre : (evAt p i).reads with
  | false =>
   have g6 : Bf p dn ord i = [-2] := by simp [Bf, hre]
   repeat' first | refine st ?_ | (refine EV.reg ?_; (conv => (arg 2; whnf)); (repeat first | refine nx ?_ | simp only [hne, hre, aV, Ap, lA1, aS, hi])) | (refine Aq.call (Ci (evAt p i)) ?_; (repeat first | refine nx ?_ | simp only [hne, hre, aV, Ap, lA1, aS, hi])) | (refine cX ?_ ?_ <;> intro h <;> try exact Ah h) | refine ZF ?_ | ((first | refine xm ?_ | refine xn ?_ | fail); (repeat first | refine nx ?_ | simp only [hne, hre, aV, Ap, lA1, aS, hi])) | (refine xw ?_; (repeat first | refine nx ?_ | simp only [hne, hre, aV, Ap, lA1, aS, hi])) | fail
   have jN := take_set uJ (-2)
   refine Con.run (ihk (i + 1) (cur.set i (-2)) xs M G (by omega) (by rw [lBl]; exact aS) hM hB (fun m hm => ?_) hI) ?_
   ·rw [jN, lAc]
    refine hL _ ?_
    simp only [Ce, g6, lCa]
    exact lAk.2 ⟨m, hm, rfl⟩
   rintro v M' G' bB ⟨cur', G1, jG, bf, fM, aF⟩
   repeat' first | fail
   (refine rt Q23_ok ?_; try with_reducible exact ⟨⟩)
   rw [jN] at fM aF
   refine ⟨cur', G1, jG, bf, ?_, ?_⟩
   ·have := congrArg (List.take i) fM
    rw [lDb, lC0 (by omega)] at this
    rw [this, lCx (by rw [lC4]; omega), lDb, Nat.min_self]
   ·have e : (Ce p dn ord (k + 1) i).map (cur.take i ++ ·) = (Ce p dn ord k (i + 1)).map ((cur.take i ++ [-2]) ++ ·) := by
     simp only [Ce, g6, lCa, lE5]
     apply lEt; intro y _; simp
    rw [e]; exact aF
  | true =>
   have g6 : Bf p dn ord i = if dn[i]?.getD false then [Hd (Iq p ord i) i] else Iq p ord i := by simp [Bf, hre]
   have bg := hp.loc i hi
   have eG := gZ.len
   have hlo : (evAt p i).op.loc.toNat < ord.length := by omega
   obtain ⟨ob1, oo, rfl, bC⟩ := Dj.at hB.orr hB.ol hB.ok (by omega)
   obtain ⟨db1, do1, rfl, iH⟩ := Sl.at (sz := 1) (enc := eb) (fun _ => rfl) (by decide) hB.dr (by omega)
   obtain ⟨la, lc, aT, cW, aX⟩ := bC _ hlo
   rw [lAu] at aT
   rw [A0] at aX
   have s6 : rd M db1 (do1 + i) 1 [vb (dn[i]?.getD false)] := by
    have := iH i (by omega)
    rw [lAu] at this
    rwa [lA2 (by omega : i < dn.length)]
   have uK : (evAt p i).op.loc < (ord.length : Int) := by omega
   have uC : (i : Int) < dn.length := by omega
   have ce : Iq p ord i = -1 :: ord[(evAt p i).op.loc.toNat] := by simp only [Iq]; rw [lA2 hlo]; rfl
   have gB := gZ.bnd _ (lAm hlo)
   have o5 := gZ.mem i hi hre
   rw [show ord[(evAt p i).op.loc.toNat]?.getD [] = ord[(evAt p i).op.loc.toNat] from by rw [lA2 hlo]; rfl] at o5
   generalize ord[(evAt p i).op.loc.toNat] = o0 at *
   repeat' first | refine st ?_ | (refine EV.reg ?_; (conv => (arg 2; whnf)); (repeat first | refine nx ?_ | simp only [hne, hre])) | (refine Aq.call (Ci (evAt p i)) ?_; (repeat first | refine nx ?_ | simp only [hne, hre])) | (refine cX ?_ ?_ <;> intro h <;> try exact Ah h) | refine ZF ?_ | ((first | refine xm ?_ | refine xn ?_ | fail); (repeat first | refine nx ?_ | simp only [hne, hre])) | fail
   refine EV.any (t := Cu6) [] (lAe _) ?_
   simp only [Aj, As, Ak, Au, reduceIte, Nat.reduceEqDiff]
   repeat' first | ((first | refine zo (fun lq aD => ?_) | refine zl ?_ | fail); try refine nz ?_) | refine zq (fun lq tq aD aB => ?_) | (refine ZA (fun tq aB => ?_) (fun tq aB => ?_) <;> try refine nz ?_) | (refine ZB (fun tq aB => ?_) (fun tq aB => ?_) <;> try refine nz ?_) | exact zn | refine ZF ?_ | ((first | with_reducible intro b | refine xm ?_ | refine xn ?_ | refine lAd (Aa.le_refl _) (lAd (Ax ?_) ?_); focus ((repeat' first | exact lA0 _ | exact lAe _ | exact lAh _ _ | refine lAg _ ?_ | refine lAo ?_ _ | refine lA9 ?_ | refine lAq _ ?_); done) | fail); try refine nz ?_) | exact ⟨⟩ | fail
   refine ⟨o0.map vi, Ww aX, Yj _, Or.inl ⟨some (b, 1, []), 1, rfl, [vi (-1)], ⟨rfl, rfl, lA5 _, by decide⟩, (fb, Cl 3 (cur.map vi)) :: G, by simp [osg], by simp only [maxLen]; omega, by omega, fun o2 au _ => ?_⟩⟩
   repeat' first | ((first | refine zo (fun lq aD => ?_) | refine zl ?_ | fail); try refine nz ?_) | refine zq (fun lq tq aD aB => ?_) | refine zf ?_ | exact ⟨⟩ | fail
   have jO : Ey 1 o2 (1 + o0.length) ((Iq p ord i).map vi) := by rw [ce]; simpa using au
   rw [show vi (-1) :: o0.map vi = (Iq p ord i).map vi from by rw [ce]; rfl]
   refine EV.frz (osg 3 o2 ((Iq p ord i).map vi)) ?_
   have m8 : (Iq p ord i).length = 1 + o0.length := by rw [ce, lB3]; omega
   have ak : SlC (M.add (osg 3 o2 ((Iq p ord i).map vi))) 1 ei (osv o2 (1 + o0.length)) (Iq p ord i) := Hc jO m8.symm (fun q hq => hq)
   generalize hN : M.add (osg 3 o2 ((Iq p ord i).map vi)) = N at *
   have aA : M.le N := hN ▸ JB _ _
   have pq := hB.mono aA
   have iI := aE _ _ _ _ aA hI
   have sd := s6.mono aA
   have vq := h6.mono aA
   clear hN aT aX jH pp h1 h2 h5 hat iH bC
   refine EV.seq (JI (fun ρ' M' G' => ∃ ca cc, M' = N ∧ rdS N 1 ca (Bf p dn ord i).length ((Bf p dn ord i).map vi) ∧ (∀ q ∈ [(0, vi i), (1, pv pb 0), (2, pv yb 0), (3, pv rb 0), (4, pv wb 0), (5, pv ob 0), (6, pv db 0), (9, .slice ca (Bf p dn ord i).length cc)], get ρ' q.1 = some q.2) ∧ G' = (fb, Cl 3 (cur.map vi)) :: G) ?_ ?_)
   ·intro k' key
    cases hdn : dn[i]?.getD false with
    | false =>
     rw [hdn] at sd g6
     rw [if_neg (by simp)] at g6
     repeat' first | refine st ?_ | refine rg ?_ | (refine cX ?_ ?_ <;> intro h <;> try exact Ah h) | refine ZF ?_ | ((first | refine xm ?_ | refine xn ?_ | fail); try refine nx ?_) | exact ⟨⟩ | fail
     obtain ⟨a9, c9, e9, _, pu⟩ := ak
     rw [e9]
     refine JH (key _ _ _ ⟨a9, c9, rfl, ?_, ?_, rfl⟩)
     ·rw [g6]; rwa [A0] at pu
     ·rw [g6]
      exact eE
    | true =>
     rw [hdn] at sd g6
     rw [if_pos rfl] at g6
     obtain ⟨k0, kW, cM⟩ := Ap0 (o5 hdn)
     rw [← ce] at kW cM
     have pw : Ha (fun y => decide ((i : Int) = y)) (Iq p ord i) = ((k0 + 1 : Nat) : Int) := by
      rw [Ha, dif_pos (by omega), kW]
     have bW : Hd (Iq p ord i) i = Ae (Iq p ord i) k0 := by rw [Hd, kW]; rfl
     repeat' first | refine st ?_ | refine rg ?_ | (refine Aq.call (Aa6 (Iq p ord i) _ (ak.sl.mono (JB _ _)) (by omega) i) ?_; try refine nx ?_) | (refine cX ?_ ?_ <;> intro h <;> try exact Ah h) | refine ZF ?_ | ((first | refine xm ?_ | refine xn ?_ | fail); try refine nx ?_) | exact ⟨⟩ | fail
     obtain ⟨a9, c9, e9, vr, pu⟩ := ak
     cases o2 with
     | none => exact absurd jO.1 (by omega)
     | some ob2 =>
      obtain ⟨b2, cap2, sp2⟩ := ob2
      simp only [Value.slice.injEq, Gh, E3] at e9
      obtain ⟨ea9, en9, ec9⟩ := e9
      subst ea9 ec9
      simp only [lC9, C2, pw, E3, Gh]
      have dO : IntKind.i64.wrap (((k0 + 1 : Nat) : Int) - 1) = k0 := (w64 (by omega) (by omega)).trans (by omega)
      refine ⟨k0, by rw [dO], k0 + 1, rfl, by omega, by omega, Or.inl rfl, ?_⟩
      have eadd : (⟨b2, 0, none⟩ : Addr).add k0 = ⟨b2, 0 + k0, none⟩ := by
       unfold Addr.add; split
       ·rename_i h0; rw [h0]
       ·rfl
      rw [Nat.add_sub_cancel_left, eadd]
      have px : ¬ cap2 = k0 := by omega
      simp only [px, if_false]
      refine JH (key _ _ _ ⟨some ⟨b2, 0 + k0, none⟩, cap2 - k0, rfl, ?_, ?_, rfl⟩)
      ·rw [g6, bW]
       rcases pu with ⟨h0, _⟩ | ⟨b', o', e', bj⟩
       ·omega
       ·cases e'
        refine Or.inr ⟨b2, 0 + k0, rfl, ?_⟩
        have cU : k0 < (Iq p ord i).length := by omega
        have := bj.pt (out := [vi (Iq p ord i)[k0]]) k0 1 (by omega) (by rw [A0]; exact K0 vi _ cU)
        simp only [Ae, lA2 (by omega : k0 < (Iq p ord i).length), lAn]
        exact this
      ·rw [g6]
       exact eE
   rintro ρ2 M2 G2 ⟨ca, cc, rfl, uL, hq, rfl⟩
   refine JA ?_ hq (lA0 _)
   clear hq ak
   have uM : (Bf p dn ord i).length ≤ 33 := by
    rw [g6]; split
    ·simp
    ·rw [m8]; omega
   have m9 : Ce p dn ord (k + 1) i = (Bf p dn ord i).flatMap fun w => (Ce p dn ord k (i + 1)).map (w :: ·) := rfl
   generalize Bf p dn ord i = ch at *
   repeat' first | refine st ?_ | refine rg ?_ | exact ⟨⟩ | fail
   refine JC (fun x : Nat × Aa × Own × List Int => ([(0, vi i), (1, pv pb 0), (2, pv yb 0), (3, pv rb 0), (4, pv wb 0), (5, pv ob 0), (6, pv db 0), (57, .slice ca ch.length cc), (58, vi ch.length), (59, vi x.1)], x.2.1, (fb, Cl 3 (x.2.2.2.map vi)) :: x.2.2.1))
    (fun x => x.1 ≤ ch.length ∧ M2.le x.2.1 ∧ x.2.2.2.length = p.length ∧ x.2.2.2.take i = cur.take i ∧ I (xs ++ ((ch.take x.1).flatMap fun w => (Ce p dn ord k (i + 1)).map (w :: ·)).map (cur.take i ++ ·)) x.2.1 x.2.2.1) (fun x => ch.length - x.1) (0, M2, G, cur) rfl ⟨lA8 _, Aa.le_refl _, aS, rfl, by simpa using iI⟩ ?env1 (lA0 _) ?_
   case env1 =>
    exact eE
   rintro ⟨j, Mj, Gj, cj⟩ ⟨hj, kp, g8, kr, o6⟩ ih
   dsimp only at hj kp g8 kr o6 ih ⊢
   repeat' first | refine st ?_ | refine rg ?_ | (refine cX ?_ ?_ <;> intro h <;> try exact Ah h) | exact ⟨⟩ | fail
   ·have aR : j < ch.length := by omega
    obtain ⟨cb, co, rfl, ma⟩ := Sl.at (sz := 1) (enc := ei) (fun _ => rfl) (by decide) (by rw [A0]; exact uL) (by omega)
    have vt := (Cj ma j aR).mono kp
    have vv := (pq.mono kp).hr
    have wA := (pq.mono kp).hw
    have py : i < cj.length := by omega
    have jq : Ae ch j = ch[j] := by simp only [Ae, lA2 aR, lAn]
    clear ma
    repeat' first | refine st ?_ | (refine EV.reg ?_; (conv => (arg 2; whnf)); (repeat first | refine nx ?_ | simp only [aV, Ap, lA1, g8, hi])) | refine ZF ?_ | ((first | refine xm ?_ | refine xn ?_ | fail); (repeat first | refine nx ?_ | simp only [aV, Ap, lA1, g8, hi])) | (refine xw ?_; (repeat first | refine nx ?_ | simp only [aV, Ap, lA1, g8, hi])) | fail
    have jN := take_set py (Ae ch j)
    rw [kr] at jN
    refine Con.run (ihk (i + 1) (cj.set i (Ae ch j)) (xs ++ ((ch.take j).flatMap fun w => (Ce p dn ord k (i + 1)).map (w :: ·)).map (cur.take i ++ ·)) Mj Gj (by omega) (by rw [lBl]; exact g8) (Aa.le_trans hM (Aa.le_trans aA kp)) (pq.mono kp) (fun m hm => ?_) o6) ?_
    ·rw [jN, lAc]
     refine hL _ ?_
     rw [m9]
     exact lB4.2 ⟨ch[j], lAm aR, lAk.2 ⟨m, hm, by rw [jq]; rfl⟩⟩
    rintro v M' G' bB ⟨cur', G1, jG, bf, fM, aF⟩
    rw [jN] at fM aF
    have o7 : cur'.take i = cur.take i := by
     have := congrArg (List.take i) fM
     rw [lDb, lC0 (by omega)] at this
     rw [this, lCx (by rw [lC4]; omega), lDb, Nat.min_self]
    have esum : xs ++ ((ch.take (j + 1)).flatMap fun w => (Ce p dn ord k (i + 1)).map (w :: ·)).map (cur.take i ++ ·) = (xs ++ ((ch.take j).flatMap fun w => (Ce p dn ord k (i + 1)).map (w :: ·)).map (cur.take i ++ ·)) ++ (Ce p dn ord k (i + 1)).map ((cur.take i ++ [Ae ch j]) ++ ·) := by
     rw [lA7 aR, lB0, lAv, ← lAc, lCa, lE5, jq]
     congr 1
     apply lEt; intro y _; simp
    rcases aF with ⟨rfl, aF⟩ | ⟨rfl, aF⟩
    ·repeat' first | refine su ?_ | (refine EV.reg ?_; (conv => (arg 2; whnf)); (repeat first | refine nx ?_ | simp only [lBd])) | (refine cX ?_ ?_ <;> intro h <;> try exact Ah h) | fail
     have ih3 := ih (j + 1, M', G1, cur') ⟨by dsimp only; omega, Aa.le_trans kp bB, bf, o7, by rw [esum]; exact aF⟩ (by dsimp only; omega)
     dsimp only at ih3
     refine JF ?_ jG
     refine JE ih3 ?_
     exact eE
    ·repeat' first | refine st ?_ | (refine EV.reg ?_; (conv => (arg 2; whnf)); (repeat first | refine nx ?_ | simp only [lB9])) | (refine cX ?_ ?_ <;> intro h <;> try exact Ah h) | fail
     (refine rt Q23_ok ?_; try with_reducible exact ⟨⟩)
     exact ⟨cur', G1, jG, bf, o7, Or.inr aF⟩
   ·have jm : j = ch.length := by omega
    subst jm
    rw [lB2] at o6
    (refine rt Q23_ok ?_; try with_reducible exact ⟨⟩)
    exact ⟨cj, Gj, lAf _, g8, kr, Or.inl (m9 ▸ o6)⟩
theorem W7 {M : Aa} (hp : POk p) (ax : dn.length = p.length) (gZ : OrdsOk p dn ord) {ps ds os : Value} (hps : Sl M 6 Bj ps p) (di : Sl M 1 eb ds dn) (fN : Dj M 1 ei os ord)
  (h1 : rd M pb 0 1 [ps]) (h2 : rd M ob 0 1 [os]) (h3 : rd M db 0 1 [ds]) : Ah1 Tryz.prog 111 #[] #[pv pb 0, pv ob 0, pv db 0] M (Mu p dn ord) ElI := by
 intro ly I S M1 G hM aE hy xs hI
 have hb := hp.len
 have dZ := h1.mono hM
 have iJ := h2.mono hM
 have lm := h3.mono hM
 obtain ⟨ea, ec, rfl, an⟩ := hps
 obtain ⟨da, dc, rfl, il⟩ := di
 obtain ⟨oa, oc, ovs, rfl, ar, am, ai⟩ := fN
 refine Con.enter Q22_ok (args := [yv ly, pv pb 0, pv ob 0, pv db 0]) (by simp [Q22]) fun w0 => ?_
 simp only [Q22, A9]
 refine EV.seq (EV.reg ?_)
 (repeat first | refine nx ?_ | simp only [Cu4])
 intro yb
 repeat' first | fail
 refine EV.seq ?_
 repeat' first | (refine EV.reg ?_; (conv => (arg 2; whnf)); (repeat first | refine nx ?_ | simp only [Ba])) | (with_reducible intro b; (repeat first | refine nx ?_ | simp only [Ba])) | refine ZF ?_ | (refine xn ?_; (repeat first | refine nx ?_ | simp only [Ba])) | (refine xw ?_; (repeat first | refine nx ?_ | simp only [Ba])) | fail
 rename Nat => rb
 rename Nat => fb
 refine EV.seq ?_
 repeat' first | refine rg ?_ | (with_reducible intro b; try refine nx ?_) | exact ⟨⟩ | fail
 rename Nat => wb
 refine EV.seq ?_
 repeat' first | refine rg ?_ | (refine xiA rfl ?_; try refine nx ?_) | (refine xw ?_; refine nx ?_) | exact ⟨⟩ | fail
 have se : b = b := rfl
 generalize b = rowb at *
 refine De.frzS [(wb, Cl 123 [.func (.func 112) #[] #[pv pb 0, pv yb 0, pv fb 0, pv wb 0, pv ob 0, pv db 0]]), (fb, Cl 34 [Av rowb p.length p.length]), (yb, Cl 151 [yv ly])] ?_
 generalize hR : M1.add _ = N
 have aA : M1.le N := hR ▸ JB _ _
 have d6 := Aa.le_trans hM aA
 have hB : FromB p dn ord N ly pb yb fb wb ob db rowb ea da oa ec dc oc ovs :=
  ⟨dZ.mono aA, hR ▸ An 2 rfl rfl (by simp), hR ▸ An 1 rfl rfl (by simp), hR ▸ An 0 rfl rfl (by simp), iJ.mono aA, lm.mono aA, an.mono d6, il.mono d6, ar, am.mono d6, fun i a b => (ai i a b).mono d6⟩
 clear hR
 rw [show (List.replicate p.length (Value.int IntKind.i64 0)) = (List.replicate p.length (0 : Int)).map vi from by simp]
 refine Con.callS (Aa8 hp ax gZ (L := Mu p dn ord) aE (fun xs x hx M2 G2 v h4 h5 h6 => hy xs x hx M2 G2 v (Aa.le_trans aA h4) h5 h6) p.length 0 (List.replicate p.length 0) xs N G (by omega) (by simp) (Aa.le_refl _) hB (fun m hm => by simpa [Mu] using hm) (aE _ _ _ _ aA hI)) ?_
 rintro v M' G' bB ⟨cur', G1, jG, bf, fM, aF⟩
 refine JF (G' := (rowb, Cl 3 (cur'.map vi)) :: G1) ?_ (by simpa using jG)
 refine JA (ρ' := []) (G' := G1) ?_ (fun _ h => absurd h lB5) (lD9 _ _)
 refine EV.done Q22_ok ?_
 (repeat first | refine nx ?_ | simp only [Q22])
 rcases aF with ⟨_, aF⟩ | ⟨_, aF⟩
 ·left; simpa [Mu] using aF
 ·right; exact aF
theorem Aa9 {M : Aa} (hp : POk p) (ax : dn.length = p.length) (gZ : OrdsOk p dn ord) {ps ds os : Value} (hps : Sl M 6 Bj ps p) (di : Sl M 1 eb ds dn) (fN : Dj M 1 ei os ord) :
  Con Tryz.prog 80 #[ps, ds, os] M [] (Its (Mu p dn ord) ElI) := by
 have cd := hps
 have iL := di
 have pz := fN
 obtain ⟨ea, ec, rfl, an⟩ := hps
 obtain ⟨da, dc, rfl, il⟩ := di
 obtain ⟨oa, oc, ovs, rfl, ar, am, ai⟩ := fN
 refine Con.enter Q21_ok (args := [.slice ea p.length ec, .slice da dn.length dc, .slice oa ord.length oc]) (by simp [Q21]) fun w0 => ?_
 simp only [Q21, A9]
 repeat' first | refine st ?_ | refine rg ?_ | (with_reducible intro b; try refine nx ?_) | exact ⟨⟩ | fail
 refine EV.keep [] ?_
 generalize hR : M.add _ = N
 have aA : M.le N := hR ▸ JB _ _
 (refine rt Q21_ok ?_; try with_reducible exact ⟨⟩)
 refine ⟨_, _, rfl, W7 hp ax gZ (cd.mono aA) (iL.mono aA) (pz.mono aA) ?_ ?_ ?_⟩
 ·exact hR ▸ Bm (T := 74) (cs := [.slice ea p.length ec]) (by simp) rfl (by simp)
 ·exact hR ▸ Bm (T := 26) (cs := [.slice oa ord.length oc]) (by simp) rfl (by simp)
 ·exact hR ▸ Bm (T := 35) (cs := [.slice da dn.length dc]) (by simp) rfl (by simp)
end
def Bt (p : List Ev) (dn : List Bool) : Nat → Int → List (List (List Int))
 | 0, _ => [[]]
 | k + 1, loc => (Ct p (Az p dn loc)).flatMap fun l => (Bt p dn k (loc + 1)).map (l :: ·)
def O6 (p : List Ev) (dn : List Bool) : List (List (List Int)) := Bt p dn 3 0
def ElO (x : List (List Int)) (v : Value) (M : Aa) : Prop := Dj M 1 ei v x
theorem Dj.ok1 {H : Aa} {vs : List Value} {xss : List (List Int)} (hl : vs.length = xss.length) (hk : ∀ i (h : i < vs.length) (h' : i < xss.length), SlC H 1 ei vs[i] xss[i]) : ok1 vs := by
 intro v hv
 obtain ⟨i, hi, rfl⟩ := lBf hv
 obtain ⟨a, c, e, _⟩ := hk i hi (by omega)
 rw [e]; rfl
theorem J9 {p : List Ev} {dn : List Bool} : ∀ (k : Nat) (loc : Int) (x : List (List Int)), x ∈ Bt p dn k loc → x.length = k
 | 0, _, x, h => by simp [Bt] at h; subst h; rfl
 | k + 1, loc, x, h => by
  simp only [Bt, lB4, lAk] at h
  obtain ⟨l, _, y, hy, rfl⟩ := h
  simp [J9 k _ y hy]
theorem L2 (p : List Ev) (dn : List Bool) (loc : Int) : Iy p (Az p dn loc) := fun x hx => by
 obtain ⟨i, h1, _, rfl⟩ := B9.1 hx; omega
section
variable {M : Aa}
theorem Mv (p : List Ev) (dn : List Bool) (aP : p.length ≤ 32) (ax : dn.length = p.length) (k : Nat) (loc : Int) (hk : loc + k = 3) (h0 : 0 ≤ loc)
  (cB : ∀ k', k = k' + 1 → ∀ M' (ps ds : Value), Sl M' 6 Bj ps p → Sl M' 1 eb ds dn → Con Tryz.prog 79 #[ps, ds, vi (loc + 1)] M' [] (Its (Bt p dn k' (loc + 1)) ElO))
  {ps ds : Value} {lb pb db : Nat} (hps : Sl M 6 Bj ps p) (di : Sl M 1 eb ds dn) (h1 : rd M lb 0 1 [vi loc]) (h2 : rd M pb 0 1 [ps]) (h3 : rd M db 0 1 [ds]) :
  Ah1 Tryz.prog 109 #[] #[pv lb 0, pv pb 0, pv db 0] M (Bt p dn k loc) ElO := by
 intro ly I S M1 G hM aE hy xs hI
 have dZ := h1.mono hM
 have iJ := h2.mono hM
 have lm := h3.mono hM
 have fC := hps.mono hM
 have gO := di.mono hM
 obtain ⟨ea, ec, rfl, an⟩ := hps
 obtain ⟨da, dc, rfl, il⟩ := di
 refine Con.enter Q29_ok (args := [yv ly, pv lb 0, pv pb 0, pv db 0]) (by simp [Q29]) fun w0 => ?_
 simp only [Q29, A9]
 refine EV.seq (EV.reg ?_)
 (repeat first | refine nx ?_ | simp only [Cu1])
 intro yb
 refine EV.frz [(yb, Cl 149 [yv ly])] ?_
 generalize hR : M1.add _ = N
 have aA : M1.le N := hR ▸ JB _ _
 have mc : rd N yb 0 1 [yv ly] := hR ▸ An 0 rfl rfl (by simp)
 clear hR
 have km := dZ.mono aA
 have me := iJ.mono aA
 have sg := lm.mono aA
 have iI := aE _ _ _ _ aA hI
 cases k with
 | zero =>
  have mf : decide (loc = 3) = true := decide_eq_true (by omega)
  repeat' first | refine st ?_ | (refine EV.reg ?_; (conv => (arg 2; whnf)); (repeat first | refine nx ?_ | simp only [mf])) | (refine cX ?_ ?_ <;> intro h <;> try exact Ah h) | (refine xm ?_; (repeat first | refine nx ?_ | simp only [mf])) | fail
  refine Oo.run (hy xs [] (by simp [Bt]) N G _ aA iI ⟨none, 0, [], rfl, rfl, .inl ⟨rfl, rfl⟩, fun i h => absurd h (lBn _)⟩) ?_
  intro v M' G' bB hv
  repeat' first | fail
  (refine rt Q29_ok ?_; try with_reducible exact ⟨⟩)
  rcases hv with ⟨_, hv⟩ | ⟨_, hv⟩
  ·left; exact hv
  ·right; exact hv
 | succ k =>
  have mf : decide (loc = 3) = false := decide_eq_false (by omega)
  repeat' first | refine st ?_ | (refine EV.reg ?_; (conv => (arg 2; whnf)); (repeat first | refine nx ?_ | simp only [mf])) | (refine cX ?_ ?_ <;> intro h <;> try exact Ah h) | (refine xm ?_; (repeat first | refine nx ?_ | simp only [mf])) | fail
  refine EV.any (t := Cu2) [] (lAe _) ?_
  simp only [Aj, As, Ak, Au, reduceIte, Nat.reduceEqDiff]
  repeat' first | ((first | refine zo (fun lq aD => ?_) | refine zl ?_ | fail); try refine nz ?_) | (refine ZA (fun tq aB => ?_) (fun tq aB => ?_) <;> try refine nz ?_) | exact zn | ((first | refine xm ?_ | refine xn ?_ | fail); try refine nz ?_) | exact ⟨⟩ | fail
  refine Con.callS (G1 := []) (Uk p _ (fC.mono aA) (by omega) dn _ (gO.mono aA) ax loc) ?_
  rintro v M2 G2 bS ⟨_, ⟨ow, rfl, uN, rfl⟩, rfl⟩
  refine ⟨bS, fun q hq => absurd hq lB5, ?_⟩
  repeat' first | (refine zl ?_; try refine nz ?_) | refine zq (fun lq tq aD aB => ?_) | (refine ZB (fun tq aB => ?_) (fun tq aB => ?_) <;> try refine nz ?_) | exact zn | exact ⟨⟩ | fail
  refine De.keep G ?_
  generalize hR : M2.add _ = N2
  have fD : M2.le N2 := hR ▸ JB _ _
  have uO : SlC N2 1 ei (osv ow (Az p dn loc).length) (Az p dn loc) := hR ▸ Hc (T := 3) uN rfl (fun q hq => by simp [hq])
  clear hR
  have fX := Aa.le_trans bS fD
  have cY : (Az p dn loc).length ≤ p.length := A8 _ _
  refine Con.callS (G1 := []) (O5 p (by omega) (fC.mono (Aa.le_trans aA fX)) uO (L2 p dn loc) (by omega)) ?_
  rintro v M3 G3 dB ⟨g, caps, rfl, dR⟩
  repeat' first | (refine zl ?_; try refine nz ?_) | refine zq (fun lq tq aD aB => ?_) | refine zf ?_ | exact ⟨⟩ | fail
  have mg := Aa.le_trans fX dB
  refine JE (ρ' := [(0, yv ly), (1, pv lb 0), (2, pv pb 0), (3, pv db 0), (4, pv yb 0), (16, .func (.func g) #[] caps)]) (G' := G) ?_ ?env1
  case env1 =>
   exact eE
  refine EV.block ?_
  have ed := cB k rfl
  have o8 : Bt p dn (k + 1) loc = (Ct p (Az p dn loc)).flatMap fun l => (Bt p dn k (loc + 1)).map (l :: ·) := rfl
  have mh : IntKind.i64.wrap (loc + 1) = loc + 1 := w64 (by omega) (by omega)
  generalize Ct p (Az p dn loc) = ms at *
  generalize ml : Bt p dn k (loc + 1) = rs at *
  refine EV.over rfl rfl rfl dR (fun d ls M G' => ∃ G0, G'.Perm ((d, Obj.deferred (some [])) :: G0) ∧ I (xs ++ ls.flatMap fun l => rs.map (l :: ·)) M G0)
   (fun d c M G' => c = .ret ∧ ∃ G0, G'.Perm ((d, Obj.deferred (some [])) :: G0) ∧ S M G0) ?_ ?_ ?_ ?_ ?_
  ·rintro d ls M4 M5 G4 aY ⟨G0, hp, iM⟩
   exact ⟨G0, hp, aE _ _ _ _ aY iM⟩
  ·intro d
   exact ⟨G, lAf _, by simpa using aE _ _ _ _ mg iI⟩
  ·intro l d r aT aX ls x v M4 G4 w1 F hx bq ⟨G0, d8, kt⟩ d7
   refine JF ?_ (lCi _ d8)
   have fE := d7
   obtain ⟨xa, xc, rfl, kl, qA⟩ := d7
   refine EV.reg (sts := Bd7) ?_
   (repeat first | refine nx ?_ | simp only [Bd7])
   intro xb
   repeat' first | (refine xw ?_; refine nx ?_) | exact ⟨⟩ | fail
   refine EV.frz [(xb, Cl 34 [.slice xa x.length xc])] ?_
   generalize hR : M4.add _ = N4
   have cC : M4.le N4 := hR ▸ JB _ _
   have bX : rd N4 xb 0 1 [.slice xa x.length xc] := hR ▸ An 0 rfl rfl (by simp)
   clear hR
   refine JQ aT ?_
   have eI := Aa.le_trans mg (Aa.le_trans bq cC)
   have qB := km.mono eI
   have qC := me.mono eI
   have wB := sg.mono eI
   have o9 := mc.mono eI
   have qD := aE _ _ _ _ cC kt
   clear km me sg mc
   refine EV.block ?_
   repeat' first | refine st ?_ | (refine EV.reg ?_; (conv => (arg 2; whnf)); (repeat first | refine nx ?_ | simp only [mh])) | ((first | refine xm ?_ | refine xn ?_ | fail); (repeat first | refine nx ?_ | simp only [mh])) | fail
   refine Con.callS (G1 := []) (ed N4 _ _ (fC.mono (Aa.le_trans aA eI)) (gO.mono (Aa.le_trans aA eI))) ?_
   rintro v5 M5 G5 gq ⟨g5, caps5, rfl, ku⟩
   repeat' first | refine su ?_ | fail
   refine JE (ρ' := [(0, yv ly), (1, pv lb 0), (2, pv pb 0), (3, pv db 0), (4, pv yb 0), (5, pv xb 0), (22, .func (.func g5) #[] caps5)]) (G' := (l, Obj.loop { r with state := .busy }) :: (d, Obj.deferred (some [])) :: G0) ?_ ?env2
   case env2 =>
    exact eE
   refine JW (l0 := l) (r0 := { r with state := .busy }) rfl (by simp) rfl rfl ku (fun zs M G' => ∃ G1, G'.Perm ((l, Obj.loop { r with state := .busy }) :: (d, Obj.deferred (some [])) :: G1) ∧ I ((xs ++ ls.flatMap fun l => rs.map (l :: ·)) ++ zs.map (x :: ·)) M G1)
    (fun c M G' => c = .ret ∧ ∃ G1, G'.Perm ((l, Obj.loop { r with state := .busy }) :: (d, Obj.deferred (some [])) :: G1) ∧ S M G1) ?_ ?_ ?_ ?_ ?_
   ·rintro zs M6 M7 G6 aY ⟨G1, hp, iM⟩
    exact ⟨G1, hp, aE _ _ _ _ aY iM⟩
   ·exact ⟨G0, lAf _, by simpa using aE _ _ _ _ gq qD⟩
   ·intro l2 r2 dP im zs z vz M6 G6 w2 F2 hz fO ⟨G1, iN, kw⟩ qE
    refine JF ?_ (lCi _ iN)
    have uP := o9.mono (Aa.le_trans gq fO)
    have wC := bX.mono (Aa.le_trans gq fO)
    have qF := (fE.mono (Aa.le_trans cC (Aa.le_trans gq fO)))
    have wD := J9 k (loc + 1) z (ml ▸ hz)
    obtain ⟨za, zc, zvs, rfl, sh, uQ, hzs⟩ := qE
    refine EV.reg (sts := Bd8) ?_
    (repeat first | refine nx ?_ | simp only [Bd8])
    refine JQ dP ?_
    refine EV.block (EV.seq ?_)
    refine EV.any (t := Cu3) [] (lAe _) ?_
    simp only [Aj, As, Ak, Au, reduceIte, Nat.reduceEqDiff]
    repeat' first | ((first | refine zo (fun lq aD => ?_) | refine zl ?_ | fail); try refine nz ?_) | refine zq (fun lq tq aD aB => ?_) | (refine ZA (fun tq aB => ?_) (fun tq aB => ?_) <;> try refine nz ?_) | exact zn | ((first | with_reducible intro b | refine xm ?_ | refine xn ?_ | refine lAd (Aa.le_refl _) (lAd (Ax ?_) ?_); focus ((repeat' first | exact lA0 _ | exact lAe _ | exact lAh _ _ | refine lAg _ ?_ | refine lAo ?_ _ | refine lA9 ?_ | refine lAq _ ?_); done) | fail); try refine nz ?_) | exact ⟨⟩ | fail
    refine ⟨zvs, Ww uQ, Dj.ok1 sh hzs, Or.inl ⟨some (b, 1, []), 1, rfl, [.slice xa x.length xc], ⟨rfl, rfl, lA5 _, by decide⟩, (l2, Obj.loop { r2 with state := .busy }) :: (l, Obj.loop { r with state := .busy }) :: (d, Obj.deferred (some [])) :: G1, by simp [osg], by simp only [maxLen]; omega, by omega, fun o2 au _ => ?_⟩⟩
    repeat' first | (refine zl ?_; try refine nz ?_) | refine zq (fun lq tq aD aB => ?_) | (refine ZB (fun tq aB => ?_) (fun tq aB => ?_) <;> try refine nz ?_) | exact zn | (refine lAd (Aa.le_refl _) (lAd (Ax ?_) ?_); focus ((repeat' first | exact lA0 _ | exact lAe _ | exact lAh _ _ | refine lAg _ ?_ | refine lAo ?_ _ | refine lA9 ?_ | refine lAq _ ?_); done); try refine nz ?_) | exact ⟨⟩ | fail
    have jO : Ey 1 o2 (1 + z.length) (.slice xa x.length xc :: zvs) := by simpa using au
    refine Fx.frzS (osg 34 o2 (.slice xa x.length xc :: zvs)) ?_
    have aJ : x :: z ∈ Bt p dn (k + 1) loc := by rw [o8]; exact lB4.2 ⟨x, hx, lAk.2 ⟨z, hz, rfl⟩⟩
    have qG : ElO (x :: z) (osv o2 (1 + z.length)) (M6.add (osg 34 o2 (.slice xa x.length xc :: zvs))) := by
     refine ⟨oad o2, Rd o2, .slice xa x.length xc :: zvs, by rw [lB3, lE6], by simp [sh], ?_, ?_⟩
     ·rw [lB3, lE6]; exact E5 jO (fun q hq => hq)
     ·intro i hi bo
      cases i with
      | zero => exact qF.mono (JB _ _)
      | succ i => exact (hzs i (by simpa using hi) (by simpa using bo)).mono (JB _ _)
    refine Oo.callS (hy _ (x :: z) aJ _ G1 _ (Aa.le_trans aA (Aa.le_trans eI (Aa.le_trans gq (Aa.le_trans fO (JB _ _))))) (aE _ _ _ _ (JB _ _) kw) qG) ?_
    rintro v8 M8 G8 od (⟨rfl, lu⟩ | ⟨rfl, qH⟩)
    ·repeat' first | ((first | refine zo (fun lq aD => ?_) | refine zl ?_ | fail); (repeat first | refine nz ?_ | simp only [lBd])) | refine zq (fun lq tq aD aB => ?_) | refine zf ?_ | fail
     repeat' first | refine su ?_ | (refine cX ?_ ?_ <;> intro h <;> try exact Ah h) | fail
     refine JM dP im (lAf _) ⟨G8, lAf _, ?_⟩
     simpa only [lAv, lE0, lAc] using lu
    ·repeat' first | ((first | refine zo (fun lq aD => ?_) | refine zl ?_ | fail); (repeat first | refine nz ?_ | simp only [lB9])) | refine zq (fun lq tq aD aB => ?_) | refine zf ?_ | fail
     repeat' first | (refine cX ?_ ?_ <;> intro h <;> try exact Ah h) | fail
     exact JS (lAf _) ⟨rfl, G8, lAf _, qH⟩
   ·rintro M6 G6 fO ⟨G1, iN, kw⟩
    repeat' first | refine su ?_ | fail
    refine JM aT aX iN ⟨G1, lAf _, ?_⟩
    rw [lB0, lCa, ← lAc]; exact kw
   ·rintro c M6 G6 fO ⟨rfl, G1, iN, qI⟩
    exact JS iN ⟨rfl, G1, lAf _, qI⟩
  ·rintro d M4 G4 bq ⟨G0, d8, kt⟩
   refine EV.inBlock ?_
   refine EV.doneM Q29_ok (ms := [d]) (by simpa [Oq] using d8) ?_
   (repeat first | refine nx ?_ | simp only [Q29])
   left; rw [o8]; exact kt
  ·rintro d c M4 G4 bq ⟨rfl, G0, d8, qJ⟩
   refine JU Q29_ok (ms := [d]) (by simpa [Oq] using d8) ?_
   (repeat first | refine nx ?_ | simp only [Q29])
   right; exact qJ
theorem W8 (p : List Ev) (dn : List Bool) (aP : p.length ≤ 32) (ax : dn.length = p.length) : ∀ (k : Nat) (loc : Int), loc + k = 3 → 0 ≤ loc → ∀ M (ps ds : Value), Sl M 6 Bj ps p → Sl M 1 eb ds dn →
  Con Tryz.prog 79 #[ps, ds, vi loc] M [] (Its (Bt p dn k loc) ElO) := by
 intro k
 induction k with
 | zero =>
  intro loc hk h0 M ps ds hps di
  have cd := hps
  have iL := di
  obtain ⟨ea, ec, rfl, an⟩ := hps
  obtain ⟨da, dc, rfl, il⟩ := di
  refine Con.enter Q28_ok (args := [.slice ea p.length ec, .slice da dn.length dc, vi loc]) (by simp [Q28]) fun w0 => ?_
  simp only [Q28, A9]
  repeat' first | refine st ?_ | refine rg ?_ | (with_reducible intro b; try refine nx ?_) | exact ⟨⟩ | fail
  refine EV.keep [] ?_
  generalize hR : M.add _ = N
  have aA : M.le N := hR ▸ JB _ _
  (refine rt Q28_ok ?_; try with_reducible exact ⟨⟩)
  refine ⟨_, _, rfl, Mv p dn aP ax 0 loc hk h0 (fun k' e => by cases e) (cd.mono aA) (iL.mono aA) ?_ ?_ ?_⟩
  ·exact hR ▸ Bm (T := 3) (cs := [vi loc]) (by simp) rfl (by simp)
  ·exact hR ▸ Bm (T := 74) (cs := [.slice ea p.length ec]) (by simp) rfl (by simp)
  ·exact hR ▸ Bm (T := 35) (cs := [.slice da dn.length dc]) (by simp) rfl (by simp)
 | succ k ih =>
  intro loc hk h0 M ps ds hps di
  have cd := hps
  have iL := di
  obtain ⟨ea, ec, rfl, an⟩ := hps
  obtain ⟨da, dc, rfl, il⟩ := di
  refine Con.enter Q28_ok (args := [.slice ea p.length ec, .slice da dn.length dc, vi loc]) (by simp [Q28]) fun w0 => ?_
  simp only [Q28, A9]
  repeat' first | refine st ?_ | refine rg ?_ | (with_reducible intro b; try refine nx ?_) | exact ⟨⟩ | fail
  refine EV.keep [] ?_
  generalize hR : M.add _ = N
  have aA : M.le N := hR ▸ JB _ _
  (refine rt Q28_ok ?_; try with_reducible exact ⟨⟩)
  refine ⟨_, _, rfl, Mv p dn aP ax (k + 1) loc hk h0 (fun k' e M' ps' ds' h1 h2 => by cases e; exact ih (loc + 1) (by omega) (by omega) M' ps' ds' h1 h2) (cd.mono aA) (iL.mono aA) ?_ ?_ ?_⟩
  ·exact hR ▸ Bm (T := 3) (cs := [vi loc]) (by simp) rfl (by simp)
  ·exact hR ▸ Bm (T := 74) (cs := [.slice ea p.length ec]) (by simp) rfl (by simp)
  ·exact hR ▸ Bm (T := 35) (cs := [.slice da dn.length dc]) (by simp) rfl (by simp)
end
def A5 (p : List Ev) : List Int := Cq p.length fun i => (evAt p i).strong
def F5 (p : List Ev) (dn : List Bool) (ord : List (List Int)) (frm : List Int) : List Exec :=
 if Ee p ⟨frm, dn, ord, []⟩ then ((Ct p (A5 p)).map fun f => (⟨frm, dn, ord, f⟩ : Exec)).filter fun e => decide (Dm p e = 0) else []
def Mw (p : List Ev) (dn : List Bool) (ord : List (List Int)) : List Exec := (Mu p dn ord).flatMap (F5 p dn ord)
def J2 (p : List Ev) (dn : List Bool) : List Exec := (O6 p dn).flatMap (Mw p dn)
def Cf (p : List Ev) : List Exec := (Hn p).flatMap (J2 p)
theorem Mx {p : List Ev} : ∀ (n : Nat) (l m : List Int), l.length = n → m ∈ Bz p n l → m.Perm l
 | 0, l, m, hl, hm => by
  simp only [Bz, lAi] at hm
  rw [hm, lC6.1 hl]
 | n + 1, l, m, hl, hm => by
  simp only [Bz, lB4, lAl] at hm
  obtain ⟨i, hi, hm⟩ := hm
  split at hm
  ·exact absurd hm lB5
  ·obtain ⟨m', ll, rfl⟩ := lAk.1 hm
   have cZ : i < l.length := by omega
   have ih := Mx n (l.eraseIdx i) m' (by rw [lD8 cZ]; omega) ll
   have e : Ae l i = l[i] := by simp only [Ae, lA2 cZ, lAn]
   rw [e]
   refine (lCi _ ih).trans ?_
   have h1 : l.Perm (l[i] :: l.eraseIdx i) := by
    have h2 : l = l.take i ++ l[i] :: l.drop (i + 1) := by rw [List.getElem_cons_drop, lDx]
    rw [lCs]
    conv => lhs; rw [h2]
    exact lEq
   exact h1.symm
theorem E7 {p : List Ev} {l m : List Int} (h : m ∈ Ct p l) : m.Perm l := Mx _ l m rfl h
theorem Iy.perm {p : List Ev} {l m : List Int} (h : Iy p l) (hp : m.Perm l) : Iy p m := fun x hx => h x (hp.mem_iff.1 hx)
theorem O7 (p : List Ev) : Iy p (A5 p) := fun x hx => by
 obtain ⟨i, h1, _, rfl⟩ := B9.1 hx; omega
theorem Ka {p : List Ev} {dn : List Bool} : ∀ (k : Nat) (loc : Int) (x : List (List Int)), x ∈ Bt p dn k loc → ∀ j (h : j < x.length), x[j].Perm (Az p dn (loc + j))
 | 0, _, x, h => by simp [Bt] at h; subst h; intro j hj; simp at hj
 | k + 1, loc, x, h => by
  simp only [Bt, lB4, lAk] at h
  obtain ⟨l, hl, y, hy, rfl⟩ := h
  intro j hj
  cases j with
  | zero => simpa using E7 hl
  | succ j =>
   have := Ka k (loc + 1) y hy j (by simpa using hj)
   simpa [Int.add_assoc, Int.add_comm 1] using this
theorem ordersP_ok {p : List Ev} {dn : List Bool} {ord : List (List Int)} (hp : POk p) (ax : dn.length = p.length) (h : ord ∈ O6 p dn) : OrdsOk p dn ord ∧ ∀ l ∈ ord, Iy p l ∧ l.length ≤ p.length := by
 have hl := J9 3 0 ord h
 have hm := Ka 3 0 ord h
 have hall : ∀ l ∈ ord, Iy p l ∧ l.length ≤ p.length := by
  intro l mm
  obtain ⟨j, hj, rfl⟩ := lBf mm
  have := hm j hj
  exact ⟨(L2 p dn _).perm this, by rw [this.length_eq]; exact A8 _ _⟩
 refine ⟨⟨hl, fun l mm => (hall l mm).2, ?_⟩, hall⟩
 intro i hi hr hd
 have bg := hp.loc i hi
 have hj : (evAt p i).op.loc.toNat < ord.length := by omega
 rw [lA2 hj, lAn]
 have := hm _ hj
 rw [this.mem_iff, Az, B9]
 refine ⟨i, hi, ?_, rfl⟩
 have uR : (evAt p i).op.kind ≠ 5 := by
  simp only [Ev.reads, lA6, decide_eq_true_eq] at hr; exact hr.2
 simp only [lA6, decide_eq_true_eq]
 exact ⟨⟨uR, hd⟩, by omega⟩
theorem Ru {p : List Ev} {dn : List Bool} {ord : List (List Int)} : ∀ (k i : Nat) (x : List Int), x ∈ Ce p dn ord k i → x.length = k ∧ ∀ j (h : j < x.length), x[j] ∈ Bf p dn ord (i + j)
 | 0, _, x, h => by simp [Ce] at h; subst h; exact ⟨rfl, fun j hj => by simp at hj⟩
 | k + 1, i, x, h => by
  simp only [Ce, lB4, lAk] at h
  obtain ⟨w, hw, y, hy, rfl⟩ := h
  obtain ⟨h1, h2⟩ := Ru k (i + 1) y hy
  refine ⟨by simp [h1], fun j hj => ?_⟩
  cases j with
  | zero => simpa using hw
  | succ j =>
   have := h2 j (by simpa using hj)
   simpa [lDa, lE6 1] using this
theorem choices_ok {p : List Ev} {dn : List Bool} {ord : List (List Int)} (hin : ∀ l ∈ ord, Iy p l) {i : Nat} {w : Int} (h0 : 0 < p.length) (h : w ∈ Bf p dn ord i) : w < p.length ∧ ((evAt p i).reads = true → -1 ≤ w) := by
 have ce : ∀ y ∈ Iq p ord i, -1 ≤ y ∧ y < p.length := by
  intro y hy
  rcases lBp.1 hy with rfl | hy
  ·omega
  ·rcases hq : ord[(evAt p i).op.loc.toNat]? with _ | l
   ·rw [hq] at hy; exact absurd hy lB5
   ·rw [hq] at hy
    have := hin l (lCb hq) y hy
    omega
 unfold Bf at h
 split at h
 ·rename_i hr
  simp only [lAi] at h
  subst h
  exact ⟨by omega, fun h2 => by rw [hr] at h2; cases h2⟩
 ·split at h
  ·simp only [lAi] at h
   subst h
   have : -1 ≤ Hd (Iq p ord i) i ∧ Hd (Iq p ord i) i < p.length := by
    unfold Hd Ae
    rcases hq : (Iq p ord i)[(Iq p ord i).findIdx (fun y => decide ((i : Int) = y)) - 1]? with _ | y
    ·simp only [Option.getD_none]; omega
    ·simp only [lAn]; exact ce y (lCb hq)
   exact ⟨this.2, fun _ => this.1⟩
  ·exact ⟨(ce w h).2, fun _ => (ce w h).1⟩
theorem exec_ok {p : List Ev} {dn : List Bool} {ord : List (List Int)} {frm fen : List Int} (hp : POk p) (hd : dn ∈ Hn p) (ho : ord ∈ O6 p dn) (hf : frm ∈ Mu p dn ord) (hn : Iy p fen ∧ fen.length ≤ p.length) : XOk p ⟨frm, dn, ord, fen⟩ := by
 have ax : dn.length = p.length := by
  obtain ⟨set, _, rfl⟩ := lAk.1 hd; exact Fv p set
 obtain ⟨bU, au⟩ := ordersP_ok hp ax ho
 obtain ⟨jC, ga⟩ := Ru _ _ _ hf
 refine ⟨jC, ax, bU.len, ?_, au, hn⟩
 intro i hi
 have kz : i < frm.length := by rw [jC]; exact hi
 have := ga i kz
 rw [lBi] at this
 rw [show (⟨frm, dn, ord, fen⟩ : Exec).frm[i]?.getD 0 = frm[i] from by simp [kz]]
 exact choices_ok (fun l hl => (au l hl).1) (by omega) this
theorem L3 {p : List Ev} {f : List Int} (h : f ∈ Ct p (A5 p)) : Iy p f ∧ f.length ≤ p.length := by
 have := E7 h
 exact ⟨(O7 p).perm this, by rw [this.length_eq]; exact A8 _ _⟩
inductive TG (R : Nat → Nat → Prop) : Nat → Nat → Prop
 | one {a b : Nat} (h : R a b) : TG R a b
 | more {a b c : Nat} (h : R a b) (t : TG R b c) : TG R a c
namespace TG
theorem trans {R : Nat → Nat → Prop} {a b c : Nat} (h : TG R a b) (k : TG R b c) : TG R a c := by
 induction h with
 | one h => exact .more h k
 | more h _ ih => exact .more h (ih k)
theorem mono {R S : Nat → Nat → Prop} {a b : Nat} (h : TG R a b) (hk : ∀ a b, R a b → S a b) : TG S a b := by
 induction h with
 | one h => exact .one (hk _ _ h)
 | more h _ ih => exact .more (hk _ _ h) ih
theorem flat {R S : Nat → Nat → Prop} {a b : Nat} (h : TG R a b) (hk : ∀ a b, R a b → TG S a b) : TG S a b := by
 induction h with
 | one h => exact hk _ _ h
 | more h _ ih => exact (hk _ _ h).trans ih
theorem last {R : Nat → Nat → Prop} {a b : Nat} (h : TG R a b) : ∃ c, R c b ∧ (c = a ∨ TG R a c) := by
 induction h with
 | one h => exact ⟨_, h, .inl rfl⟩
 | more h _ ih =>
  obtain ⟨c, h1, h2⟩ := ih
  refine ⟨c, h1, .inr ?_⟩
  rcases h2 with rfl | h2
  ·exact .one h
  ·exact .more h h2
theorem first {R : Nat → Nat → Prop} {a b : Nat} (h : TG R a b) : ∃ c, R a c ∧ (c = b ∨ TG R c b) := by
 cases h with
 | one h => exact ⟨_, h, .inl rfl⟩
 | more h t => exact ⟨_, h, .inr t⟩
theorem iff {R S : Nat → Nat → Prop} (h1 : ∀ a b, R a b → TG S a b) (h2 : ∀ a b, S a b → TG R a b) {a b : Nat} : TG R a b ↔ TG S a b := ⟨fun h => h.flat h1, fun h => h.flat h2⟩
theorem congr {R S : Nat → Nat → Prop} (h : ∀ a b, R a b ↔ S a b) {a b : Nat} : TG R a b ↔ TG S a b := iff (fun a b k => .one ((h a b).1 k)) (fun a b k => .one ((h a b).2 k))
theorem map {R S : Nat → Nat → Prop} (f : Nat → Nat) {a b : Nat} (h : TG R a b) (hk : ∀ a b, R a b → S (f a) (f b)) : TG S (f a) (f b) := by
 induction h with
 | one h => exact .one (hk _ _ h)
 | more h _ ih => exact .more (hk _ _ h) ih
theorem of_trans {R : Nat → Nat → Prop} (ht : ∀ a b c, R a b → R b c → R a c) {a b : Nat} (h : TG R a b) : R a b := by
 induction h with
 | one h => exact h
 | more h _ ih => exact ht _ _ _ h ih
end TG
theorem K6 {r : Rel} {a b : Nat} (h : r.length ≤ a) : A6 r a b = false := by
 simp [A6, lD1 h]
theorem O8 {r : Rel} {a m x y : Nat} : A6 (orR r a m) x y = (A6 r x y || (decide (x = a ∧ a < r.length) && m.testBit y)) := by
 simp only [A6, orR, List.getElem?_set]
 by_cases h : a = x
 ·subst h
  by_cases h2 : a < r.length
  ·simp [h2, lD2]
  ·simp [h2, lD1 (Nat.le_of_not_lt h2)]
 ·have h' : ¬ x = a := fun e => h e.symm
  simp [h, h']
theorem Fo {r : Rel} {a b x y : Nat} : A6 (N0 r a b) x y = true ↔ A6 r x y = true ∨ (x = a ∧ a < r.length ∧ y = b) := by
 rw [N0, O8]
 simp only [lAr, lA6, decide_eq_true_eq, lCj]
 constructor
 ·rintro (h | ⟨⟨h1, h2⟩, h3⟩)
  ·exact .inl h
  ·exact .inr ⟨h1, h2, h3.symm⟩
 ·rintro (h | ⟨h1, h2, h3⟩)
  ·exact .inl h
  ·exact .inr ⟨⟨h1, h2⟩, h3.symm⟩
theorem O9 {n a b : Nat} : A6 (List.replicate n 0) a b = false := by
 simp only [A6, lBy]
 split <;> simp
theorem RelOk.has {n : Nat} {r : Rel} (h : RelOk n r) {a b : Nat} (k : A6 r a b = true) : a < n ∧ b < n := by
 constructor
 ·apply lBe; intro hn
  rw [K6 (by rw [h.len]; omega)] at k; cases k
 ·apply lBe; intro hn
  have := h.lt a
  have h2 : (r[a]?.getD 0).testBit b = false := lF2 (lAx this (lCg (by decide) (by omega)))
  rw [A6, h2] at k; cases k
theorem S3 {r : Rel} {a m : Nat} : (orR r a m).length = r.length := by simp [orR]
theorem Gn (r : Rel) (k : Nat) : ∀ a, (closeRow r k a).length = r.length
 | 0 => rfl
 | a + 1 => by
  simp only [closeRow]
  split
  ·rw [S3, Gn r k a]
  ·exact Gn r k a
theorem H6 (r : Rel) : ∀ k, (closeGo r k).length = r.length
 | 0 => rfl
 | k + 1 => by rw [closeGo, Gn, H6 r k]
theorem My (r : Rel) (k : Nat) : ∀ m, m ≤ r.length → ∀ a b, A6 (closeRow r k m) a b = (A6 r a b || (decide (a < m) && A6 r a k && A6 r k b))
 | 0, _, a, b => by simp [closeRow]
 | m + 1, hm, a, b => by
  have ih := My r k m (by omega)
  have hk : A6 (closeRow r k m) m k = A6 r m k := by
   rw [ih]; simp
  have cQ : ∀ y, ((closeRow r k m)[k]?.getD 0).testBit y = A6 r k y := by
   intro y
   have := ih k y
   rw [A6] at this
   rw [this]
   cases h1 : A6 r k y <;> cases h2 : A6 r k k <;> simp
  rw [closeRow, hk]
  by_cases h : A6 r m k = true
  ·rw [if_pos h, O8, ih, cQ, Gn]
   by_cases ha : a = m
   ·subst ha
    have : a < r.length := by omega
    simp [h, this]
   ·have : (decide (a < m + 1)) = decide (a < m) := by rw [decide_eq_decide]; omega
    simp [ha, this]
  ·have h' : A6 r m k = false := by simpa using h
   rw [if_neg h, ih]
   by_cases ha : a = m
   ·subst ha; simp [h']
   ·have : (decide (a < m + 1)) = decide (a < m) := by rw [decide_eq_decide]; omega
    rw [this]
theorem I2 {n : Nat} {r : Rel} (h : r.length = n) (k a b : Nat) : A6 (closeGo r (k + 1)) a b = (A6 (closeGo r k) a b || (A6 (closeGo r k) a k && A6 (closeGo r k) k b)) := by
 rw [closeGo, My _ _ _ (by rw [H6]; omega)]
 by_cases ha : a < r.length
 ·simp [ha]
 ·rw [K6 (a := a) (b := b) (by rw [H6]; omega), K6 (a := a) (b := k) (by rw [H6]; omega)]
  simp
theorem Ds {n : Nat} {r : Rel} (h : RelOk n r) {a b : Nat} : A6 (Ca r) a b = true ↔ TG (fun x y => A6 r x y = true) a b := by
 have up : ∀ k a b, A6 r a b = true → A6 (closeGo r k) a b = true := by
  intro k
  induction k with
  | zero => intro a b h; exact h
  | succ k ih => intro a b gb; rw [I2 h.len, ih a b gb]; simp
 have dn : ∀ k a b, A6 (closeGo r k) a b = true → TG (fun x y => A6 r x y = true) a b := by
  intro k
  induction k with
  | zero => intro a b h; exact .one h
  | succ k ih =>
   intro a b gb
   rw [I2 h.len] at gb
   simp only [lAr, lA6] at gb
   rcases gb with gb | ⟨h1, h2⟩
   ·exact ih a b gb
   ·exact (ih a k h1).trans (ih k b h2)
 have tr : ∀ k a c b, c < k → A6 (closeGo r k) a c = true → A6 (closeGo r k) c b = true → A6 (closeGo r k) a b = true := by
  intro k
  induction k with
  | zero => intro a c b hc; omega
  | succ k ih =>
   intro a c b hc h1 h2
   rw [I2 h.len] at h1 h2 ⊢
   simp only [lAr, lA6] at h1 h2 ⊢
   by_cases aK : c = k
   ·subst aK
    right
    refine ⟨?_, ?_⟩
    ·rcases h1 with h1 | ⟨h1, _⟩ <;> exact h1
    ·rcases h2 with h2 | ⟨_, h2⟩ <;> exact h2
   ·have cJ : c < k := by omega
    rcases h1 with h1 | ⟨h1, dZ⟩ <;> rcases h2 with h2 | ⟨h2, iJ⟩
    ·exact .inl (ih a c b cJ h1 h2)
    ·exact .inr ⟨ih a c k cJ h1 h2, iJ⟩
    ·exact .inr ⟨h1, ih k c b cJ dZ h2⟩
    ·exact .inr ⟨h1, iJ⟩
 refine ⟨dn _ a b, fun ht => ?_⟩
 have o7 : TG (fun x y => A6 (Ca r) x y = true) a b := ht.mono fun a b => up _ a b
 refine o7.of_trans (R := fun x y => A6 (Ca r) x y = true) (fun a c b h1 h2 => ?_)
 have ai : RelOk n (Ca r) := h.close
 exact tr _ a c b (by rw [h.len]; exact (ai.has h1).2) h1 h2
theorem C1 {r : Rel} : Be r = true ↔ ∃ a, A6 r a a = true := by
 unfold Be
 rw [lBx]
 constructor
 ·rintro ⟨a, _, h⟩; exact ⟨a, h⟩
 ·rintro ⟨a, h⟩
  refine ⟨a, ?_, h⟩
  rw [lAl]
  apply lBe; intro hn
  rw [K6 (by omega)] at h; cases h
theorem E1 {r : Rel} {a b : Nat} : (N0 r a b).length = r.length := S3
theorem Ho (p : List Ev) : ∀ i, (Dr p i).length = p.length
 | 0 => by simp [Dr]
 | i + 1 => by
  simp only [Dr]
  split
  ·rw [E1, Ho p i]
  ·exact Ho p i
theorem L4 (r : Rel) (fen : List Int) : ∀ k, (Ij r fen k).length = r.length
 | 0 => rfl
 | k + 1 => by rw [Ij, E1, L4 r fen k]
theorem Rv (p : List Ev) (a b : Nat) : ∀ i, i ≤ p.length - 1 → (A6 (Dr p i) a b = true ↔ a < i ∧ b = a + 1 ∧ (evAt p b).th = (evAt p a).th)
 | 0, _ => by simp [Dr, O9]
 | i + 1, hi => by
  have ih := Rv p a b i (by omega)
  simp only [Dr]
  split
  ·rename_i h
   rw [Fo, ih, Ho]
   constructor
   ·rintro (⟨h1, h2, h3⟩ | ⟨rfl, h1, rfl⟩)
    ·exact ⟨by omega, h2, h3⟩
    ·exact ⟨by omega, rfl, h⟩
   ·rintro ⟨h1, h2, h3⟩
    by_cases ha : a = i
    ·subst ha; exact .inr ⟨rfl, by omega, h2⟩
    ·exact .inl ⟨by omega, h2, h3⟩
  ·rename_i h
   rw [ih]
   constructor
   ·rintro ⟨h1, h2, h3⟩; exact ⟨by omega, h2, h3⟩
   ·rintro ⟨h1, h2, h3⟩
    by_cases ha : a = i
    ·subst ha; subst h2; exact absurd h3 h
    ·exact ⟨by omega, h2, h3⟩
theorem Rw {r : Rel} {fen : List Int} {a b : Nat} (hin : ∀ k, k < fen.length → 0 ≤ Ae fen k ∧ Ae fen k < r.length) : ∀ k, k ≤ fen.length - 1 →
  (A6 (Ij r fen k) a b = true ↔ A6 r a b = true ∨ ∃ j, j < k ∧ Ae fen j = a ∧ Ae fen (j + 1) = b)
 | 0, _ => by simp [Ij]
 | k + 1, hk => by
  have ih := Rw (r := r) (a := a) (b := b) hin k (by omega)
  have h1 := hin k (by omega)
  have h2 := hin (k + 1) (by omega)
  simp only [Ae] at h1 h2 ih ⊢
  rw [Ij, Fo, ih, L4]
  constructor
  ·rintro ((h | ⟨j, q1, q2, q3⟩) | ⟨q1, q2, q3⟩)
   ·exact .inl h
   ·exact .inr ⟨j, by omega, q2, q3⟩
   ·exact .inr ⟨k, by omega, by omega, by omega⟩
  ·rintro (h | ⟨j, q1, q2, q3⟩)
   ·exact .inl (.inl h)
   ·by_cases hj : j = k
    ·subst hj; exact .inr ⟨by omega, by omega, by omega⟩
    ·exact .inl (.inr ⟨j, by omega, q2, q3⟩)
def Sb1 (p : List Ev) (a b : Nat) : Prop := b = a + 1 ∧ b < p.length ∧ (evAt p b).th = (evAt p a).th
def Fo1 (fen : List Int) (a b : Nat) : Prop := ∃ j, j + 1 < fen.length ∧ Ae fen j = a ∧ Ae fen (j + 1) = b
def Rf (e : Exec) (n a b : Nat) : Prop := b < n ∧ Af e b = a
theorem Iy.num {p : List Ev} {l : List Int} (h : Iy p l) {k : Nat} (hk : k < l.length) : 0 ≤ Ae l k ∧ Ae l k < p.length := h.at hk
theorem Rx {p : List Ev} {fen : List Int} (hf : Iy p fen) {a b : Nat} : A6 (Ix p fen) a b = true ↔ Sb1 p a b ∨ Fo1 fen a b := by
 have hl : (Dr p (p.length - 1)).length = p.length := Ho _ _
 rw [Ix, Rw (fun k hk => by rw [hl]; exact hf.num hk) _ (lA5 _), Rv _ _ _ _ (lA5 _)]
 unfold Sb1 Fo1
 constructor
 ·rintro (⟨h1, h2, h3⟩ | ⟨j, h1, h2, h3⟩)
  ·exact .inl ⟨h2, by omega, h3⟩
  ·exact .inr ⟨j, by omega, h2, h3⟩
 ·rintro (⟨h1, h2, h3⟩ | ⟨j, h1, h2, h3⟩)
  ·exact .inl ⟨by omega, h1, h3⟩
  ·exact .inr ⟨j, by omega, h2, h3⟩
theorem Kb {q : Rel} {e : Exec} : ∀ r, (Ec q e r).length = q.length
 | 0 => rfl
 | r + 1 => by
  simp only [Ec]
  split
  ·rw [E1, Kb r]
  ·exact Kb r
theorem Pa {q : Rel} {e : Exec} {a b : Nat} (bW : ∀ i : Nat, i < q.length → Af e i < q.length) : ∀ r, r ≤ q.length → (A6 (Ec q e r) a b = true ↔ A6 q a b = true ∨ Rf e r a b)
 | 0, _ => by simp [Ec, Rf]
 | r + 1, hr => by
  have ih := Pa (a := a) (b := b) bW r (by omega)
  have := bW r (by omega)
  unfold Rf at ih ⊢
  simp only [Ec]
  split
  ·rename_i h0
   rw [Fo, ih, Kb]
   constructor
   ·rintro ((h | ⟨h1, h2⟩) | ⟨h1, h2, rfl⟩)
    ·exact .inl h
    ·exact .inr ⟨by omega, h2⟩
    ·exact .inr ⟨by omega, by omega⟩
   ·rintro (h | ⟨h1, h2⟩)
    ·exact .inl (.inl h)
    ·by_cases hb : b = r
     ·subst hb; exact .inr ⟨by omega, by omega, rfl⟩
     ·exact .inl (.inr ⟨by omega, h2⟩)
  ·rename_i h0
   rw [ih]
   constructor
   ·rintro (h | ⟨h1, h2⟩)
    ·exact .inl h
    ·exact .inr ⟨by omega, h2⟩
   ·rintro (h | ⟨h1, h2⟩)
    ·exact .inl h
    ·by_cases hb : b = r
     ·subst hb; omega
     ·exact .inr ⟨by omega, h2⟩
theorem Ry {p : List Ev} {e : Exec} (hx : XOk p e) : Be (Un p e) = true ↔ ∃ a, TG (fun a b => Sb1 p a b ∨ Fo1 e.fen a b ∨ Rf e p.length a b) a a := by
 have aa : (Ix p e.fen).length = p.length := (stepsP_ok hx.fin.1).len
 have ai := roundGo_ok (stepsP_ok hx.fin.1) hx _ (lA5 _)
 rw [C1]
 refine exists_congr fun a => ?_
 rw [Un, Ds ai]
 refine TG.congr fun x y => ?_
 rw [Pa (fun i hi => by rw [aa] at hi ⊢; exact (hx.fr i hi).1) _ (by rw [aa]; exact lA5 _), Rx hx.fin.1, or_assoc]
theorem Mz (p : List Ev) (w c : Nat) : ∀ (a s : Nat), (Fl p w a s).testBit c = true ↔ s.testBit c = true ∨ (c < a ∧ (∀ x, c ≤ x → x < a → (evAt p x).th = (evAt p w).th) ∧ (evAt p c).op.kind = 5 ∧ (evAt p c).rel = true)
 | 0, s => by simp [Fl]
 | a + 1, s => by
  simp only [Fl]
  split
  ·rename_i cr
   rw [Mz p w c a]
   have hs : (if (evAt p a).op.kind = 5 ∧ (evAt p a).rel = true then s ||| 2 ^ a else s).testBit c = true ↔ s.testBit c = true ∨ (c = a ∧ (evAt p c).op.kind = 5 ∧ (evAt p c).rel = true) := by
    split
    ·rename_i h
     simp only [lD2, lAr, lCj, decide_eq_true_eq]
     constructor
     ·rintro (h1 | rfl)
      ·exact .inl h1
      ·exact .inr ⟨rfl, h⟩
     ·rintro (h1 | ⟨rfl, _⟩)
      ·exact .inl h1
      ·exact .inr rfl
    ·rename_i h
     constructor
     ·exact .inl
     ·rintro (h1 | ⟨rfl, h2⟩)
      ·exact h1
      ·exact absurd h2 h
   rw [hs]
   constructor
   ·rintro ((h | ⟨rfl, h⟩) | ⟨h1, h2, h3⟩)
    ·exact .inl h
    ·exact .inr ⟨by omega, fun x q1 q2 => by rw [show x = c by omega]; exact cr, h⟩
    ·refine .inr ⟨by omega, fun x q1 q2 => ?_, h3⟩
     by_cases hx : x = a
     ·rw [hx]; exact cr
     ·exact h2 x q1 (by omega)
   ·rintro (h | ⟨h1, h2, h3⟩)
    ·exact .inl (.inl h)
    ·by_cases hc : c = a
     ·exact .inl (.inr ⟨hc, h3⟩)
     ·exact .inr ⟨by omega, fun x q1 q2 => h2 x q1 (by omega), h3⟩
  ·rename_i cr
   constructor
   ·exact .inl
   ·rintro (h | ⟨h1, h2, h3⟩)
    ·exact h
    ·exact absurd (h2 a (by omega) (by omega)) cr
def L5 (p : List Ev) : Prop := ∀ a b, a ≤ b → b < p.length → (evAt p a).th ≤ (evAt p b).th
theorem L5.between {p : List Ev} (h : L5 p) {a b x : Nat} (hb : b < p.length) (h1 : a ≤ x) (h2 : x ≤ b) (he : (evAt p a).th = (evAt p b).th) : (evAt p x).th = (evAt p b).th := by
 have q1 := h a x h1 (by omega)
 have q2 := h x b h2 hb
 omega
def Up (p : List Ev) (w c : Nat) : Prop := (evAt p c).rel = true ∧ (c = w ∨ (c < w ∧ (evAt p c).th = (evAt p w).th ∧ (evAt p c).op.kind = 5))
def An0 (p : List Ev) (r c : Nat) : Prop := (evAt p c).acq = true ∧ (c = r ∨ (r < c ∧ c < p.length ∧ (evAt p c).th = (evAt p r).th ∧ (evAt p c).op.kind = 5))
theorem Pb {p : List Ev} (hm : L5 p) {w c : Nat} (hw : w < p.length) : (F0 p w).testBit c = true ↔ Up p w c := by
 rw [F0, Mz]
 unfold Up
 constructor
 ·rintro (h | ⟨h1, h2, h3, h4⟩)
  ·split at h
   ·rename_i hr
    rw [lCj, decide_eq_true_eq] at h
    subst h; exact ⟨hr, .inl rfl⟩
   ·simp at h
  ·exact ⟨h4, .inr ⟨h1, h2 c (lA5 _) h1, h3⟩⟩
 ·rintro ⟨h1, rfl | ⟨h2, h3, h4⟩⟩
  ·left; rw [if_pos h1]; simp
  ·right
   exact ⟨h2, fun x q1 q2 => hm.between hw q1 (by omega) h3, h4, h1⟩
theorem Rz (p : List Ev) (r c : Nat) : ∀ (f b s : Nat), (K2 p r f b s).testBit c = true ↔ s.testBit c = true ∨ (b ≤ c ∧ c < b + f ∧ (∀ x, b ≤ x → x ≤ c → (evAt p x).th = (evAt p r).th) ∧ (evAt p c).op.kind = 5 ∧ (evAt p c).acq = true)
 | 0, b, s => by
  simp only [K2]
  constructor
  ·exact .inl
  ·rintro (h | ⟨h1, h2, _⟩)
   ·exact h
   ·omega
 | f + 1, b, s => by
  simp only [K2]
  split
  ·rename_i cr
   rw [Rz p r c f]
   have hs : (if (evAt p b).op.kind = 5 ∧ (evAt p b).acq = true then s ||| 2 ^ b else s).testBit c = true ↔ s.testBit c = true ∨ (c = b ∧ (evAt p c).op.kind = 5 ∧ (evAt p c).acq = true) := by
    split
    ·rename_i h
     simp only [lD2, lAr, lCj, decide_eq_true_eq]
     constructor
     ·rintro (h1 | rfl)
      ·exact .inl h1
      ·exact .inr ⟨rfl, h⟩
     ·rintro (h1 | ⟨rfl, _⟩)
      ·exact .inl h1
      ·exact .inr rfl
    ·rename_i h
     constructor
     ·exact .inl
     ·rintro (h1 | ⟨rfl, h2⟩)
      ·exact h1
      ·exact absurd h2 h
   rw [hs]
   constructor
   ·rintro ((h | ⟨rfl, h⟩) | ⟨h1, h2, h3, h4⟩)
    ·exact .inl h
    ·exact .inr ⟨by omega, by omega, fun x q1 q2 => by rw [show x = c by omega]; exact cr, h⟩
    ·refine .inr ⟨by omega, by omega, fun x q1 q2 => ?_, h4⟩
     by_cases hx : x = b
     ·rw [hx]; exact cr
     ·exact h3 x (by omega) q2
   ·rintro (h | ⟨h1, h2, h3, h4⟩)
    ·exact .inl (.inl h)
    ·by_cases hc : c = b
     ·exact .inl (.inr ⟨hc, h4⟩)
     ·exact .inr ⟨by omega, by omega, fun x q1 q2 => h3 x (by omega) q2, h4⟩
  ·rename_i cr
   constructor
   ·exact .inl
   ·rintro (h | ⟨h1, h2, h3, h4⟩)
    ·exact h
    ·exact absurd (h3 b (by omega) h1) cr
theorem Ai4 {p : List Ev} (hm : L5 p) {r c : Nat} (hr : r < p.length) : (J8 p r).testBit c = true ↔ An0 p r c := by
 rw [J8, Rz]
 unfold An0
 constructor
 ·rintro (h | ⟨h1, h2, h3, h4, h5⟩)
  ·split at h
   ·rename_i hr
    rw [lCj, decide_eq_true_eq] at h
    subst h; exact ⟨hr, .inl rfl⟩
   ·simp at h
  ·exact ⟨h5, .inr ⟨by omega, by omega, h3 c h1 (lA5 _), h4⟩⟩
 ·rintro ⟨h1, rfl | ⟨h2, h3, h4, h5⟩⟩
  ·left; rw [if_pos h1]; simp
  ·right
   refine ⟨by omega, by omega, fun x q1 q2 => ?_, h5, h1⟩
   have := hm.between (a := r) (b := c) (x := x) h3 (by omega) q2 h4.symm
   rw [this, h4]
end Go.EV
