/- The machine of views and the reference's machine go alike. The machine of views and the reference's machine go alike: steps, and what is told. Both machines tell the same. The reference: a new machine. Both machines go alike: how they begin. A step's doing. A step. The reference: a step. A new machine. A thread sees what it stored itself. What a thread has seen never falls. A machine does and tells at each moment what the document's machine does. Programs and turns that come in. The program's types, as data is read. -/
import Derived.Test.YtlcpcmdgpchgbaaVPae
import Derived.Test.YtlcpcmdgpchgbaaVPad
import Derived.Test.YtlcpcmdgpchgbaaRows
set_option maxRecDepth 8000
set_option linter.unusedSimpArgs false
set_option linter.unusedVariables false
namespace Go.EV

/-- Two views that point to the same places; what they name is older than the numbers told. -/
structure VV (la lb : Nat → List Int) (n k : Int) (a b : Vw) : Prop where
  eq : ∀ l, l < 3 → place la l (a l) = place lb l (b l)
  fa : ∀ l, l < 3 → a l < n
  fb : ∀ l, l < 3 → b l < k

theorem place_joinR {line : Nat → List Int} {l : Nat} (hle : ∀ n ∈ line l, 0 ≤ n) (x y : Vw) : place line l (joinR line x y l) = max (place line l (x l)) (place line l (y l)) := by
  unfold joinR
  split
  · rename_i h
    rcases h with h2 | h2
    · rw [place_neg hle h2]; omega
    · omega
  · rename_i h
    by_cases hy : 0 ≤ y l
    · have : ¬ place line l (x l) < place line l (y l) := fun h2 => h (.inr ⟨hy, h2⟩)
      omega
    · rw [place_neg hle (n := y l) (by omega)]; omega

theorem VV.mono {la lb : Nat → List Int} {n k n' k' : Int} {a b : Vw} (h : VV la lb n k a b) (hn : n ≤ n') (hk : k ≤ k') : VV la lb n' k' a b :=
  ⟨h.eq, fun l hl => Int.lt_of_lt_of_le (h.fa l hl) hn, fun l hl => Int.lt_of_lt_of_le (h.fb l hl) hk⟩

/-- Lines of numbers. -/
structure Lns (la : Nat → List Int) (n : Int) : Prop where
  nd : ∀ l, l < 3 → (la l).Nodup
  in_ : ∀ l, l < 3 → ∀ x ∈ la l, 0 ≤ x ∧ x < n

section
variable {la lb : Nat → List Int} {n k : Int} {a b c d : Vw}

theorem VV.join (ha : Lns la n) (hb : Lns lb k) (h : VV la lb n k a b) (h' : VV la lb n k c d) : VV la lb n k (joinV la a c) (joinR lb b d) := by
  refine ⟨fun l hl => ?_, fun l hl => ?_, fun l hl => ?_⟩
  · rw [place_join (fun x hx => (ha.in_ l hl x hx).1), place_joinR (fun x hx => (hb.in_ l hl x hx).1), h.eq l hl, h'.eq l hl]
  · unfold joinV; split
    · exact h'.fa l hl
    · exact h.fa l hl
  · unfold joinR; split
    · exact h'.fb l hl
    · exact h.fb l hl

theorem joinV_lt {x y : Vw} {l : Nat} (h1 : x l < n) (h2 : y l < n) : joinV la x y l < n := by
  unfold joinV; split <;> assumption

theorem VV.left (h : VV la lb n k a b) (he : ∀ l, l < 3 → place la l (c l) = place la l (a l)) (hf : ∀ l, l < 3 → c l < n) : VV la lb n k c b :=
  ⟨fun l hl => (he l hl).trans (h.eq l hl), hf, h.fb⟩

theorem place_noV (la : Nat → List Int) (l : Nat) (h : ∀ x ∈ la l, 0 ≤ x) : place la l (noV l) = 0 := place_neg h (by simp [noV])

theorem VV.no (ha : Lns la n) (hb : Lns lb k) (hn : 0 ≤ n) (hk : 0 ≤ k) : VV la lb n k noV noV :=
  ⟨fun l hl => by rw [place_noV la l fun x hx => (ha.in_ l hl x hx).1, place_noV lb l fun x hx => (hb.in_ l hl x hx).1], fun l _ => by simp only [noV]; omega, fun l _ => by simp only [noV]; omega⟩

theorem VV.own (ha : Lns la n) (hb : Lns lb k) {l i : Nat} (hl : l < 3) (hi : i < (la l).length) (hi' : i < (lb l).length) : VV la lb n k (upd noV l (la l)[i]!) (upd noV l (lb l)[i]!) := by
  have ma := ha.in_ l hl (la l)[i]! (by rw [getB hi]; exact List.getElem_mem _)
  have mb := hb.in_ l hl (lb l)[i]! (by rw [getB hi']; exact List.getElem_mem _)
  refine ⟨fun j hj => ?_, fun j hj => ?_, fun j hj => ?_⟩
  · simp only [upd]
    by_cases e : j = l
    · subst e; simp only [if_true]; rw [place_at (ha.nd j hj) hi, place_at (hb.nd j hj) hi']
    · simp only [if_neg e]; rw [place_noV la j fun x hx => (ha.in_ j hj x hx).1, place_noV lb j fun x hx => (hb.in_ j hj x hx).1]
  · simp only [upd]; split
    · exact ma.2
    · simp only [noV]; omega
  · simp only [upd]; split
    · exact mb.2
    · simp only [noV]; omega

theorem place_shift {line : Nat → List Int} {l0 p : Nat} {x : Int} (hp : 0 < p) (hpl : p ≤ (line l0).length) {y : Int} (hy : y ≠ x) (l : Nat) :
    place (upd line l0 (insP (line l0) p x)) l y = if l = l0 ∧ p ≤ place line l y then place line l y + 1 else place line l y := by
  by_cases h : l = l0
  · subst h
    have hu : upd line l (insP (line l) p x) l = (line l).take p ++ x :: (line l).drop p := by simp only [upd, if_true, insP]
    simp only [place, hu, true_and]
    have hm : y ∈ (line l).take p ++ x :: (line l).drop p ↔ y ∈ line l := by rw [ins_mem]; simp [hy]
    by_cases hl : y ∈ line l
    · simp only [if_pos hl, if_pos (hm.2 hl)]
      have h2 : (line l).idxOf y = if y ∈ (line l).take p then ((line l).take p).idxOf y else ((line l).drop p).idxOf y + ((line l).take p).length := by
        rw [← List.idxOf_append, List.take_append_drop]
      have hlen : ((line l).take p).length = p := by simp; omega
      rw [List.idxOf_append, h2]
      by_cases ht : y ∈ (line l).take p
      · simp only [if_pos ht]
        have := List.idxOf_lt_length_of_mem ht
        rw [if_neg (by omega)]
      · simp only [if_neg ht]
        rw [if_pos (by omega), List.idxOf_cons, show (x == y) = false from beq_eq_false_iff_ne.2 (fun e => hy e.symm)]
        simp only [cond_false]; omega
    · simp only [if_neg hl, if_neg (fun h => hl (hm.1 h))]
      rw [if_neg (by omega)]
  · have hu : upd line l0 (insP (line l0) p x) l = line l := by simp only [upd, if_neg h]
    simp only [place, hu, h, false_and, if_false]

theorem VV.shift (h : VV la lb n k a b) {l0 p : Nat} (hp : 0 < p) (ha : p ≤ (la l0).length) (hb : p ≤ (lb l0).length) : VV (upd la l0 (insP (la l0) p n)) (upd lb l0 (insP (lb l0) p k)) (n + 1) (k + 1) a b := by
  refine ⟨fun l hl => ?_, fun l hl => by have := h.fa l hl; omega, fun l hl => by have := h.fb l hl; omega⟩
  rw [place_shift hp ha (by have := h.fa l hl; omega), place_shift hp hb (by have := h.fb l hl; omega), h.eq l hl]

theorem insP_get {α : Type} [Inhabited α] (xs : List α) {p : Nat} (hp : p ≤ xs.length) (x : α) (i : Nat) : (insP xs p x)[i]! = if i < p then xs[i]! else if i = p then x else xs[i - 1]! := by
  have hlen : (xs.take p).length = p := by simp; omega
  unfold insP
  by_cases h1 : i < p
  · rw [if_pos h1, getB (by simp; omega), List.getElem_append_left (by omega), getB (by omega)]; simp
  · rw [if_neg h1]
    by_cases h2 : i = p
    · subst h2
      rw [if_pos rfl, getB (by simp; omega), List.getElem_append_right (by omega)]
      simp [hlen]
    · rw [if_neg h2]
      by_cases h3 : i - 1 < xs.length
      · rw [getB (by simp; omega), List.getElem_append_right (by omega), getB h3]
        obtain ⟨q, rfl⟩ : ∃ q, i = p + 1 + q := ⟨i - p - 1, by omega⟩
        simp only [hlen, show p + 1 + q - p = q + 1 by omega, List.getElem_cons_succ, List.getElem_drop, show p + 1 + q - 1 = p + q by omega]
      · rw [getElem!_neg xs (i - 1) h3, getElem!_neg _ _ (by simp; omega)]

theorem Lns.ins (h : Lns la n) (hn : 0 ≤ n) {l0 p : Nat} : Lns (upd la l0 (insP (la l0) p n)) (n + 1) := by
  refine ⟨fun l hl => ?_, fun l hl x hx => ?_⟩
  · simp only [upd]; split
    · rename_i e; subst e
      exact ins_nodup (h.nd l hl) (fun hx => by have := h.in_ l hl n hx; omega)
    · exact h.nd l hl
  · simp only [upd] at hx; split at hx
    · rename_i e; subst e
      rcases ins_mem.1 hx with rfl | hx
      · omega
      · have := h.in_ l hl x hx; omega
    · have := h.in_ l hl x hx; omega

end

structure TEq (la lb : Nat → List Int) (n k : Int) (a : Thr) (b : RThr) : Prop where
  at_ : b.at_ = a.next
  read : b.read = a.read
  now : VV la lb n k a.now b.now
  gained : VV la lb n k a.gained b.gained
  given : VV la lb n k a.given b.given
  g1 : ∀ l, l < 3 → place la l (a.given l) ≤ place la l (a.now l)
  g2 : ∀ l, l < 3 → place la l (a.now l) ≤ place la l (a.gained l)
structure MEq (la lb : Nat → List Int) (n k : Int) (a : Msg) (b : RMsg) : Prop where
  word : b.word = a.word
  tied : b.tied = a.tied
  view : VV la lb n k a.view b.view

structure Sim (m : VM) (r : RM) : Prop where
  prog : r.prog = m.prog
  tl : r.thr.length = m.thr.length
  th : ∀ i, i < m.thr.length → TEq m.line r.ids m.msgs.length r.next m.thr[i]! r.thr[i]!
  ll : ∀ l, l < 3 → (r.lists l).length = (m.line l).length
  ms : ∀ l, l < 3 → ∀ i, i < (m.line l).length → MEq m.line r.ids m.msgs.length r.next (m.msgAt l i) (r.lists l)[i]!
  la : Lns m.line m.msgs.length
  lb : Lns r.ids r.next
  nx : 0 ≤ r.next
  ne : r.next = m.msgs.length
  all : VV m.line r.ids m.msgs.length r.next m.all r.all

theorem RM.ids_len (r : RM) (l : Nat) : (r.ids l).length = (r.lists l).length := by simp [RM.ids]
theorem RM.ids_at (r : RM) {l i : Nat} (h : i < (r.lists l).length) : (r.ids l)[i]! = (r.lists l)[i]!.id := by
  simp only [RM.ids]; rw [map_at _ h]

section
variable {m : VM} {r : RM} {w B : Nat}

theorem Sim.set (s : Sim m r) (hw : w < m.thr.length) {t' : Thr} {t'' : RThr} (h : TEq m.line r.ids m.msgs.length r.next t' t'') {a' b' : Vw} (ha : VV m.line r.ids m.msgs.length r.next a' b') :
    Sim { m with thr := m.thr.set w t', all := a' } { r with thr := r.thr.set w t'', all := b' } := by
  refine ⟨s.prog, by simpa using s.tl, fun i hi => ?_, s.ll, s.ms, s.la, s.lb, s.nx, s.ne, ha⟩
  have hi' : i < m.thr.length := by simpa using hi
  dsimp only
  rw [set_get _ _ _ _ hw, set_get _ _ _ _ (by rw [s.tl]; exact hw)]
  by_cases e : i = w
  · rw [if_pos e, if_pos e]; exact h
  · rw [if_neg e, if_neg e]; exact s.th i hi'

theorem Sim.nexts (s : Sim m r) (hw : w < m.thr.length) : Sim (m.nexts w) (r.nexts w) := by
  have h := s.th w hw
  unfold VM.nexts RM.nexts VM.setThr RM.setT
  exact s.set hw (t' := { m.thr[w]! with next := m.thr[w]!.next + 1 }) (t'' := { r.thr[w]! with at_ := r.thr[w]!.at_ + 1 }) ⟨by dsimp only; rw [h.at_], h.read, h.now, h.gained, h.given, h.g1, h.g2⟩ s.all

theorem Sim.fence (s : Sim m r) (hw : w < m.thr.length) (o : OpV) : Sim (m.fenced w o) (r.fence w o.ord) := by
  have h := s.th w hw
  have ha := s.la
  have hb := s.lb
  have k1 : VV m.line r.ids m.msgs.length r.next (if acqP o.ord then joinV m.line m.thr[w]!.now m.thr[w]!.gained else m.thr[w]!.now) (if acqP o.ord then joinR r.ids r.thr[w]!.now r.thr[w]!.gained else r.thr[w]!.now) := by
    split
    · exact h.now.join ha hb h.gained
    · exact h.now
  have k2 : VV m.line r.ids m.msgs.length r.next (if o.ord = 4 then joinV m.line (if acqP o.ord then joinV m.line m.thr[w]!.now m.thr[w]!.gained else m.thr[w]!.now) m.all else (if acqP o.ord then joinV m.line m.thr[w]!.now m.thr[w]!.gained else m.thr[w]!.now))
      (if o.ord = 4 then joinR r.ids (if acqP o.ord then joinR r.ids r.thr[w]!.now r.thr[w]!.gained else r.thr[w]!.now) r.all else (if acqP o.ord then joinR r.ids r.thr[w]!.now r.thr[w]!.gained else r.thr[w]!.now)) := by
    split
    · exact k1.join ha hb s.all
    · exact k1
  have hp : ∀ l, l < 3 → ∀ x y, place m.line l (joinV m.line x y l) = max (place m.line l (x l)) (place m.line l (y l)) := fun l hl x y => place_join (fun x hx => (ha.in_ l hl x hx).1) x y
  have g0 : ∀ l, l < 3 → place m.line l (m.thr[w]!.now l) ≤ place m.line l ((if o.ord = 4 then joinV m.line (if acqP o.ord then joinV m.line m.thr[w]!.now m.thr[w]!.gained else m.thr[w]!.now) m.all else (if acqP o.ord then joinV m.line m.thr[w]!.now m.thr[w]!.gained else m.thr[w]!.now)) l) := fun l hl => by
    split <;> split <;> (try simp only [hp l hl]) <;> omega
  have g4 : o.ord ≠ 4 → ∀ l, l < 3 → place m.line l ((if o.ord = 4 then joinV m.line (if acqP o.ord then joinV m.line m.thr[w]!.now m.thr[w]!.gained else m.thr[w]!.now) m.all else (if acqP o.ord then joinV m.line m.thr[w]!.now m.thr[w]!.gained else m.thr[w]!.now)) l) ≤ place m.line l (m.thr[w]!.gained l) := fun h4 l hl => by
    have q := h.g2 l hl
    rw [if_neg h4]
    split
    · rw [hp l hl]; omega
    · exact q
  have key : ∀ n2 n2' : Vw, VV m.line r.ids m.msgs.length r.next n2 n2' → (∀ l, l < 3 → place m.line l (m.thr[w]!.now l) ≤ place m.line l (n2 l)) → (o.ord ≠ 4 → ∀ l, l < 3 → place m.line l (n2 l) ≤ place m.line l (m.thr[w]!.gained l)) →
      TEq m.line r.ids m.msgs.length r.next ⟨n2, (if o.ord = 4 then joinV m.line m.thr[w]!.gained n2 else m.thr[w]!.gained), (if relP o.ord then n2 else m.thr[w]!.given), m.thr[w]!.read, m.thr[w]!.next⟩
        ⟨r.thr[w]!.at_, r.thr[w]!.read, n2', joinR r.ids r.thr[w]!.gained n2', if relP o.ord then n2' else r.thr[w]!.given⟩ := fun n2 n2' k2 g0 g4 => by
    have kg : VV m.line r.ids m.msgs.length r.next (if o.ord = 4 then joinV m.line m.thr[w]!.gained n2 else m.thr[w]!.gained) (joinR r.ids r.thr[w]!.gained n2') := by
      split
      · exact h.gained.join ha hb k2
      · rename_i h4
        refine (h.gained.join ha hb k2).left (fun l hl => ?_) h.gained.fa
        have := g4 h4 l hl
        rw [hp l hl]; omega
    refine ⟨h.at_, h.read, k2, kg, ?_, fun l hl => ?_, fun l hl => ?_⟩
    · dsimp only
      split
      · exact k2
      · exact h.given
    · have q := h.g1 l hl
      have q0 := g0 l hl
      dsimp only
      split
      · exact Nat.le_refl _
      · omega
    · dsimp only
      by_cases h4 : o.ord = 4
      · rw [if_pos h4, hp l hl]; exact Nat.le_max_right _ _
      · rw [if_neg h4]; exact g4 h4 l hl
  have ka : ∀ n2 n2' : Vw, VV m.line r.ids m.msgs.length r.next n2 n2' → VV m.line r.ids m.msgs.length r.next (if o.ord = 4 then n2 else m.all) (if o.ord = 4 then n2' else r.all) := fun n2 n2' h => by
    split
    · exact h
    · exact s.all
  unfold VM.fenced RM.fence fenceThr
  dsimp only
  exact s.set hw (key _ _ k2 g0 g4) (ka _ _ k2)

theorem Sim.reads (s : Sim m r) (iv : m.Own) (hw : w < m.thr.length) (o : OpV) (hl : o.loc.toNat < 3) {i : Nat} (hi : i < (m.line o.loc.toNat).length) (hlo : place m.line o.loc.toNat (m.thr[w]!.now o.loc.toNat) ≤ i) :
    Sim (m.reads w (m.line o.loc.toNat)[i]! o) (r.reads w o (r.lists o.loc.toNat)[i]!) := by
  have h := s.th w hw
  have ha := s.la
  have hb := s.lb
  have hi' : i < (r.lists o.loc.toNat).length := by rw [s.ll _ hl]; exact hi
  have hm := s.ms _ hl i hi
  have ho := VV.own ha hb hl hi (by rw [RM.ids_len]; exact hi')
  rw [RM.ids_at r hi'] at ho
  have hp : ∀ l, l < 3 → ∀ x y, place m.line l (joinV m.line x y l) = max (place m.line l (x l)) (place m.line l (y l)) := fun l hl x y => place_join (fun x hx => (ha.in_ l hl x hx).1) x y
  have hpi := place_at (ha.nd _ hl) hi
  have hn1 : ∀ l, l < 3 → place m.line l (upd m.thr[w]!.now o.loc.toNat (m.line o.loc.toNat)[i]! l) = place m.line l (joinV m.line m.thr[w]!.now (upd noV o.loc.toNat (m.line o.loc.toNat)[i]!) l) := fun l hl' => by
    rw [hp l hl']
    simp only [upd]
    by_cases e : l = o.loc.toNat
    · subst e; simp only [if_true]; rw [hpi]; omega
    · simp only [if_neg e]; rw [place_noV m.line l fun x hx => (ha.in_ l hl' x hx).1]; omega
  have k1 : VV m.line r.ids m.msgs.length r.next (upd m.thr[w]!.now o.loc.toNat (m.line o.loc.toNat)[i]!) (joinR r.ids r.thr[w]!.now (upd noV o.loc.toNat (r.lists o.loc.toNat)[i]!.id)) :=
    (h.now.join ha hb ho).left hn1 (fun l hl' => by
      simp only [upd]; split
      · have := ho.fa l hl'; simpa [upd, *] using this
      · exact h.now.fa l hl')
  have k2 : VV m.line r.ids m.msgs.length r.next (if acqP o.ord then joinV m.line (upd m.thr[w]!.now o.loc.toNat (m.line o.loc.toNat)[i]!) (m.msgAt o.loc.toNat i).view else upd m.thr[w]!.now o.loc.toNat (m.line o.loc.toNat)[i]!)
      (if acqP o.ord then joinR r.ids (joinR r.ids r.thr[w]!.now (upd noV o.loc.toNat (r.lists o.loc.toNat)[i]!.id)) (r.lists o.loc.toNat)[i]!.view else joinR r.ids r.thr[w]!.now (upd noV o.loc.toNat (r.lists o.loc.toNat)[i]!.id)) := by
    split
    · exact k1.join ha hb hm.view
    · exact k1
  have hn2 : ∀ l, l < 3 → place m.line l (upd m.thr[w]!.now o.loc.toNat (m.line o.loc.toNat)[i]! l) ≤ place m.line l ((if acqP o.ord then joinV m.line (upd m.thr[w]!.now o.loc.toNat (m.line o.loc.toNat)[i]!) (m.msgAt o.loc.toNat i).view else upd m.thr[w]!.now o.loc.toNat (m.line o.loc.toNat)[i]!) l) := fun l hl' => by
    split
    · rw [hp l hl']; omega
    · exact Nat.le_refl _
  unfold VM.reads RM.reads VM.setThr RM.setT readT
  dsimp only
  refine s.set hw (a' := m.all) (b' := r.all) ?_ s.all
  refine ⟨h.at_, ?_, k2, ?_, h.given, fun l hl' => ?_, fun l hl' => ?_⟩
  · dsimp only; rw [h.read, hm.word]; rfl
  · refine ((((h.gained.join ha hb ho).join ha hb hm.view).join ha hb k2)).left (fun l hl' => ?_) (fun l hl' => ?_)
    · have q1 := hn1 l hl'
      have q2 := hn2 l hl'
      rw [hp l hl'] at q1
      simp only [hp l hl']
      show max (max _ (place m.line l ((m.msgAt o.loc.toNat i).view l))) _ = _
      have q3 : place m.line l (upd noV o.loc.toNat (m.line o.loc.toNat)[i]! l) ≤ place m.line l ((if acqP o.ord then joinV m.line (upd m.thr[w]!.now o.loc.toNat (m.line o.loc.toNat)[i]!) (m.msgAt o.loc.toNat i).view else upd m.thr[w]!.now o.loc.toNat (m.line o.loc.toNat)[i]!) l) := by omega
      show max (max _ _) (place m.line l ((if acqP o.ord then joinV m.line (upd m.thr[w]!.now o.loc.toNat (m.line o.loc.toNat)[i]!) (m.msgAt o.loc.toNat i).view else upd m.thr[w]!.now o.loc.toNat (m.line o.loc.toNat)[i]!) l)) = _
      omega
    · exact ((h.gained.join ha hb hm.view).join ha hb k2).fa l hl'
  · have q := h.g1 l hl'
    have q1 := hn1 l hl'
    have q2 := hn2 l hl'
    rw [hp l hl'] at q1
    show place m.line l (m.thr[w]!.given l) ≤ place m.line l ((if acqP o.ord then joinV m.line (upd m.thr[w]!.now o.loc.toNat (m.line o.loc.toNat)[i]!) (m.msgAt o.loc.toNat i).view else upd m.thr[w]!.now o.loc.toNat (m.line o.loc.toNat)[i]!) l)
    omega
  · dsimp only; rw [hp l hl']; exact Nat.le_max_right _ _

theorem Sim.write (s : Sim m r) (ow : m.Own) (hw : w < m.thr.length) (o : OpV) (hl : o.loc.toNat < 3) {i : Nat} (hi : i < (m.line o.loc.toNat).length) (hlo : place m.line o.loc.toNat (m.thr[w]!.now o.loc.toNat) ≤ i)
    (word : Int) (fr : Bool) (sv : Vw) (hsv : fr = true → sv = (r.lists o.loc.toNat)[i]!.view) : Sim (m.writes w i word o fr) (r.write w o (i + 1) fr word sv) := by
  have h := s.th w hw
  have hi' : i < (r.lists o.loc.toNat).length := by rw [s.ll _ hl]; exact hi
  have hidl : (r.ids o.loc.toNat).length = (m.line o.loc.toNat).length := by rw [RM.ids_len, s.ll _ hl]
  have hm := s.ms _ hl i hi
  generalize hL : upd m.line o.loc.toNat (insP (m.line o.loc.toNat) (i + 1) m.msgs.length) = L
  generalize hK : upd r.ids o.loc.toNat (insP (r.ids o.loc.toNat) (i + 1) r.next) = K
  have hL' : upd m.line o.loc.toNat ((m.line o.loc.toNat).take (i + 1) ++ (m.msgs.length : Int) :: (m.line o.loc.toNat).drop (i + 1)) = L := hL
  have ha : Lns L (m.msgs.length + 1) := hL ▸ s.la.ins (by omega)
  have hb : Lns K (r.next + 1) := hK ▸ s.lb.ins s.nx
  have sh : ∀ {a b : Vw}, VV m.line r.ids m.msgs.length r.next a b → VV L K (m.msgs.length + 1) (r.next + 1) a b := fun h => hL ▸ hK ▸ h.shift (by omega) (by omega) (by omega)
  have hLl : L o.loc.toNat = insP (m.line o.loc.toNat) (i + 1) m.msgs.length := by rw [← hL]; simp only [upd, if_true]
  have hKl : K o.loc.toNat = insP (r.ids o.loc.toNat) (i + 1) r.next := by rw [← hK]; simp only [upd, if_true]
  have hLn : (L o.loc.toNat)[i + 1]! = m.msgs.length := by rw [hLl, insP_get _ (by omega), if_neg (by omega), if_pos rfl]
  have hKn : (K o.loc.toNat)[i + 1]! = r.next := by rw [hKl, insP_get _ (by omega), if_neg (by omega), if_pos rfl]
  have hLlen : i + 1 < (L o.loc.toNat).length := by rw [hLl, insP_len]; omega
  have ho := VV.own ha hb hl hLlen (by rw [hKl, insP_len]; omega)
  rw [hLn, hKn] at ho
  have hpn : place L o.loc.toNat (m.msgs.length : Int) = i + 1 := by
    have := place_at (ha.nd _ hl) hLlen
    rwa [hLn] at this
  have hp : ∀ l, l < 3 → ∀ x y, place L l (joinV L x y l) = max (place L l (x l)) (place L l (y l)) := fun l hl x y => place_join (fun x hx => (ha.in_ l hl x hx).1) x y
  have hps : ∀ l, l < 3 → ∀ y : Int, y < m.msgs.length → place L l y = if l = o.loc.toNat ∧ i + 1 ≤ place m.line l y then place m.line l y + 1 else place m.line l y := fun l _ y hy => by
    rw [← hL]; exact place_shift (by omega) (by omega) (by omega) l
  have hle : ∀ (x y : Vw), (∀ l, l < 3 → x l < m.msgs.length) → (∀ l, l < 3 → y l < m.msgs.length) → (∀ l, l < 3 → place m.line l (x l) ≤ place m.line l (y l)) → ∀ l, l < 3 → place L l (x l) ≤ place L l (y l) := fun x y hx hy hxy l hl' => by
    rw [hps l hl' _ (hx l hl'), hps l hl' _ (hy l hl')]
    have := hxy l hl'
    split <;> split <;> omega
  have q1 := hle _ _ h.given.fa h.now.fa h.g1
  have q2 := hle _ _ h.now.fa h.gained.fa h.g2
  have hnl : place L o.loc.toNat (m.thr[w]!.now o.loc.toNat) ≤ i := by
    rw [hps _ hl _ (h.now.fa _ hl), if_neg (by omega)]; exact hlo
  have hsl : place L o.loc.toNat ((m.msgAt o.loc.toNat i).view o.loc.toNat) ≤ i := by
    have e : (m.msgAt o.loc.toNat i).view o.loc.toNat = (m.line o.loc.toNat)[i]! := ow _ hl _ (by rw [getB hi]; exact List.getElem_mem _)
    have e2 : place m.line o.loc.toNat ((m.msgAt o.loc.toNat i).view o.loc.toNat) = i := by rw [e]; exact place_at (s.la.nd _ hl) hi
    rw [hps _ hl _ (hm.view.fa _ hl), e2, if_neg (by omega)]; exact Nat.le_refl _
  have hon : ∀ l, l < 3 → place L l (upd noV o.loc.toNat (m.msgs.length : Int) l) = if l = o.loc.toNat then i + 1 else 0 := fun l hl' => by
    simp only [upd]
    by_cases e : l = o.loc.toNat
    · subst e; simp only [if_true]; exact hpn
    · simp only [if_neg e]; exact place_noV L l fun x hx => (ha.in_ l hl' x hx).1
  have hun : ∀ (x : Vw) l, l < 3 → place L l (upd x o.loc.toNat (m.msgs.length : Int) l) = if l = o.loc.toNat then i + 1 else place L l (x l) := fun x l hl' => by
    simp only [upd]
    by_cases e : l = o.loc.toNat
    · subst e; simp only [if_true]; exact hpn
    · simp only [if_neg e]
  have huf : ∀ (x : Vw), (∀ l, l < 3 → x l < (m.msgs.length : Int) + 1) → ∀ l, l < 3 → upd x o.loc.toNat (m.msgs.length : Int) l < (m.msgs.length : Int) + 1 := fun x hx l hl' => by
    simp only [upd]; split
    · omega
    · exact hx l hl'
  have k1 : VV L K (m.msgs.length + 1) (r.next + 1) (upd m.thr[w]!.now o.loc.toNat (m.msgs.length : Int)) (joinR K r.thr[w]!.now (upd noV o.loc.toNat r.next)) :=
    ((sh h.now).join ha hb ho).left (fun l hl' => by
      rw [hp l hl', hon l hl', hun _ l hl']
      split
      · rename_i e; subst e; omega
      · omega) (huf _ (sh h.now).fa)
  have k3 := (sh h.given).join ha hb ho
  have kv : VV L K (m.msgs.length + 1) (r.next + 1)
      (upd (if fr then joinV L (if relP o.ord then upd m.thr[w]!.now o.loc.toNat (m.msgs.length : Int) else m.thr[w]!.given) (m.msgAt o.loc.toNat i).view else (if relP o.ord then upd m.thr[w]!.now o.loc.toNat (m.msgs.length : Int) else m.thr[w]!.given)) o.loc.toNat (m.msgs.length : Int))
      (if fr then joinR K (if relP o.ord then joinR K r.thr[w]!.now (upd noV o.loc.toNat r.next) else joinR K r.thr[w]!.given (upd noV o.loc.toNat r.next)) sv else (if relP o.ord then joinR K r.thr[w]!.now (upd noV o.loc.toNat r.next) else joinR K r.thr[w]!.given (upd noV o.loc.toNat r.next))) := by
    have j1 : VV L K (m.msgs.length + 1) (r.next + 1) (if relP o.ord then upd m.thr[w]!.now o.loc.toNat (m.msgs.length : Int) else joinV L m.thr[w]!.given (upd noV o.loc.toNat (m.msgs.length : Int))) (if relP o.ord then joinR K r.thr[w]!.now (upd noV o.loc.toNat r.next) else joinR K r.thr[w]!.given (upd noV o.loc.toNat r.next)) := by
      split
      · exact k1
      · exact k3
    have j0 : ∀ l, l < 3 → (if relP o.ord then upd m.thr[w]!.now o.loc.toNat (m.msgs.length : Int) else m.thr[w]!.given) l < (m.msgs.length : Int) + 1 := fun l hl' => by
      split
      · exact k1.fa l hl'
      · exact (sh h.given).fa l hl'
    have j2 : ∀ l, l < 3 → place L l ((if relP o.ord then upd m.thr[w]!.now o.loc.toNat (m.msgs.length : Int) else joinV L m.thr[w]!.given (upd noV o.loc.toNat (m.msgs.length : Int))) l) = if l = o.loc.toNat then i + 1 else place L l ((if relP o.ord then upd m.thr[w]!.now o.loc.toNat (m.msgs.length : Int) else m.thr[w]!.given) l) := fun l hl' => by
      have g := q1 l hl'
      split
      · rw [hun _ l hl']; split <;> rfl
      · rw [hp l hl', hon l hl']
        split
        · rename_i e; subst e; omega
        · omega
    cases fr with
    | false =>
      simp only [Bool.false_eq_true, if_false]
      refine j1.left (fun l hl' => ?_) (huf _ j0)
      rw [hun _ l hl', j2 l hl']
    | true =>
      simp only [if_true]
      rw [hsv rfl]
      refine (j1.join ha hb (sh hm.view)).left (fun l hl' => ?_) (huf _ (fun l hl' => ?_))
      · rw [hun _ l hl', hp l hl', hp l hl', j2 l hl']
        split
        · rename_i e; subst e; omega
        · rfl
      · exact joinV_lt (j0 l hl') ((sh hm.view).fa l hl')
  have hids : (r.write w o (i + 1) fr word sv).ids = K := by
    rw [← hK]
    funext l
    simp only [RM.ids, RM.write, upd]
    split
    · rename_i e; subst e; simp [insP, List.map_take, List.map_drop]
    · rfl
  have hKu : upd r.ids o.loc.toNat (insP (r.ids o.loc.toNat) (i + 1) r.next) = K := hK
  have hml : ((m.writes w i word o fr).msgs.length : Int) = m.msgs.length + 1 := by simp [VM.writes]
  have hln : (m.writes w i word o fr).line = L := hL'
  have hrn : (r.write w o (i + 1) fr word sv).next = r.next + 1 := rfl
  have old : ∀ (x : Msg) l, l < 3 → ∀ j, j < (m.line l).length → (m.msgs ++ [x])[((m.line l)[j]!).toNat]! = m.msgAt l j := fun x l hl' j hj => by
    have := s.la.in_ l hl' (m.line l)[j]! (by rw [getB hj]; exact List.getElem_mem _)
    have h2 : ((m.line l)[j]!).toNat < m.msgs.length := by omega
    rw [getB (by rw [List.length_append]; omega), List.getElem_append_left h2, ← getB]; rfl
  have hthr : TEq L K (m.msgs.length + 1) (r.next + 1) ⟨upd m.thr[w]!.now o.loc.toNat (m.msgs.length : Int), joinV L m.thr[w]!.gained (upd m.thr[w]!.now o.loc.toNat (m.msgs.length : Int)), m.thr[w]!.given, m.thr[w]!.read, m.thr[w]!.next⟩
      ⟨r.thr[w]!.at_, r.thr[w]!.read, joinR K r.thr[w]!.now (upd noV o.loc.toNat r.next), joinR K r.thr[w]!.gained (joinR K r.thr[w]!.now (upd noV o.loc.toNat r.next)), r.thr[w]!.given⟩ := by
    refine ⟨h.at_, h.read, k1, (sh h.gained).join ha hb k1, sh h.given, fun l hl' => ?_, fun l hl' => ?_⟩
    · have g := q1 l hl'
      dsimp only
      rw [hun _ l hl']
      split
      · rename_i e; subst e; omega
      · exact g
    · dsimp only; rw [hp l hl']; exact Nat.le_max_right _ _
  refine ⟨s.prog, ?_, ?_, ?_, ?_, ?_, ?_, ?_, ?_, ?_⟩
  · simp only [VM.writes, RM.write, List.length_set]; exact s.tl
  · intro j hj
    have hj' : j < m.thr.length := by simpa [VM.writes] using hj
    rw [hln, hids, hml, hrn]
    simp only [VM.writes, RM.write]
    rw [set_get _ _ _ _ hw, set_get _ _ _ _ (by rw [s.tl]; exact hw), hL', hKu]
    by_cases e : j = w
    · rw [if_pos e, if_pos e]; exact hthr
    · rw [if_neg e, if_neg e]
      have hj2 := s.th j hj'
      exact ⟨hj2.at_, hj2.read, sh hj2.now, sh hj2.gained, sh hj2.given, hle _ _ hj2.given.fa hj2.now.fa hj2.g1, hle _ _ hj2.now.fa hj2.gained.fa hj2.g2⟩
  · intro l hl'
    rw [hln]
    simp only [RM.write]
    by_cases e : l = o.loc.toNat
    · subst e; rw [hLl, upd_at, insP_len, insP_len, s.ll _ hl]
    · rw [← hL]; simp only [upd, if_neg e]; exact s.ll l hl'
  · intro l hl' j hj
    rw [hln] at hj
    rw [hln, hids, hml, hrn]
    simp only [VM.msgAt, hln]
    have hold : ∀ x : Msg, ∀ j, j < (m.line l).length → MEq L K (m.msgs.length + 1) (r.next + 1) (m.msgs ++ [x])[((m.line l)[j]!).toNat]! (r.lists l)[j]! := fun x j hj => by
      rw [old x l hl' j hj]
      have := s.ms l hl' j hj
      exact ⟨this.word, this.tied, sh this.view⟩
    simp only [VM.writes, RM.write, hL', hKu]
    by_cases e : l = o.loc.toNat
    · subst e
      rw [hLl, insP_len] at hj
      rw [hLl, upd_at, insP_get _ (by omega), insP_get _ (by omega)]
      by_cases h1 : j < i + 1
      · rw [if_pos h1, if_pos h1]; exact hold _ j (by omega)
      · rw [if_neg h1, if_neg h1]
        by_cases h2 : j = i + 1
        · rw [if_pos h2, if_pos h2]
          rw [getB (by simp), List.getElem_append_right (by simp)]
          simp only [Int.toNat_natCast, Nat.sub_self, List.getElem_cons_zero]
          exact ⟨rfl, rfl, kv⟩
        · rw [if_neg h2, if_neg h2]; exact hold _ (j - 1) (by omega)
    · have e1 : L l = m.line l := by rw [← hL]; simp only [upd, if_neg e]
      have e2 : ∀ X, upd r.lists o.loc.toNat X l = r.lists l := fun X => by simp only [upd, if_neg e]
      rw [e1] at hj ⊢
      rw [e2]
      exact hold _ j hj
  · rw [hln, hml]; exact ha
  · rw [hids, hrn]; exact hb
  · rw [hrn]; have := s.nx; omega
  · rw [hrn, hml, s.ne]
  · rw [hln, hids, hml, hrn]; exact sh s.all

end
end Go.EV

namespace Go.EV

/-- The reference's choice for a choice. -/
def chOf (o : OpV) (c : Nat × Bool) : RCh :=
  if o.kind = 5 then (-1, -1, false) else if o.kind = 1 then (-1, (c.1 : Int) + 1, true) else if c.2 then ((c.1 : Int), (c.1 : Int) + 1, true) else ((c.1 : Int), -1, false)

section
variable {m : VM} {r : RM} {w B : Nat}

theorem Sim.bound (s : Sim m r) {l i : Nat} (hl : l < 3) : r.tiedTo l i = m.bound l i := by
  simp only [RM.tiedTo, VM.bound, s.ll l hl]
  by_cases h : i + 1 < (m.line l).length
  · rw [(s.ms l hl (i + 1) h).tied]
  · simp [h]

theorem Sim.low (s : Sim m r) (hw : w < m.thr.length) (o : OpV) (hl : o.loc.toNat < 3) : r.low w o = m.low w o := by
  simp only [RM.low, VM.low]
  exact ((s.th w hw).now.eq _ hl).symm

theorem map_flat {α β : Type} (f : α → β) (g : Nat → List α) (n : Nat) : ((List.range n).flatMap g).map f = (List.range n).flatMap fun k => (g k).map f := by
  rw [List.map_flatMap]

theorem flat_congr {α : Type} (g g' : Nat → List α) (n : Nat) (h : ∀ k, k < n → g k = g' k) : (List.range n).flatMap g = (List.range n).flatMap g' := by
  have : (List.range n).map g = (List.range n).map g' := List.map_congr_left fun k hk => h k (List.mem_range.1 hk)
  rw [List.flatMap, List.flatMap, this]

theorem Sim.choices (s : Sim m r) (hw : w < m.thr.length) (o : OpV) (ho : okOpE o) : r.choices w o = (m.choices w o).map (chOf o) := by
  have hl : o.loc.toNat < 3 := by have := ho.2.2.1; have := ho.2.2.2.1; omega
  have hk0 := ho.1
  have hk6 := ho.2.1
  have hlow := s.low hw o hl
  have hll := s.ll _ hl
  by_cases h5 : o.kind = 5
  · simp only [RM.choices, VM.choices, if_pos h5, List.map_cons, List.map_nil, chOf]
  · by_cases h1 : o.kind = 1
    · simp only [RM.choices, VM.choices, if_neg h5, if_pos h1, hlow, hll, VM.choicesFrom, fromN, map_flat]
      refine flat_congr _ _ _ fun k hk => ?_
      have hb := s.bound (i := m.low w o + k) hl
      have hw1 : o.writes (m.msgAt o.loc.toNat (m.low w o + k)).word = true := by simp [OpV.writes, h1]
      simp only [RM.storeAt, VM.choicesAt, hw1, Bool.true_and, Bool.not_true, Bool.false_or, show decide (o.kind = 4) = false from decide_eq_false (by omega)]
      have hlt : m.low w o + k < (m.line o.loc.toNat).length := by omega
      have e1 : m.low w o + 1 + k = m.low w o + k + 1 := by omega
      rw [e1, ← hb]
      simp only [RM.tiedTo, hll]
      by_cases h : m.low w o + k + 1 < (m.line o.loc.toNat).length
      · have h2 : ¬ (m.low w o + k + 1 = (m.line o.loc.toNat).length) := by omega
        simp only [h, h2, decide_true, decide_false, Bool.true_and, Bool.false_or]
        split <;> simp [chOf, h1]
      · have h2 : m.low w o + k + 1 = (m.line o.loc.toNat).length := by omega
        simp [h2, chOf, h1]; omega
    · simp only [RM.choices, VM.choices, if_neg h5, if_neg h1, hlow, hll, VM.choicesFrom, fromN, map_flat]
      refine flat_congr _ _ _ fun k hk => ?_
      have hb := s.bound (i := m.low w o + k) hl
      have hlt : m.low w o + k < (m.line o.loc.toNat).length := by omega
      have hwd := (s.ms _ hl _ hlt).word
      have hh : r.hit o (m.low w o + k) = o.writes (m.msgAt o.loc.toNat (m.low w o + k)).word := by
        simp only [RM.hit, OpV.writes, hwd]
        rw [Bool.eq_iff_iff]; simp; omega
      simp only [RM.chAt, VM.choicesAt, hh, hb, List.map_append]
      split <;> split <;> simp [chOf, h1, h5]

/-- What a thread that did what a step does leaves. -/
theorem Sim.does (s : Sim m r) (iv : m.Inv B) (hw : w < m.thr.length) (o : OpV) (ho : okOpE o) {c : Nat × Bool} (hc : c ∈ m.choices w o) : Sim (m.does w o c) (r.does w o (chOf o c)) := by
  have hl : o.loc.toNat < 3 := by have := ho.2.2.1; have := ho.2.2.2.1; omega
  have s1 := s.nexts hw
  have hw1 : w < (m.nexts w).thr.length := by simpa [VM.nexts, VM.setThr] using hw
  have hnow : (m.nexts w).thr[w]!.now = m.thr[w]!.now := by simp only [VM.nexts, VM.setThr]; rw [set_get _ _ _ _ hw, if_pos rfl]
  have how : (m.nexts w).Own := iv.ow
  simp only [VM.does, RM.does]
  by_cases h5 : o.kind = 5
  · rw [if_pos h5, if_pos h5]; exact s1.fence hw1 o
  · rw [if_neg h5, if_neg h5]
    obtain ⟨hlo, hi⟩ := choices_mem h5 hc
    have hi1 : c.1 < ((m.nexts w).line o.loc.toNat).length := hi
    have hlo1 : place (m.nexts w).line o.loc.toNat ((m.nexts w).thr[w]!.now o.loc.toNat) ≤ c.1 := by rw [hnow]; exact hlo
    by_cases h1 : o.kind = 1
    · have hc2 : c.2 = true := by
        simp only [VM.choices, if_neg h5, VM.choicesFrom, List.mem_flatMap, List.mem_range] at hc
        obtain ⟨k, _, hc⟩ := hc
        have hw1 : o.writes (m.msgAt o.loc.toNat (m.low w o + k)).word = true := by simp [OpV.writes, h1]
        simp only [VM.choicesAt, hw1, Bool.true_and, Bool.not_true, Bool.false_or, show decide (o.kind = 4) = false from decide_eq_false (by omega), List.mem_append] at hc
        rcases hc with hc | hc
        · split at hc
          · rw [List.mem_singleton] at hc; rw [hc]
          · cases hc
        · simp at hc
      have e : chOf o c = (-1, (c.1 : Int) + 1, true) := by simp only [chOf, if_neg h5, if_pos h1]
      have ew : wordW o 0 = o.v := by simp only [wordW]; rw [if_neg (by omega), if_neg (by omega)]
      rw [if_pos h1, e, if_pos hc2]
      dsimp only
      rw [if_pos (show (-1 : Int) < 0 by omega), if_pos rfl, ew]
      exact s1.write how hw1 o hl hi1 hlo1 o.v false noV (by simp)
    · rw [if_neg h1]
      have s2 := s1.reads how hw1 o hl hi1 hlo1
      have hw2 : w < ((m.nexts w).reads w ((m.nexts w).line o.loc.toNat)[c.1]! o).thr.length := by simpa [VM.reads, VM.setThr] using hw1
      have hlo2 : place ((m.nexts w).reads w ((m.nexts w).line o.loc.toNat)[c.1]! o).line o.loc.toNat (((m.nexts w).reads w ((m.nexts w).line o.loc.toNat)[c.1]! o).thr[w]!.now o.loc.toNat) ≤ c.1 := by
        have ha := s1.la
        have e1 : place (m.nexts w).line o.loc.toNat ((m.nexts w).line o.loc.toNat)[c.1]! = c.1 := place_at (ha.nd _ hl) hi1
        have e2 : ((m.nexts w).msgs[((m.nexts w).line o.loc.toNat)[c.1]!.toNat]!).view o.loc.toNat = ((m.nexts w).line o.loc.toNat)[c.1]! := how _ hl _ (by rw [getB hi1]; exact List.getElem_mem _)
        have e3 : ∀ v : Vw, (upd v o.loc.toNat ((m.nexts w).line o.loc.toNat)[c.1]!) o.loc.toNat = ((m.nexts w).line o.loc.toNat)[c.1]! := fun v => by simp only [upd, if_true]
        simp only [VM.reads, VM.setThr]
        rw [set_get _ _ _ _ hw1, if_pos rfl]
        dsimp only
        split
        · rw [place_join (fun x hx => (ha.in_ _ hl x hx).1), e3, e2, e1]; omega
        · rw [e3, e1]; exact Nat.le_refl _
      cases hc2 : c.2 with
      | false =>
        have e : chOf o c = ((c.1 : Int), -1, false) := by simp only [chOf, if_neg h5, if_neg h1, hc2, Bool.false_eq_true, if_false]
        rw [e]
        simp only [show ¬ ((c.1 : Int) < 0) from by omega, Bool.false_eq_true, if_false]
        exact s2
      | true =>
        have e : chOf o c = ((c.1 : Int), (c.1 : Int) + 1, true) := by simp only [chOf, if_neg h5, if_neg h1, hc2, if_true]
        rw [e]
        simp only [show ¬ ((c.1 : Int) < 0) from by omega, if_true, if_false, Int.toNat_natCast]
        have hmw := (s1.ms _ hl _ hi1).word
        have ek : ((c.1 : Int) + 1).toNat = c.1 + 1 := by omega
        have hk3 : o.kind = 2 ∨ 3 ≤ o.kind := by
          have h0 : o.kind ≠ 0 := fun h0 => by
            simp only [VM.choices, if_neg h5, VM.choicesFrom, List.mem_flatMap, List.mem_range] at hc
            obtain ⟨k, _, hc⟩ := hc
            have hw1 : o.writes (m.msgAt o.loc.toNat (m.low w o + k)).word = false := by simp [OpV.writes, h0]
            simp only [VM.choicesAt, hw1, Bool.false_and, Bool.false_eq_true, if_false, List.nil_append] at hc
            split at hc
            · rw [List.mem_singleton] at hc; rw [hc] at hc2; cases hc2
            · cases hc
          have := ho.1
          omega
        have ew : wordW o ((r.nexts w).lists o.loc.toNat)[c.1]!.word = if o.kind = 2 then IntKind.i64.wrap (((m.nexts w).msgs[(((m.nexts w).line o.loc.toNat)[c.1]!).toNat]!).word + o.v) else o.w := by
          rw [hmw]
          simp only [wordW]
          rcases hk3 with h | h
          · rw [if_pos h, if_pos h]; rfl
          · have h2 : ¬ o.kind = 2 := by omega
            rw [if_neg h2, if_neg h2, if_pos h]
        rw [ek, ew]
        exact s2.write how hw2 o hl hi1 hlo2 _ true _ (fun _ => rfl)

theorem Sim.bad (s : Sim m r) (who : Int) : r.bad who = m.bad who := by simp only [RM.bad, VM.bad, s.tl]
theorem Sim.leftOf (s : Sim m r) {i : Nat} (hi : i < m.thr.length) : r.leftOf i = m.leftOf i := by
  simp only [RM.leftOf, VM.leftOf, s.prog, (s.th i hi).at_]
theorem Sim.turn (s : Sim m r) (who : Int) : r.turn who = m.turn who := by
  simp only [RM.turn, VM.turn, s.bad, s.prog]
  by_cases h : m.bad who = true
  · have h2 : who < 0 ∨ (m.thr.length : Int) ≤ who := by simpa [VM.bad] using h
    rw [if_pos h, if_pos h2]
  · obtain ⟨w, rfl, hw⟩ := bad_no h
    have h2 : ¬ ((w : Int) < 0 ∨ (m.thr.length : Int) ≤ w) := by omega
    rw [if_neg h, if_neg h2, Int.toNat_natCast, (s.th w hw).at_]
theorem Sim.leftR (s : Sim m r) (who : Int) : r.leftR who = m.leftR who := by
  simp only [RM.leftR, VM.leftR, s.bad]
  by_cases h : m.bad who = true
  · rw [if_pos h, if_pos h]
  · obtain ⟨w, rfl, hw⟩ := bad_no h
    rw [if_neg h, if_neg h, Int.toNat_natCast, s.leftOf hw]
theorem Sim.reachR (s : Sim m r) (who loc : Int) : r.reachR who loc = m.reachR who loc := by
  simp only [RM.reachR, VM.reachR, s.bad]
  by_cases h : (m.bad who || decide (loc < 0) || decide (3 ≤ loc)) = true
  · rw [if_pos h, if_pos h]
  · have h2 : m.bad who = false ∧ ¬ loc < 0 ∧ ¬ 3 ≤ loc := by simpa [and_assoc] using h
    obtain ⟨w, rfl, hw⟩ := bad_no (m := m) (who := who) (by rw [h2.1]; simp)
    rw [if_neg h, if_neg h, Int.toNat_natCast, (s.th w hw).now.eq loc.toNat (by omega)]
theorem Sim.choicesR (s : Sim m r) (iv : m.Inv B) (who : Int) : r.choicesR who = m.choicesR who := by
  simp only [RM.choicesR, VM.choicesR, s.turn]
  rcases turn_cases m who with h | ⟨h, w, rfl, hw, h2, e⟩
  · rw [if_pos h, if_pos h]
  · have hz : ¬ ((m.turn w).2 ≠ 0) := by simp [h]
    have ho : okOpE (m.turn w).1 := e ▸ op_ok iv.wf hw h2
    rw [if_neg hz, if_neg hz, Int.toNat_natCast, s.choices hw _ ho, List.length_map]
theorem Sim.over (s : Sim m r) : r.over = m.over := by
  have : r.lefts r.thr.length = m.lefts m.thr.length := by
    rw [s.tl]
    exact List.map_congr_left fun i hi => s.leftOf (List.mem_range.1 hi)
  simp only [RM.over, VM.over, this]
theorem Sim.words (s : Sim m r) {l : Nat} (hl : l < 3) : (r.lists l).map RMsg.word = (m.line l).map m.wordOf := by
  refine List.ext_getElem (by simp [s.ll l hl]) fun i h1 h2 => ?_
  have hi : i < (m.line l).length := by simpa using h2
  have hi' : i < (r.lists l).length := by simpa using h1
  have := (s.ms l hl i hi).word
  rw [List.getElem_map, List.getElem_map, ← getB hi', this, ← getB hi]; rfl
theorem Sim.wordsR (s : Sim m r) (loc : Int) : r.wordsR loc = m.wordsR loc := by
  simp only [RM.wordsR, VM.wordsR]
  by_cases h : loc < 0 ∨ 3 ≤ loc
  · rw [if_pos h, if_pos h]
  · rw [if_neg h, if_neg h, s.words (by omega)]
theorem Sim.outcome (s : Sim m r) (iv : m.Inv B) : r.outcome = m.outcome := by
  simp only [RM.outcome, VM.outcome]
  have e1 : r.thr.map RThr.read = m.thr.map (·.read) := by
    refine List.ext_getElem (by simp [s.tl]) fun i h1 h2 => ?_
    have hi : i < m.thr.length := by simpa using h2
    have hi' : i < r.thr.length := by simpa using h1
    have := (s.th i hi).read
    rw [List.getElem_map, List.getElem_map, ← getB hi', this, ← getB hi]
  have e2 : (List.range 3).map r.lastW = (List.range 3).map m.lastW := List.map_congr_left fun l hl => by
    have hl3 := List.mem_range.1 hl
    have hp := iv.wf.lp l hl3
    simp only [RM.lastW, VM.lastW, s.ll l hl3]
    rw [(s.ms l hl3 _ (by omega)).word]; rfl
  rw [e1, e2]
theorem Sim.outcomeR (s : Sim m r) (iv : m.Inv B) : r.outcomeR = m.outcomeR := by
  simp only [RM.outcomeR, VM.outcomeR, s.over, s.outcome iv]

theorem Sim.step (s : Sim m r) (iv : m.Inv B) (who number : Int) : Sim (m.step who number).1 (r.step who number).1 ∧ (r.step who number).2 = (m.step who number).2 := by
  simp only [RM.step, VM.step, s.turn]
  rcases turn_cases m who with h | ⟨h, w, rfl, hw, h2, e⟩
  · rw [if_pos h, if_pos h]; exact ⟨s, rfl⟩
  · have hz : ¬ ((m.turn w).2 ≠ 0) := by simp [h]
    have ho : okOpE (m.turn w).1 := e ▸ op_ok iv.wf hw h2
    rw [if_neg hz, if_neg hz, Int.toNat_natCast, s.choices hw _ ho, List.length_map]
    split
    · exact ⟨s, rfl⟩
    · rename_i hn
      have hlt : number.toNat < (m.choices w (m.turn w).1).length := by omega
      refine ⟨?_, rfl⟩
      have e2 : ((m.choices w (m.turn w).1).map (chOf (m.turn w).1))[number.toNat]! = chOf (m.turn w).1 (m.choices w (m.turn w).1)[number.toNat]! := by
        rw [getB (by simpa using hlt), getB hlt, List.getElem_map]
      dsimp only
      rw [e2]
      exact s.does iv hw _ ho (by rw [getB hlt]; exact List.getElem_mem _)

end
end Go.EV

namespace Go.EV
open Go.Proofs

theorem flatten_le {B : Nat} : ∀ L : List (List Int), (∀ x ∈ L, x.length ≤ B) → L.flatten.length ≤ L.length * B
  | [], _ => by simp
  | x :: L, h => by
    have h1 := h x (List.mem_cons_self ..)
    have h2 := flatten_le L (fun y hy => h y (List.mem_cons_of_mem _ hy))
    rw [List.flatten_cons, List.length_append, List.length_cons, Nat.succ_mul]; omega
theorem VM.outcomeR_len {m : VM} {B : Nat} (wf : m.Wf B) : m.outcomeR.1.length ≤ 3 * B + 3 := by
  have h1 := flatten_le (m.thr.map (·.read)) (B := B) (fun x hx => by
    obtain ⟨t, ht, rfl⟩ := List.mem_map.1 hx
    exact wf.rb t ht)
  have h2 := wf.t3
  rw [List.length_map] at h1
  have h3 : m.thr.length * B ≤ 3 * B := Nat.mul_le_mul_right _ h2
  unfold VM.outcomeR
  split
  · simp only [VM.outcome, List.length_append, List.length_map, List.length_range]; omega
  · simp
theorem VM.wordsR_len {m : VM} {B : Nat} (wf : m.Wf B) (loc : Int) : (m.wordsR loc).1.length ≤ B := by
  unfold VM.wordsR
  split
  · simp
  · rw [List.length_map]; exact wf.ll _ (by omega)

section
variable {M : PHeap} {mp xp : Nat} {ad : Ad} {m : VM} {p : RP} {B B' : Nat}

theorem osv_sl (ov : Vec) (n : Nat) : osv ov n = .slice (oad ov) n (ocap ov) := by cases ov <;> rfl

set_option maxRecDepth 8000 in
set_option maxHeartbeats 8000000 in
theorem alike_q (r1 : RdM M mp ad m) (r2 : RdX M xp p) (iv : m.Inv B) (wf : p.rm.Wf B') (s : Sim m p.rm) : ConQ Try.prog 19 #[pv mp 0, pv xp 0] M (vb true) := by
  have hB := iv.wf.b0
  refine Con.enter Q14_ok (args := [pv mp 0, pv xp 0]) (by simp [Q14]) fun w0 => ?_
  simp only [Q14, argE]
  repeat' first
      | refine EV.seq ?_
      | refine EV.skip ?_
      | refine EV.block ?_
      | (refine EV.reg ?_; (conv => (arg 2; whnf)); simp only [push_cast, Int.cast_ofNat_Int, reduceIte, Nat.reduceEqDiff, reduceCtorEq, Nat.reduceAdd, Nat.reduceSub, Nat.reduceMul, Int.reduceToNat, Nat.reduceLeDiff, s.over, ne_eq, not_true_eq_false, decide_false, beq_self_eq_true])
      | ((first | refine ConQ.call (ref_Over_q (r2.mono (PHeap.le_add _ _)) wf) ?_ | refine ConQ.call (view_Over_q (r1.mono (PHeap.le_add _ _)) iv.wf) ?_ | fail); try simp only [push_cast, Int.cast_ofNat_Int, reduceIte, Nat.reduceEqDiff, reduceCtorEq, Nat.reduceAdd, Nat.reduceSub, Nat.reduceMul, Int.reduceToNat, Nat.reduceLeDiff, s.over, ne_eq, not_true_eq_false, decide_false, beq_self_eq_true])
      | ((refine EV.cond rfl (fun h => ?_) (fun h => ?_) <;> try simp only [reduceCtorEq, reduceIte, if_true, if_false, Bool.not_eq_true', Bool.not_eq_false', decide_eq_true_eq, decide_eq_false_iff_not, Bool.and_eq_true, Bool.or_eq_true, Bool.and_eq_false_iff, Bool.or_eq_false_iff] at h) <;> try (exfalso; first | exact h True.intro | (exact h; done) | omega | (simp only [not_true_eq_false, false_or, or_false] at h; omega)))
      | fail
  refine EV.to (ρ' := [(0, pv mp 0), (1, pv xp 0), (5, vi (((0 : Nat) : Int) - 1))]) (G' := []) ?_ ?env0 (by simp)
  case env0 =>
    repeat' first
      | (refine List.forall_mem_cons.2 (And.intro ?_ ?_))
      | (intro _ hnil; cases hnil; done)
      | rfl
      | fail
  refine EV.loop (fun i : Nat => ([(0, pv mp 0), (1, pv xp 0), (5, vi ((i : Int) - 1))], M, [])) (fun i => i ≤ 5) (fun i => 5 - i) 0 (by simp) ?_
  intro i hi ih
  dsimp only at hi ih ⊢
  repeat' first
      | refine EV.seq ?_
      | refine EV.skip ?_
      | refine EV.block ?_
      | (refine EV.reg ?_; (conv => (arg 2; whnf)); simp only [push_cast, Int.cast_ofNat_Int, reduceIte, Nat.reduceEqDiff, reduceCtorEq, Nat.reduceAdd, Nat.reduceSub, Nat.reduceMul, Int.reduceToNat, Nat.reduceLeDiff, s.leftR, s.choicesR iv, ne_eq, not_true_eq_false, decide_false, Bool.or_self, Bool.false_eq_true])
      | ((first | refine ConQ.call (ref_Choices_q (r2.mono (PHeap.le_add _ _)) wf _) ?_ | refine ConQ.call (view_Choices_q (r1.mono (PHeap.le_add _ _)) iv.wf _) ?_ | refine ConQ.call (ref_Left_q (r2.mono (PHeap.le_add _ _)) wf _) ?_ | refine ConQ.call (view_Left_q (r1.mono (PHeap.le_add _ _)) iv.wf _) ?_ | fail); try simp only [push_cast, Int.cast_ofNat_Int, reduceIte, Nat.reduceEqDiff, reduceCtorEq, Nat.reduceAdd, Nat.reduceSub, Nat.reduceMul, Int.reduceToNat, Nat.reduceLeDiff, s.leftR, s.choicesR iv, ne_eq, not_true_eq_false, decide_false, Bool.or_self, Bool.false_eq_true])
      | assumption
      | (refine condW.merge ?_ (fun hc K' hK => ?_) ?_; rotate_left)
      | ((refine EV.cond rfl (fun h => ?_) (fun h => ?_) <;> try simp only [reduceCtorEq, reduceIte, if_true, if_false, Bool.not_eq_true', Bool.not_eq_false', decide_eq_true_eq, decide_eq_false_iff_not, Bool.and_eq_true, Bool.or_eq_true, Bool.and_eq_false_iff, Bool.or_eq_false_iff] at h) <;> try (exfalso; first | exact h True.intro | (exact h; done) | omega | (simp only [not_true_eq_false, false_or, or_false] at h; omega)))
      | (refine EV.exit rfl ?_)
      | fail
  · exfalso; simp at h
  · refine EV.to (ρ' := [(0, pv mp 0), (1, pv xp 0), (5, vi ((i : Int) - 1)), (14, vi (((0 : Nat) : Int) - 1))]) (G' := []) ?_ ?env1 (by simp)
    case env1 =>
      repeat' first
        | (refine List.forall_mem_cons.2 (And.intro ?_ ?_))
        | (intro _ hnil; cases hnil; done)
        | rfl
        | fail
    refine EV.loop (fun j : Nat => ([(0, pv mp 0), (1, pv xp 0), (5, vi ((i : Int) - 1)), (14, vi ((j : Int) - 1))], M, [])) (fun j => j ≤ 5) (fun j => 5 - j) 0 (by simp) ?_
    intro j hj ih2
    dsimp only at hj ih2 ⊢
    repeat' first
        | refine EV.seq ?_
        | refine EV.skip ?_
        | refine EV.block ?_
        | refine EV.inBlock ?_
        | (refine EV.reg ?_; (conv => (arg 2; whnf)); simp only [push_cast, Int.cast_ofNat_Int, reduceIte, Nat.reduceEqDiff, reduceCtorEq, Nat.reduceAdd, Nat.reduceSub, Nat.reduceMul, Int.reduceToNat, Nat.reduceLeDiff, s.reachR, ne_eq, not_true_eq_false, decide_false, Bool.or_self, Bool.false_eq_true])
        | ((first | refine ConQ.call (ref_Reach_q (r2.mono (PHeap.le_add _ _)) wf _ _) ?_ | refine ConQ.call (view_Reach_q (r1.mono (PHeap.le_add _ _)) iv.wf _ _) ?_ | fail); try simp only [push_cast, Int.cast_ofNat_Int, reduceIte, Nat.reduceEqDiff, reduceCtorEq, Nat.reduceAdd, Nat.reduceSub, Nat.reduceMul, Int.reduceToNat, Nat.reduceLeDiff, s.reachR, ne_eq, not_true_eq_false, decide_false, Bool.or_self, Bool.false_eq_true])
        | assumption
        | (refine condW.merge ?_ (fun hc K' hK => ?_) ?_; rotate_left)
        | ((refine EV.cond rfl (fun h => ?_) (fun h => ?_) <;> try simp only [reduceCtorEq, reduceIte, if_true, if_false, Bool.not_eq_true', Bool.not_eq_false', decide_eq_true_eq, decide_eq_false_iff_not, Bool.and_eq_true, Bool.or_eq_true, Bool.and_eq_false_iff, Bool.or_eq_false_iff] at h) <;> try (exfalso; first | exact h True.intro | (exact h; done) | omega | (simp only [not_true_eq_false, false_or, or_false] at h; omega)))
        | (refine EV.exit rfl ?_)
        | fail
    · exfalso; simp at h
    · refine EV.to (ih2 (j + 1) (by omega) (by omega)) ?_ (by (repeat' first | exact List.Sublist.refl _ | exact List.nil_sublist _ | exact List.sublist_append_left _ _ | refine List.Sublist.cons_cons _ ?_ | refine List.Sublist.append_left ?_ _ | refine List.sublist_append_of_sublist_right ?_ | refine List.Sublist.cons _ ?_))
      repeat' first
        | (refine List.forall_mem_cons.2 (And.intro ?_ ?_))
        | (intro _ hnil; cases hnil; done)
        | rfl
        | (refine env_w64 rfl (by first | rfl | (push_cast; first | rfl | omega)) (by omega) (by omega); done)
        | fail
    · refine EV.to (ih (i + 1) (by omega) (by omega)) ?_ (by (repeat' first | exact List.Sublist.refl _ | exact List.nil_sublist _ | exact List.sublist_append_left _ _ | refine List.Sublist.cons_cons _ ?_ | refine List.Sublist.append_left ?_ _ | refine List.sublist_append_of_sublist_right ?_ | refine List.Sublist.cons _ ?_))
      repeat' first
        | (refine List.forall_mem_cons.2 (And.intro ?_ ?_))
        | (intro _ hnil; cases hnil; done)
        | rfl
        | (refine env_w64 rfl (by first | rfl | (push_cast; first | rfl | omega)) (by omega) (by omega); done)
        | fail
  · refine EV.to (ρ' := [(0, pv mp 0), (1, pv xp 0), (19, vi (((0 : Nat) : Int) - 1))]) (G' := []) ?_ ?env2 (by simp)
    case env2 =>
      repeat' first
        | (refine List.forall_mem_cons.2 (And.intro ?_ ?_))
        | (intro _ hnil; cases hnil; done)
        | rfl
        | fail
    refine EV.loop (fun i : Nat => ([(0, pv mp 0), (1, pv xp 0), (19, vi ((i : Int) - 1))], M, [])) (fun i => i ≤ 5) (fun i => 5 - i) 0 (by simp) ?_
    intro i hi ih
    dsimp only at hi ih ⊢
    repeat' first
        | refine EV.seq ?_
        | refine EV.skip ?_
        | refine EV.block ?_
        | (refine EV.reg ?_; (conv => (arg 2; whnf)); simp only [push_cast, Int.cast_ofNat_Int, reduceIte, Nat.reduceEqDiff, reduceCtorEq, Nat.reduceAdd, Nat.reduceSub, Nat.reduceMul, Int.reduceToNat, Nat.reduceLeDiff])
        | ((refine EV.cond rfl (fun h => ?_) (fun h => ?_) <;> try simp only [reduceCtorEq, reduceIte, if_true, if_false, Bool.not_eq_true', Bool.not_eq_false', decide_eq_true_eq, decide_eq_false_iff_not, Bool.and_eq_true, Bool.or_eq_true, Bool.and_eq_false_iff, Bool.or_eq_false_iff] at h) <;> try (exfalso; first | exact h True.intro | (exact h; done) | omega | (simp only [not_true_eq_false, false_or, or_false] at h; omega)))
        | (refine EV.exit rfl ?_)
        | fail
    · refine Con.callB (G1 := []) (view_Words_c (r1.mono (PHeap.le_add _ [])) iv.wf _) (PHeap.le_refl _) (List.Perm.refl _) ?_
      rintro v1 M1 G1 ⟨ov1, rfl, hov1, rfl⟩
      simp only [push_cast, Int.cast_ofNat_Int, reduceIte, Nat.reduceEqDiff, reduceCtorEq, Nat.reduceAdd, Nat.reduceSub, Nat.reduceMul, Int.reduceToNat, Nat.reduceLeDiff]
      repeat' first
          | refine EV.seq ?_
          | (refine EV.reg ?_; (conv => (arg 2; whnf)); simp only [push_cast, Int.cast_ofNat_Int, reduceIte, Nat.reduceEqDiff, reduceCtorEq, Nat.reduceAdd, Nat.reduceSub, Nat.reduceMul, Int.reduceToNat, Nat.reduceLeDiff])
          | fail
      refine Con.callB (G1 := []) (ref_Words_c (r2.mono (PHeap.le_add _ _)) wf _) (PHeap.le_refl _) (List.Perm.refl _) ?_
      rintro v2 M2 G2 ⟨ov2, rfl, hov2, rfl⟩
      simp only [s.wordsR, List.nil_append] at hov2 ⊢
      simp only [push_cast, Int.cast_ofNat_Int, reduceIte, Nat.reduceEqDiff, reduceCtorEq, Nat.reduceAdd, Nat.reduceSub, Nat.reduceMul, Int.reduceToNat, Nat.reduceLeDiff, osv_sl]
      have hlen := VM.wordsR_len iv.wf ((i : Int) - 1)
      repeat' first
          | refine EV.seq ?_
          | refine EV.skip ?_
          | refine EV.inBlock ?_
          | (refine EV.reg ?_; (conv => (arg 2; whnf)); simp only [push_cast, Int.cast_ofNat_Int, reduceIte, Nat.reduceEqDiff, reduceCtorEq, Nat.reduceAdd, Nat.reduceSub, Nat.reduceMul, Int.reduceToNat, Nat.reduceLeDiff, s.wordsR, osv_sl, ne_eq, not_true_eq_false, decide_false, decide_true, Bool.not_true, Bool.or_self, Bool.false_eq_true])
          | (refine ConQ.call (ref_Ints_q _ _ _ _ _ _ (rd_osg hov1 (fun q hq => List.mem_append_left _ hq)) (rd_osg hov2 (fun q hq => List.mem_append_right _ hq)) (by omega)) ?_; try simp only [push_cast, Int.cast_ofNat_Int, reduceIte, Nat.reduceEqDiff, reduceCtorEq, Nat.reduceAdd, Nat.reduceSub, Nat.reduceMul, Int.reduceToNat, Nat.reduceLeDiff, s.wordsR, osv_sl, ne_eq, not_true_eq_false, decide_false, decide_true, Bool.not_true, Bool.or_self, Bool.false_eq_true])
          | assumption
          | (refine condW.merge ?_ (fun hc K' hK => ?_) ?_; rotate_left)
          | ((refine EV.cond rfl (fun h => ?_) (fun h => ?_) <;> try simp only [reduceCtorEq, reduceIte, if_true, if_false, Bool.not_eq_true', Bool.not_eq_false', decide_eq_true_eq, decide_eq_false_iff_not, Bool.and_eq_true, Bool.or_eq_true, Bool.and_eq_false_iff, Bool.or_eq_false_iff] at h) <;> try (exfalso; first | exact h True.intro | (exact h; done) | omega | (simp only [not_true_eq_false, false_or, or_false] at h; omega)))
          | fail
      · exfalso; simp at h
      refine EV.to (ih (i + 1) (by omega) (by omega)) ?_ (by (repeat' first | exact List.Sublist.refl _ | exact List.nil_sublist _ | exact List.sublist_append_left _ _ | refine List.Sublist.cons_cons _ ?_ | refine List.Sublist.append_left ?_ _ | refine List.sublist_append_of_sublist_right ?_ | refine List.Sublist.cons _ ?_))
      repeat' first
        | (refine List.forall_mem_cons.2 (And.intro ?_ ?_))
        | (intro _ hnil; cases hnil; done)
        | rfl
        | (refine env_w64 rfl (by first | rfl | (push_cast; first | rfl | omega)) (by omega) (by omega); done)
        | fail
    · refine Con.callB (G1 := []) (view_Outcome_c (r1.mono (PHeap.le_add _ [])) iv.wf) (PHeap.le_refl _) (List.Perm.refl _) ?_
      rintro v1 M1 G1 ⟨ov1, rfl, hov1, rfl⟩
      simp only [push_cast, Int.cast_ofNat_Int, reduceIte, Nat.reduceEqDiff, reduceCtorEq, Nat.reduceAdd, Nat.reduceSub, Nat.reduceMul, Int.reduceToNat, Nat.reduceLeDiff]
      repeat' first
          | refine EV.seq ?_
          | (refine EV.reg ?_; (conv => (arg 2; whnf)); simp only [push_cast, Int.cast_ofNat_Int, reduceIte, Nat.reduceEqDiff, reduceCtorEq, Nat.reduceAdd, Nat.reduceSub, Nat.reduceMul, Int.reduceToNat, Nat.reduceLeDiff])
          | fail
      refine Con.callB (G1 := []) (ref_Outcome_c (r2.mono (PHeap.le_add _ _)) wf) (PHeap.le_refl _) (List.Perm.refl _) ?_
      rintro v2 M2 G2 ⟨ov2, rfl, hov2, rfl⟩
      simp only [s.outcomeR iv, List.nil_append] at hov2 ⊢
      simp only [push_cast, Int.cast_ofNat_Int, reduceIte, Nat.reduceEqDiff, reduceCtorEq, Nat.reduceAdd, Nat.reduceSub, Nat.reduceMul, Int.reduceToNat, Nat.reduceLeDiff, osv_sl]
      have hlen := VM.outcomeR_len iv.wf
      repeat' first
          | refine EV.seq ?_
          | (refine EV.reg ?_; (conv => (arg 2; whnf)); simp only [push_cast, Int.cast_ofNat_Int, reduceIte, Nat.reduceEqDiff, reduceCtorEq, Nat.reduceAdd, Nat.reduceSub, Nat.reduceMul, Int.reduceToNat, Nat.reduceLeDiff, s.outcomeR iv, osv_sl, ne_eq, not_true_eq_false, decide_false, decide_true, Bool.not_true, Bool.or_self, Bool.false_eq_true])
          | (refine ConQ.call (ref_Ints_q _ _ _ _ _ _ (rd_osg hov1 (fun q hq => List.mem_append_left _ hq)) (rd_osg hov2 (fun q hq => List.mem_append_right _ hq)) (by omega)) ?_; try simp only [push_cast, Int.cast_ofNat_Int, reduceIte, Nat.reduceEqDiff, reduceCtorEq, Nat.reduceAdd, Nat.reduceSub, Nat.reduceMul, Int.reduceToNat, Nat.reduceLeDiff, s.outcomeR iv, osv_sl, ne_eq, not_true_eq_false, decide_false, decide_true, Bool.not_true, Bool.or_self, Bool.false_eq_true])
          | assumption
          | (refine condW.merge ?_ (fun hc K' hK => ?_) ?_; rotate_left)
          | (refine EV.ret Q14_ok ?_; simp only [push_cast, Int.cast_ofNat_Int, reduceIte, Nat.reduceEqDiff, reduceCtorEq, Nat.reduceAdd, Nat.reduceSub, Nat.reduceMul, Int.reduceToNat, Nat.reduceLeDiff, s.outcomeR iv, osv_sl, ne_eq, not_true_eq_false, decide_false, decide_true, Bool.not_true, Bool.or_self, Bool.false_eq_true, Q14])
          | fail
      rfl

end
end Go.EV

namespace Go.EV
open Go.Proofs

section
variable {P : Program} {C : Cx P} {V : List Nat} {c : RItem} {k : List RItem} {ρ : Env} {M : PHeap} {G : Own}
/-- What many roads lead to is walked on once. -/
theorem EV.via (Φ : Env → PHeap → Own → Prop) (h1 : ∀ k', (∀ ρ' M' G', Φ ρ' M' G' → EV C V k' ρ' M' G') → EV C V (c :: k') ρ M G) (h2 : ∀ ρ' M' G', Φ ρ' M' G' → EV C V k ρ' M' G') : EV C V (c :: k) ρ M G := h1 k h2
end

def RM.new (ts : List (List OpV)) : RM := ⟨ts, fun l => if l < 3 then [⟨l, 0, noV, false⟩] else [], ts.map fun _ => ⟨0, [], noV, noV, noV⟩, noV, 3⟩

theorem range_upd {α β : Type} (F : Nat → α → β) (g : Nat → α) (k : Nat) (x : α) : (List.range (k + 1)).map (fun j => F j (upd g k x j)) = (List.range k).map (fun j => F j (g j)) ++ [F k x] := by
  rw [List.range_succ, List.map_append]
  congr 1
  · refine List.map_congr_left fun j hj => ?_
    have := List.mem_range.1 hj
    simp only [upd]; rw [if_neg (by omega)]
  · simp [upd]

section
variable {M : PHeap}

abbrev Nw := Nat → Nat × Nat × Nat
def rowsL (g : Nw) (k : Nat) : List Value := (List.range k).map fun j => rowV (g j).1 1 1
def msgsL (g : Nw) (k : Nat) : Own := (List.range k).map fun (j : Nat) => ((g j).1, Cl 86 [vi j, vi 0, rowV (g j).2.1 3 (g j).2.2, vb false])
def rowsV (f : Nat → Nat × Nat) (k : Nat) : List Value := (List.range k).map fun j => rowV (f j).1 3 (f j).2
theorem rowsL_upd (g : Nw) (k : Nat) (x : Nat × Nat × Nat) : rowsL (upd g k x) (k + 1) = rowsL g k ++ [rowV x.1 1 1] := range_upd (fun _ (p : Nat × Nat × Nat) => rowV p.1 1 1) g k x
theorem msgsL_upd (g : Nw) (k : Nat) (x : Nat × Nat × Nat) : msgsL (upd g k x) (k + 1) = msgsL g k ++ [(x.1, Cl 86 [vi k, vi 0, rowV x.2.1 3 x.2.2, vb false])] := range_upd (fun (j : Nat) (p : Nat × Nat × Nat) => (p.1, Cl 86 [vi j, vi 0, rowV p.2.1 3 p.2.2, vb false])) g k x
theorem rowsV_upd (f : Nat → Nat × Nat) (k : Nat) (x : Nat × Nat) : rowsV (upd f k x) (k + 1) = rowsV f k ++ [rowV x.1 3 x.2] := range_upd (fun _ (p : Nat × Nat) => rowV p.1 3 p.2) f k x
theorem sub3 {α : Type} {a b c : α} {l l' : List α} (h : l.Sublist l') : (a :: b :: c :: l).Sublist (a :: b :: c :: l') := by simpa using h

theorem range_const {α : Type} (n : Nat) (v : α) : (List.range n).map (fun _ => v) = List.replicate n v := by simp [List.map_const']
def newPt (fn fg fd : Nat → Nat × Nat) (n : Nat) : List RT := (List.range n).map fun j => ⟨⟨0, [], noV, noV, noV⟩, none, (fn j).1, (fn j).2, (fg j).1, (fg j).2, (fd j).1, (fd j).2⟩
def newLs (g : Nw) : Nat → List RX := fun l => if l < 3 then [⟨⟨l, 0, noV, false⟩, (g l).2.1, (g l).2.2⟩] else []
def newMv (g : Nw) : Nat → Blk := fun j => ((g j).1, 1, [])
section
variable (fn fg fd : Nat → Nat × Nat) (n : Nat) (g : Nw)
theorem newPt_len : (newPt fn fg fd n).length = n := by simp [newPt]
theorem newPt_at : (newPt fn fg fd n).map RT.atV = List.replicate n (vi 0) := by rw [newPt, List.map_map]; exact range_const n (vi 0)
theorem newPt_rd : (newPt fn fg fd n).map RT.rdV = List.replicate n (.slice none 0 0) := by rw [newPt, List.map_map]; exact range_const n (Value.slice none 0 0)
theorem newPt_now : (newPt fn fg fd n).map RT.nowV = rowsV fn n := by rw [newPt, List.map_map]; rfl
theorem newPt_gained : (newPt fn fg fd n).map RT.gainedV = rowsV fg n := by rw [newPt, List.map_map]; rfl
theorem newPt_given : (newPt fn fg fd n).map RT.givenV = rowsV fd n := by rw [newPt, List.map_map]; rfl
theorem newPt_th : (newPt fn fg fd n).map RT.th = List.replicate n ⟨0, [], noV, noV, noV⟩ := by rw [newPt, List.map_map]; exact range_const n _
theorem newPt_rds : rdsR (newPt fn fg fd n) = [] := by simp [rdsR, newPt, osg]
theorem newLs_lh (sp : List Value) : lhC (lsV (newMv g) (newLs g)) sp = rowsL g 3 ++ sp := rfl
theorem newLs_G : lsG (newMv g) (newLs g) = msgsL g 3 := rfl
end

def NewR (ts : List (List OpV)) (v : Value) (M' : PHeap) (G' : Own) : Prop :=
  (checkP ts ≠ 0 ∧ v = .tuple #[.pointer none, vi (checkP ts)]) ∨
      (checkP ts = 0 ∧ ∃ mp, ∃ p : RP, v = .tuple #[pv mp 0, vi 0] ∧ G' = p.G mp ∧ p.Ok ∧ p.Vs M' ∧ p.rm = RM.new (ts.map expT))

set_option maxRecDepth 8000 in
set_option maxHeartbeats 8000000 in
theorem ref_New_c (ts : List (List OpV)) (s : Value) (hs : SlSl M 5 encOp s ts) (hb : ts.flatten.length < 1000000) (hb' : ts.length < 1000000) :
    Con Try.prog 18 #[.agg #[s]] M [] (NewR ts) := by
  have hs0 := hs
  obtain ⟨a, c, vs, rfl, hl, hrd, hk⟩ := hs
  refine Con.enter Q43_ok (args := [.agg #[.slice a ts.length c]]) (by simp [Q43]) fun w0 => ?_
  simp only [Q43, argE]
  repeat' first
      | refine EV.seq ?_
      | (refine EV.reg ?_; (conv => (arg 2; whnf)); simp only [push_cast, Int.cast_ofNat_Int, reduceIte, Nat.reduceEqDiff, reduceCtorEq, Nat.reduceAdd, Nat.reduceSub, Nat.reduceMul, Int.reduceToNat, Nat.reduceLeDiff])
      | ((first | with_reducible intro b | refine xr rfl (by simp only [List.length_cons, List.length_nil]; omega) ?_ | fail); try simp only [push_cast, Int.cast_ofNat_Int, reduceIte, Nat.reduceEqDiff, reduceCtorEq, Nat.reduceAdd, Nat.reduceSub, Nat.reduceMul, Int.reduceToNat, Nat.reduceLeDiff])
      | fail
  refine Con.callA (G1 := []) (ref_Expand_c ts _ hs0 hb hb') (List.Perm.refl _) ?_
  rintro v M1 G1 hM1 (⟨hne, rfl⟩ | ⟨hck, s', rfl, hs1⟩)
  · simp only [push_cast, Int.cast_ofNat_Int, reduceIte, Nat.reduceEqDiff, reduceCtorEq, Nat.reduceAdd, Nat.reduceSub, Nat.reduceMul, Int.reduceToNat, Nat.reduceLeDiff]
    repeat' first
        | refine EV.seq ?_
        | (refine EV.reg ?_; (conv => (arg 2; whnf)); simp only [push_cast, Int.cast_ofNat_Int, reduceIte, Nat.reduceEqDiff, reduceCtorEq, Nat.reduceAdd, Nat.reduceSub, Nat.reduceMul, Int.reduceToNat, Nat.reduceLeDiff])
        | ((refine EV.cond rfl (fun h => ?_) (fun h => ?_) <;> try simp only [reduceCtorEq, reduceIte, if_true, if_false, Bool.not_eq_true', Bool.not_eq_false', decide_eq_true_eq, decide_eq_false_iff_not, Bool.and_eq_true, Bool.or_eq_true, Bool.and_eq_false_iff, Bool.or_eq_false_iff] at h) <;> try (exfalso; first | exact h True.intro | (exact h; done) | omega | (simp only [not_true_eq_false, false_or, or_false] at h; omega)))
        | (refine EV.ret Q43_ok ?_; simp only [push_cast, Int.cast_ofNat_Int, reduceIte, Nat.reduceEqDiff, reduceCtorEq, Nat.reduceAdd, Nat.reduceSub, Nat.reduceMul, Int.reduceToNat, Nat.reduceLeDiff, Q43])
        | (with_reducible intro b; try simp only [push_cast, Int.cast_ofNat_Int, reduceIte, Nat.reduceEqDiff, reduceCtorEq, Nat.reduceAdd, Nat.reduceSub, Nat.reduceMul, Int.reduceToNat, Nat.reduceLeDiff])
        | (refine xw ?_; simp only [push_cast, Int.cast_ofNat_Int, reduceIte, Nat.reduceEqDiff, reduceCtorEq, Nat.reduceAdd, Nat.reduceSub, Nat.reduceMul, Int.reduceToNat, Nat.reduceLeDiff])
        | fail
    exact .inl ⟨hne, rfl⟩
  · have hs2 := hs1
    obtain ⟨a', c', vs', rfl, _⟩ := hs2
    obtain ⟨_, hne, hall⟩ := checkP_zero hck
    simp only [push_cast, Int.cast_ofNat_Int, reduceIte, Nat.reduceEqDiff, reduceCtorEq, Nat.reduceAdd, Nat.reduceSub, Nat.reduceMul, Int.reduceToNat, Nat.reduceLeDiff]
    repeat' first
        | refine EV.seq ?_
        | refine EV.skip ?_
        | (refine EV.reg ?_; (conv => (arg 2; whnf)); simp only [push_cast, Int.cast_ofNat_Int, reduceIte, Nat.reduceEqDiff, reduceCtorEq, Nat.reduceAdd, Nat.reduceSub, Nat.reduceMul, Int.reduceToNat, Nat.reduceLeDiff])
        | ((refine EV.cond rfl (fun h => ?_) (fun h => ?_) <;> try simp only [reduceCtorEq, reduceIte, if_true, if_false, Bool.not_eq_true', Bool.not_eq_false', decide_eq_true_eq, decide_eq_false_iff_not, Bool.and_eq_true, Bool.or_eq_true, Bool.and_eq_false_iff, Bool.or_eq_false_iff] at h) <;> try (exfalso; first | exact h True.intro | (exact h; done) | omega | (simp only [not_true_eq_false, false_or, or_false] at h; omega)))
        | (with_reducible intro b; try simp only [push_cast, Int.cast_ofNat_Int, reduceIte, Nat.reduceEqDiff, reduceCtorEq, Nat.reduceAdd, Nat.reduceSub, Nat.reduceMul, Int.reduceToNat, Nat.reduceLeDiff])
        | (refine xw ?_; simp only [push_cast, Int.cast_ofNat_Int, reduceIte, Nat.reduceEqDiff, reduceCtorEq, Nat.reduceAdd, Nat.reduceSub, Nat.reduceMul, Int.reduceToNat, Nat.reduceLeDiff])
        | fail
    obtain ⟨lb, hlb⟩ : ∃ x, x = b := ⟨_, rfl⟩
    subst hlb
    refine EV.to (ρ' := [(4, pv lb 0)]) (G' := [(lb, Cl 24 [.slice a' (List.map expT ts).length c'])]) ?_ ?env0 (List.Sublist.cons_cons _ (List.nil_sublist _))
    case env0 =>
      repeat' first
        | (refine List.forall_mem_cons.2 (And.intro ?_ ?_))
        | (intro _ hnil; cases hnil; done)
        | rfl
        | fail
    refine EV.permG ?_ (by exact List.Perm.refl ([(lb, _)] ++ []))
    refine EV.freeze ?_
    generalize hN : M1.add [(lb, Cl 24 [.slice a' (List.map expT ts).length c'])] = N
    have hMN : M1.le N := hN ▸ PHeap.le_add _ _
    have hb4 : rd N lb 0 1 [.slice a' (List.map expT ts).length c'] := hN ▸ rd_own' 0 rfl rfl (by simp)
    clear hN
    have htl : (List.map expT ts).length = ts.length := by simp
    refine EV.via (fun ρ' N' G' => ∃ ab ac mp av rv, LEc N N' ∧ VR N' ab noV ∧ get ρ' 4 = some (pv lb 0) ∧ get ρ' 6 = some (pv mp 0) ∧
      G' = [(mp, Cl 84 [.slice a' ts.length c', rowV av ts.length ts.length, rowV rv ts.length ts.length, .slice none 0 0, .slice none 0 0, .slice none 0 0, .slice none 0 0, rowV ab 3 ac, vi 0]), (av, Cl 3 (List.replicate ts.length (vi 0))), (rv, Cl 32 (List.replicate ts.length (.slice none 0 0)))]) ?_ ?_
    · intro k' key
      have hfl : ∀ (n : Nat) (v : Value), (List.replicate n [v]).flatten = List.replicate n v := fun n v => by simp
      repeat' first
          | (refine EV.any _ (List.Sublist.refl _) ?_; (conv => (arg 2; whnf)); simp only [push_cast, Int.cast_ofNat_Int, reduceIte, Nat.reduceEqDiff, reduceCtorEq, Nat.reduceAdd, Nat.reduceSub, Nat.reduceMul, Int.reduceToNat, Nat.reduceLeDiff, htl, hfl])
          | ((first | refine Con.callV (ref_nothingV_c) (PHeap.le_refl _) (fun b c M' hM hV => ?_) | with_reducible intro b | fail); try simp only [push_cast, Int.cast_ofNat_Int, reduceIte, Nat.reduceEqDiff, reduceCtorEq, Nat.reduceAdd, Nat.reduceSub, Nat.reduceMul, Int.reduceToNat, Nat.reduceLeDiff, htl, hfl])
          | (refine And.intro (by omega) ?_)
          | ((first | refine Exists.intro _ (And.intro (rd_M (by assumption)) ?_) | refine Exists.intro _ (Exists.intro _ (Exists.intro _ (And.intro (rd_M (by assumption)) ?_))) | fail); try simp only [push_cast, Int.cast_ofNat_Int, reduceIte, Nat.reduceEqDiff, reduceCtorEq, Nat.reduceAdd, Nat.reduceSub, Nat.reduceMul, Int.reduceToNat, Nat.reduceLeDiff, htl, hfl])
          | (refine And.intro (PHeap.le_refl _) (And.intro (fun p hp => List.mem_cons_of_mem _ hp) ?_))
          | (refine And.intro (PHeap.le_refl _) (And.intro (fun p hp => List.mem_cons_of_mem _ (List.mem_cons_of_mem _ hp)) ?_))
          | (refine And.intro LEc.h (And.intro (fun p hp => List.mem_cons_of_mem _ hp) ?_))
          | (refine And.intro LEc.h (And.intro (fun p hp => hp) ?_))
          | refine And.intro ?_ ?_
          | fail
      all_goals try first
        | exact LEc.h
        | exact absurd (by assumption) List.not_mem_nil
      all_goals
        first
          | refine EV.permG (G' := [_, (_, Cl 3 _), (_, Cl 32 _)]) ?_ (List.Perm.refl _)
          | refine EV.permG (G' := [_, (_, Cl 3 _), (_, Cl 32 _)]) ?_ (List.Perm.cons _ (List.Perm.swap _ _ _))
        exact key _ _ _ ⟨_, _, _, _, _, inferInstance, by assumption, rfl, rfl, rfl⟩
    rintro ρ1 N1 G1 ⟨ab, ac, mp, av, rv, hN1, hab, h4, h6, rfl⟩
    refine EV.to (ρ' := [(4, pv lb 0), (6, pv mp 0)]) ?_ (fun q hq => by
      simp only [List.mem_cons, List.not_mem_nil, or_false] at hq
      rcases hq with rfl | rfl
      · exact h4
      · exact h6) (List.Sublist.refl _)
    repeat' first
        | refine EV.seq ?_
        | refine EV.block ?_
        | (refine EV.reg ?_; (conv => (arg 2; whnf)); simp only [push_cast, Int.cast_ofNat_Int, reduceIte, Nat.reduceEqDiff, reduceCtorEq, Nat.reduceAdd, Nat.reduceSub, Nat.reduceMul, Int.reduceToNat, Nat.reduceLeDiff])
        | fail
    refine EV.to (ρ' := [(4, pv lb 0), (6, pv mp 0), (7, vi (0 : Nat))]) (G' := (mp, Cl 84 [.slice a' ts.length c', rowV av ts.length ts.length, rowV rv ts.length ts.length, osv none 0, .slice none 0 0, .slice none 0 0, .slice none 0 0, rowV ab 3 ac, vi 0]) :: (av, Cl 3 (List.replicate ts.length (vi 0))) :: (rv, Cl 32 (List.replicate ts.length (.slice none 0 0))) :: (osg 87 none (rowsL (fun _ => (0, 0, 0)) 0) ++ msgsL (fun _ => (0, 0, 0)) 0)) ?_ ?env1 (List.Sublist.refl _)
    case env1 =>
      repeat' first
        | (refine List.forall_mem_cons.2 (And.intro ?_ ?_))
        | (intro _ hnil; cases hnil; done)
        | rfl
        | fail
    refine EV.loop (fun x : Nat × PHeap × Vec × Nw => ([(4, pv lb 0), (6, pv mp 0), (7, vi x.1)], x.2.1, (mp, Cl 84 [.slice a' ts.length c', rowV av ts.length ts.length, rowV rv ts.length ts.length, osv x.2.2.1 x.1, .slice none 0 0, .slice none 0 0, .slice none 0 0, rowV ab 3 ac, vi 0]) :: (av, Cl 3 (List.replicate ts.length (vi 0))) :: (rv, Cl 32 (List.replicate ts.length (.slice none 0 0))) :: (osg 87 x.2.2.1 (rowsL x.2.2.2 x.1) ++ msgsL x.2.2.2 x.1)))
      (fun x => x.1 ≤ 3 ∧ N1.le x.2.1 ∧ osok 1 x.2.2.1 x.1 (rowsL x.2.2.2 x.1) ∧ ∀ j, j < x.1 → VR x.2.1 (x.2.2.2 j).2.1 noV) (fun x => 3 - x.1) (0, N1, none, fun _ => (0, 0, 0)) ⟨Nat.zero_le _, PHeap.le_refl _, ⟨rfl, rfl⟩, fun j hj => absurd hj (Nat.not_lt_zero _)⟩ ?_
    rintro ⟨k, Nk, om, g⟩ ⟨hk3, hNk, hom, hg⟩ ih
    dsimp only at hk3 hNk hom hg ih ⊢
    repeat' first
        | refine EV.seq ?_
        | refine EV.skip ?_
        | refine EV.block ?_
        | (refine EV.reg ?_; (conv => (arg 2; whnf)); simp only [push_cast, Int.cast_ofNat_Int, reduceIte, Nat.reduceEqDiff, reduceCtorEq, Nat.reduceAdd, Nat.reduceSub, Nat.reduceMul, Int.reduceToNat, Nat.reduceLeDiff])
        | ((refine EV.cond rfl (fun h => ?_) (fun h => ?_) <;> try simp only [reduceCtorEq, reduceIte, if_true, if_false, Bool.not_eq_true', Bool.not_eq_false', decide_eq_true_eq, decide_eq_false_iff_not, Bool.and_eq_true, Bool.or_eq_true, Bool.and_eq_false_iff, Bool.or_eq_false_iff] at h) <;> try (exfalso; first | exact h True.intro | (exact h; done) | omega | (simp only [not_true_eq_false, false_or, or_false] at h; omega)))
        | (refine EV.exit rfl ?_)
        | (refine xw ?_; simp only [push_cast, Int.cast_ofNat_Int, reduceIte, Nat.reduceEqDiff, reduceCtorEq, Nat.reduceAdd, Nat.reduceSub, Nat.reduceMul, Int.reduceToNat, Nat.reduceLeDiff])
        | fail
    · have hk' : k < 3 := by omega
      refine EV.any (t := Q43_7) _ (sub3 (List.sublist_append_right _ _)) ?_
      simp only [push_cast, Int.cast_ofNat_Int, reduceIte, Nat.reduceEqDiff, reduceCtorEq, Nat.reduceAdd, Nat.reduceSub, Nat.reduceMul, Int.reduceToNat, Nat.reduceLeDiff, Q43_7]
      repeat' first
          | ((first | refine Con.callV (ref_nothingV_c) (PHeap.le_refl _) (fun b c M' hM hV => ?_) | refine xs rfl (by simp only [List.length_cons, List.length_nil]; omega) ?_ | fail); try simp only [push_cast, Int.cast_ofNat_Int, reduceIte, Nat.reduceEqDiff, reduceCtorEq, Nat.reduceAdd, Nat.reduceSub, Nat.reduceMul, Int.reduceToNat, Nat.reduceLeDiff])
          | fail
      refine And.intro hM.h (And.intro (mem_of_sub (sub3 (List.sublist_append_right _ _))) fun b1 => And.intro (PHeap.le_refl _) (And.intro (mem_of_sub (List.Sublist.cons _ (sub3 (List.sublist_append_right _ _)))) fun b2 => And.intro (PHeap.le_refl _) (And.intro (mem_of_sub (List.Sublist.cons _ (List.Sublist.cons _ (sub3 (List.sublist_append_right _ _))))) ?_)))
      refine ⟨_, Or.inr ⟨_, 0, rfl, rd_own' 0 rfl rfl (by simp)⟩, by simp [ok1_cons, ok1_nil, Value.oneCell'], Or.inl ⟨_, _, rfl, _, hom, _, cat_pull [[_, _, _, _, _], osg 87 om (rowsL g k), msgsL g k] 1 (by simp), ?_, ?_, ?_⟩⟩
      · simp only [maxLen]; omega
      · omega
      intro o1 ho1 _
      simp only [List.eraseIdx_cons_succ, List.eraseIdx_cons_zero, List.getElem_cons_succ, List.getElem_cons_zero, cat_two, cat_one, cat_nil, List.nil_append, List.cons_append, List.append_assoc, List.append_nil]
      refine And.intro (PHeap.le_refl _) (And.intro (mem_of_sub (List.Sublist.cons _ (List.Sublist.cons _ (sub3 (List.sublist_append_left _ _))))) ?_)
      repeat' first
          | refine EV.inBlock ?_
          | (refine EV.reg ?_; (conv => (arg 2; whnf)); simp only [push_cast, Int.cast_ofNat_Int, reduceIte, Nat.reduceEqDiff, reduceCtorEq, Nat.reduceAdd, Nat.reduceSub, Nat.reduceMul, Int.reduceToNat, Nat.reduceLeDiff])
          | (refine xw ?_; simp only [push_cast, Int.cast_ofNat_Int, reduceIte, Nat.reduceEqDiff, reduceCtorEq, Nat.reduceAdd, Nat.reduceSub, Nat.reduceMul, Int.reduceToNat, Nat.reduceLeDiff])
          | fail
      refine EV.permG ?_ (cat_move [[_], [_], [_, _, _], msgsL g k, osg 87 o1 _] 1 4 (by simp) (by simp))
      simp only [List.eraseIdx_cons_succ, List.eraseIdx_cons_zero, List.getElem_cons_succ, List.getElem_cons_zero, List.insertIdx_zero, List.insertIdx_succ_cons, cat_two, cat_one, cat_nil, List.nil_append, List.cons_append, List.append_assoc, List.append_nil]
      refine EV.drop1 ?_
      refine EV.permG ?_ (cat_move [[_, _, _], msgsL g k, osg 87 o1 _, [_]] 2 1 (by simp) (by simp))
      simp only [List.eraseIdx_cons_succ, List.eraseIdx_cons_zero, List.getElem_cons_succ, List.getElem_cons_zero, List.insertIdx_zero, List.insertIdx_succ_cons, cat_two, cat_one, cat_nil, List.nil_append, List.cons_append, List.append_assoc, List.append_nil]
      have ih3 := ih (k + 1, M', o1, upd g k (b1, b, c)) ⟨by dsimp only; omega, PHeap.le_trans hNk hM.h, by dsimp only; rw [rowsL_upd]; exact ho1, fun j hj => ?_⟩ (by dsimp only; omega)
      · simp only [rowsL_upd, msgsL_upd] at ih3
        refine EV.to ih3 ?_ (by (repeat' first | exact List.Sublist.refl _ | exact List.nil_sublist _ | exact List.sublist_append_left _ _ | refine List.Sublist.cons_cons _ ?_ | refine List.Sublist.append_left ?_ _ | refine List.sublist_append_of_sublist_right ?_ | refine List.Sublist.cons _ ?_))
        repeat' first
          | (refine List.forall_mem_cons.2 (And.intro ?_ ?_))
          | (intro _ hnil; cases hnil; done)
          | rfl
          | (refine env_w64 rfl (by first | rfl | (push_cast; first | rfl | omega)) (by omega) (by omega); done)
          | fail
      · dsimp only at hj ⊢
        by_cases e : j = k
        · subst e; rw [upd_at]; exact hV
        · simp only [upd, if_neg e]; exact (hg j (by omega)).mono hM.h
    · have e : k = 3 := by omega
      subst e
      repeat' first
          | fail
      refine EV.to (ρ' := [(4, pv lb 0), (6, pv mp 0), (8, vi (0 : Nat))]) (G' := (mp, Cl 84 [.slice a' ts.length c', rowV av ts.length ts.length, rowV rv ts.length ts.length, osv om 3, osv none 0, osv none 0, osv none 0, rowV ab 3 ac, vi 3]) :: (av, Cl 3 (List.replicate ts.length (vi 0))) :: (rv, Cl 32 (List.replicate ts.length (.slice none 0 0))) :: (osg 87 om (rowsL g 3) ++ (osg 32 none (rowsV (fun _ => (0, 0)) 0) ++ (osg 32 none (rowsV (fun _ => (0, 0)) 0) ++ (osg 32 none (rowsV (fun _ => (0, 0)) 0) ++ msgsL g 3))))) ?_ ?env2 (List.Sublist.refl _)
      case env2 =>
        repeat' first
          | (refine List.forall_mem_cons.2 (And.intro ?_ ?_))
          | (intro _ hnil; cases hnil; done)
          | rfl
          | fail
      refine EV.loop (fun x : Nat × PHeap × (Vec × Vec × Vec) × ((Nat → Nat × Nat) × (Nat → Nat × Nat) × (Nat → Nat × Nat)) => ([(4, pv lb 0), (6, pv mp 0), (8, vi x.1)], x.2.1, (mp, Cl 84 [.slice a' ts.length c', rowV av ts.length ts.length, rowV rv ts.length ts.length, osv om 3, osv x.2.2.1.1 x.1, osv x.2.2.1.2.1 x.1, osv x.2.2.1.2.2 x.1, rowV ab 3 ac, vi 3]) :: (av, Cl 3 (List.replicate ts.length (vi 0))) :: (rv, Cl 32 (List.replicate ts.length (.slice none 0 0))) :: (osg 87 om (rowsL g 3) ++ (osg 32 x.2.2.1.1 (rowsV x.2.2.2.1 x.1) ++ (osg 32 x.2.2.1.2.1 (rowsV x.2.2.2.2.1 x.1) ++ (osg 32 x.2.2.1.2.2 (rowsV x.2.2.2.2.2 x.1) ++ msgsL g 3))))))
        (fun x => x.1 ≤ ts.length ∧ Nk.le x.2.1 ∧ osok 1 x.2.2.1.1 x.1 (rowsV x.2.2.2.1 x.1) ∧ osok 1 x.2.2.1.2.1 x.1 (rowsV x.2.2.2.2.1 x.1) ∧ osok 1 x.2.2.1.2.2 x.1 (rowsV x.2.2.2.2.2 x.1) ∧ ∀ j, j < x.1 → VR x.2.1 (x.2.2.2.1 j).1 noV ∧ VR x.2.1 (x.2.2.2.2.1 j).1 noV ∧ VR x.2.1 (x.2.2.2.2.2 j).1 noV)
        (fun x => ts.length - x.1) (0, Nk, (none, none, none), ((fun _ => (0, 0)), (fun _ => (0, 0)), (fun _ => (0, 0)))) ⟨Nat.zero_le _, PHeap.le_refl _, ⟨rfl, rfl⟩, ⟨rfl, rfl⟩, ⟨rfl, rfl⟩, fun j hj => absurd hj (Nat.not_lt_zero _)⟩ ?_
      rintro ⟨t, Nt, ⟨on, og, od⟩, ⟨fn, fg, fd⟩⟩ ⟨ht, hNt, hon, hog, hod, hf⟩ ih2
      dsimp only at ht hNt hon hog hod hf ih2 ⊢
      have hb5 : rd Nt lb 0 1 [.slice a' ts.length c'] := (((htl ▸ hb4).mono hN1.h).mono hNk).mono hNt
      repeat' first
          | refine EV.seq ?_
          | refine EV.skip ?_
          | refine EV.block ?_
          | (refine EV.reg ?_; (conv => (arg 2; whnf)); simp only [push_cast, Int.cast_ofNat_Int, reduceIte, Nat.reduceEqDiff, reduceCtorEq, Nat.reduceAdd, Nat.reduceSub, Nat.reduceMul, Int.reduceToNat, Nat.reduceLeDiff])
          | ((refine EV.cond rfl (fun h => ?_) (fun h => ?_) <;> try simp only [reduceCtorEq, reduceIte, if_true, if_false, Bool.not_eq_true', Bool.not_eq_false', decide_eq_true_eq, decide_eq_false_iff_not, Bool.and_eq_true, Bool.or_eq_true, Bool.and_eq_false_iff, Bool.or_eq_false_iff] at h) <;> try (exfalso; first | exact h True.intro | (exact h; done) | omega | (simp only [not_true_eq_false, false_or, or_false] at h; omega)))
          | (refine EV.exit rfl ?_)
          | (refine Exists.intro _ (Exists.intro _ (Exists.intro _ (And.intro (rd_M (by assumption)) ?_))); try simp only [push_cast, Int.cast_ofNat_Int, reduceIte, Nat.reduceEqDiff, reduceCtorEq, Nat.reduceAdd, Nat.reduceSub, Nat.reduceMul, Int.reduceToNat, Nat.reduceLeDiff])
          | fail
      · refine EV.any (t := Q43_12) _ (sub3 (List.Sublist.append_left (List.sublist_append_right _ _) _)) ?_
        simp only [push_cast, Int.cast_ofNat_Int, reduceIte, Nat.reduceEqDiff, reduceCtorEq, Nat.reduceAdd, Nat.reduceSub, Nat.reduceMul, Int.reduceToNat, Nat.reduceLeDiff, Q43_12]
        repeat' first
            | ((first | refine Con.callV (ref_nothingV_c) (PHeap.le_refl _) (fun b c M' hM hV => ?_) | refine xs rfl (by simp only [List.length_cons, List.length_nil]; omega) ?_ | fail); try simp only [push_cast, Int.cast_ofNat_Int, reduceIte, Nat.reduceEqDiff, reduceCtorEq, Nat.reduceAdd, Nat.reduceSub, Nat.reduceMul, Int.reduceToNat, Nat.reduceLeDiff])
            | fail
        obtain ⟨x2, hx2⟩ : ∃ x, x = b := ⟨_, rfl⟩
        obtain ⟨y2, hy2⟩ : ∃ x, x = c := ⟨_, rfl⟩
        obtain ⟨N2, hN2⟩ : ∃ x, x = M' := ⟨_, rfl⟩
        subst hx2 hy2 hN2
        have hL2 := hM.h
        have hV2 := hV
        refine And.intro hM.h (And.intro (mem_of_sub (sub3 (List.Sublist.append_left (List.sublist_append_right _ _) _))) fun b2 => And.intro (PHeap.le_refl _) (And.intro (mem_of_sub (List.Sublist.cons _ (sub3 (List.Sublist.append_left (List.sublist_append_right _ _) _)))) ?_))
        refine ⟨_, Or.inr ⟨_, 0, rfl, rd_own' 0 rfl rfl (by simp)⟩, by simp [ok1_cons, ok1_nil, Value.oneCell'], Or.inl ⟨_, _, rfl, _, hon, _, cat_pull [[_, _, _, _], osg 87 om (rowsL g 3), osg 32 on (rowsV fn t), osg 32 og (rowsV fg t), osg 32 od (rowsV fd t), msgsL g 3] 2 (by simp), ?_, ?_, ?_⟩⟩
        · simp only [maxLen]; omega
        · omega
        intro o1 ho1 _
        simp only [List.eraseIdx_cons_succ, List.eraseIdx_cons_zero, List.getElem_cons_succ, List.getElem_cons_zero, cat_two, cat_one, cat_nil, List.nil_append, List.cons_append, List.append_assoc, List.append_nil]
        refine And.intro (PHeap.le_refl _) (And.intro (mem_of_sub (List.Sublist.cons _ (sub3 (List.Sublist.append_left (List.Sublist.append_left (List.Sublist.append_left (List.sublist_append_left _ _) _) _) _)))) ?_)
        repeat' first
            | refine EV.seq ?_
            | (refine xw ?_; simp only [push_cast, Int.cast_ofNat_Int, reduceIte, Nat.reduceEqDiff, reduceCtorEq, Nat.reduceAdd, Nat.reduceSub, Nat.reduceMul, Int.reduceToNat, Nat.reduceLeDiff])
            | fail
        refine EV.drop1 ?_
        refine EV.permG ?_ (cat_move [[_, _, _], osg 87 om (rowsL g 3), osg 32 og (rowsV fg t), osg 32 od (rowsV fd t), msgsL g 3, osg 32 o1 _] 5 2 (by simp) (by simp))
        simp only [List.eraseIdx_cons_succ, List.eraseIdx_cons_zero, List.getElem_cons_succ, List.getElem_cons_zero, List.insertIdx_zero, List.insertIdx_succ_cons, cat_two, cat_one, cat_nil, List.nil_append, List.cons_append, List.append_assoc, List.append_nil]
        refine EV.any (t := Q43_13) _ (sub3 (List.Sublist.append_left (List.Sublist.append_left (List.sublist_append_right _ _) _) _)) ?_
        simp only [push_cast, Int.cast_ofNat_Int, reduceIte, Nat.reduceEqDiff, reduceCtorEq, Nat.reduceAdd, Nat.reduceSub, Nat.reduceMul, Int.reduceToNat, Nat.reduceLeDiff, Q43_13]
        repeat' first
            | ((first | refine Con.callV (ref_nothingV_c) (PHeap.le_refl _) (fun b c M' hM hV => ?_) | refine xs rfl (by simp only [List.length_cons, List.length_nil]; omega) ?_ | fail); try simp only [push_cast, Int.cast_ofNat_Int, reduceIte, Nat.reduceEqDiff, reduceCtorEq, Nat.reduceAdd, Nat.reduceSub, Nat.reduceMul, Int.reduceToNat, Nat.reduceLeDiff])
            | fail
        obtain ⟨x3, hx3⟩ : ∃ x, x = b := ⟨_, rfl⟩
        obtain ⟨y3, hy3⟩ : ∃ x, x = c := ⟨_, rfl⟩
        obtain ⟨N3, hN3⟩ : ∃ x, x = M' := ⟨_, rfl⟩
        subst hx3 hy3 hN3
        have hL3 := hM.h
        have hV3 := hV
        refine And.intro hM.h (And.intro (mem_of_sub (sub3 (List.Sublist.append_left (List.Sublist.append_left (List.sublist_append_right _ _) _) _))) fun b3 => And.intro (PHeap.le_refl _) (And.intro (mem_of_sub (List.Sublist.cons _ (sub3 (List.Sublist.append_left (List.Sublist.append_left (List.sublist_append_right _ _) _) _)))) ?_))
        refine ⟨_, Or.inr ⟨_, 0, rfl, rd_own' 0 rfl rfl (by simp)⟩, by simp [ok1_cons, ok1_nil, Value.oneCell'], Or.inl ⟨_, _, rfl, _, hog, _, cat_pull [[_, _, _, _], osg 87 om (rowsL g 3), osg 32 o1 _, osg 32 og (rowsV fg t), osg 32 od (rowsV fd t), msgsL g 3] 3 (by simp), ?_, ?_, ?_⟩⟩
        · simp only [maxLen]; omega
        · omega
        intro o2 ho2 _
        simp only [List.eraseIdx_cons_succ, List.eraseIdx_cons_zero, List.getElem_cons_succ, List.getElem_cons_zero, cat_two, cat_one, cat_nil, List.nil_append, List.cons_append, List.append_assoc, List.append_nil]
        refine And.intro (PHeap.le_refl _) (And.intro (mem_of_sub (List.Sublist.cons _ (sub3 (List.Sublist.append_left (List.Sublist.append_left (List.Sublist.append_left (List.sublist_append_left _ _) _) _) _)))) ?_)
        repeat' first
            | (refine xw ?_; simp only [push_cast, Int.cast_ofNat_Int, reduceIte, Nat.reduceEqDiff, reduceCtorEq, Nat.reduceAdd, Nat.reduceSub, Nat.reduceMul, Int.reduceToNat, Nat.reduceLeDiff])
            | fail
        refine EV.drop1 ?_
        refine EV.permG ?_ (cat_move [[_, _, _], osg 87 om (rowsL g 3), osg 32 o1 _, osg 32 od (rowsV fd t), msgsL g 3, osg 32 o2 _] 5 3 (by simp) (by simp))
        simp only [List.eraseIdx_cons_succ, List.eraseIdx_cons_zero, List.getElem_cons_succ, List.getElem_cons_zero, List.insertIdx_zero, List.insertIdx_succ_cons, cat_two, cat_one, cat_nil, List.nil_append, List.cons_append, List.append_assoc, List.append_nil]
        refine EV.any (t := Q43_14) _ (sub3 (List.Sublist.append_left (List.Sublist.append_left (List.Sublist.append_left (List.sublist_append_right _ _) _) _) _)) ?_
        simp only [push_cast, Int.cast_ofNat_Int, reduceIte, Nat.reduceEqDiff, reduceCtorEq, Nat.reduceAdd, Nat.reduceSub, Nat.reduceMul, Int.reduceToNat, Nat.reduceLeDiff, Q43_14]
        repeat' first
            | ((first | refine Con.callV (ref_nothingV_c) (PHeap.le_refl _) (fun b c M' hM hV => ?_) | refine xs rfl (by simp only [List.length_cons, List.length_nil]; omega) ?_ | fail); try simp only [push_cast, Int.cast_ofNat_Int, reduceIte, Nat.reduceEqDiff, reduceCtorEq, Nat.reduceAdd, Nat.reduceSub, Nat.reduceMul, Int.reduceToNat, Nat.reduceLeDiff])
            | fail
        obtain ⟨x4, hx4⟩ : ∃ x, x = b := ⟨_, rfl⟩
        obtain ⟨y4, hy4⟩ : ∃ x, x = c := ⟨_, rfl⟩
        obtain ⟨N4, hN4⟩ : ∃ x, x = M' := ⟨_, rfl⟩
        subst hx4 hy4 hN4
        have hL4 := hM.h
        have hV4 := hV
        refine And.intro hM.h (And.intro (mem_of_sub (sub3 (List.Sublist.append_left (List.Sublist.append_left (List.Sublist.append_left (List.sublist_append_right _ _) _) _) _))) fun b4 => And.intro (PHeap.le_refl _) (And.intro (mem_of_sub (List.Sublist.cons _ (sub3 (List.Sublist.append_left (List.Sublist.append_left (List.Sublist.append_left (List.sublist_append_right _ _) _) _) _)))) ?_))
        refine ⟨_, Or.inr ⟨_, 0, rfl, rd_own' 0 rfl rfl (by simp)⟩, by simp [ok1_cons, ok1_nil, Value.oneCell'], Or.inl ⟨_, _, rfl, _, hod, _, cat_pull [[_, _, _, _], osg 87 om (rowsL g 3), osg 32 o1 _, osg 32 o2 _, osg 32 od (rowsV fd t), msgsL g 3] 4 (by simp), ?_, ?_, ?_⟩⟩
        · simp only [maxLen]; omega
        · omega
        intro o3 ho3 _
        simp only [List.eraseIdx_cons_succ, List.eraseIdx_cons_zero, List.getElem_cons_succ, List.getElem_cons_zero, cat_two, cat_one, cat_nil, List.nil_append, List.cons_append, List.append_assoc, List.append_nil]
        refine And.intro (PHeap.le_refl _) (And.intro (mem_of_sub (List.Sublist.cons _ (sub3 (List.Sublist.append_left (List.Sublist.append_left (List.Sublist.append_left (List.sublist_append_left _ _) _) _) _)))) ?_)
        repeat' first
            | refine EV.inBlock ?_
            | (refine EV.reg ?_; (conv => (arg 2; whnf)); simp only [push_cast, Int.cast_ofNat_Int, reduceIte, Nat.reduceEqDiff, reduceCtorEq, Nat.reduceAdd, Nat.reduceSub, Nat.reduceMul, Int.reduceToNat, Nat.reduceLeDiff])
            | (refine xw ?_; simp only [push_cast, Int.cast_ofNat_Int, reduceIte, Nat.reduceEqDiff, reduceCtorEq, Nat.reduceAdd, Nat.reduceSub, Nat.reduceMul, Int.reduceToNat, Nat.reduceLeDiff])
            | fail
        refine EV.drop1 ?_
        refine EV.permG ?_ (cat_move [[_, _, _], osg 87 om (rowsL g 3), osg 32 o1 _, osg 32 o2 _, msgsL g 3, osg 32 o3 _] 5 4 (by simp) (by simp))
        simp only [List.eraseIdx_cons_succ, List.eraseIdx_cons_zero, List.getElem_cons_succ, List.getElem_cons_zero, List.insertIdx_zero, List.insertIdx_succ_cons, cat_two, cat_one, cat_nil, List.nil_append, List.cons_append, List.append_assoc, List.append_nil]
        have ht' : t < ts.length := by omega
        have ih3 := ih2 (t + 1, N4, (o1, o2, o3), (upd fn t (x2, y2), upd fg t (x3, y3), upd fd t (x4, y4))) ⟨by dsimp only; omega, PHeap.le_trans hNt (PHeap.le_trans hL2 (PHeap.le_trans hL3 hL4)), by dsimp only; rw [rowsV_upd]; exact ho1, by dsimp only; rw [rowsV_upd]; exact ho2, by dsimp only; rw [rowsV_upd]; exact ho3, fun j hj => ?_⟩ (by dsimp only; omega)
        · simp only [rowsV_upd] at ih3
          refine EV.to ih3 ?_ (by (repeat' first | exact List.Sublist.refl _ | exact List.nil_sublist _ | exact List.sublist_append_left _ _ | refine List.Sublist.cons_cons _ ?_ | refine List.Sublist.append_left ?_ _ | refine List.sublist_append_of_sublist_right ?_ | refine List.Sublist.cons _ ?_))
          repeat' first
            | (refine List.forall_mem_cons.2 (And.intro ?_ ?_))
            | (intro _ hnil; cases hnil; done)
            | rfl
            | (refine env_w64 rfl (by first | rfl | (push_cast; first | rfl | omega)) (by omega) (by omega); done)
            | fail
        · dsimp only at hj ⊢
          by_cases e : j = t
          · subst e
            rw [upd_at, upd_at, upd_at]
            exact ⟨(hV2.mono hL3).mono hL4, hV3.mono hL4, hV4⟩
          · simp only [upd, if_neg e]
            obtain ⟨k1, k2, k3⟩ := hf j (by omega)
            have hL := PHeap.le_trans hL2 (PHeap.le_trans hL3 hL4)
            exact ⟨k1.mono hL, k2.mono hL, k3.mono hL⟩
      · have e : t = ts.length := by omega
        subst e
        repeat' first
            | fail
        have hn0 : ts.length ≠ 0 := by omega
        obtain ⟨⟨l1, l2, l3⟩, rfl⟩ : ∃ x, om = some x := by
          cases om with
          | none => exact absurd hom.1 (by omega)
          | some x => exact ⟨x, rfl⟩
        obtain ⟨⟨n1, n2, n3⟩, rfl⟩ : ∃ x, on = some x := by
          cases on with
          | none => exact absurd hon.1 hn0
          | some x => exact ⟨x, rfl⟩
        obtain ⟨⟨g1, g2, g3⟩, rfl⟩ : ∃ x, og = some x := by
          cases og with
          | none => exact absurd hog.1 hn0
          | some x => exact ⟨x, rfl⟩
        obtain ⟨⟨d1, d2, d3⟩, rfl⟩ : ∃ x, od = some x := by
          cases od with
          | none => exact absurd hod.1 hn0
          | some x => exact ⟨x, rfl⟩
        refine EV.ret Q43_ok ?_
        simp only [push_cast, Int.cast_ofNat_Int, reduceIte, Nat.reduceEqDiff, reduceCtorEq, Nat.reduceAdd, Nat.reduceSub, Nat.reduceMul, Int.reduceToNat, Nat.reduceLeDiff, Q43]
        refine .inr ⟨hck, mp, ⟨a', c', List.map expT ts, (av, ts.length, []), (rv, ts.length, []), (l1, l2, l3), (n1, n2, n3), (g1, g2, g3), (d1, d2, d3), newMv g, newLs g, newPt fn fg fd ts.length, ab, ac, noV, 3⟩, rfl, ?_, ⟨?_, ?_⟩, ⟨?_, ?_, ?_, ?_⟩, ?_⟩
        · simp only [RP.G, RP.hd, hdR, newPt_len, newPt_at, newPt_rd, newPt_now, newPt_gained, newPt_given, newPt_rds, newLs_lh, newLs_G, htl, List.append_nil]
          rfl
        · intro q hq
          obtain ⟨j, _, rfl⟩ := List.mem_map.1 hq
          exact ⟨rfl, rfl⟩
        · intro l hl
          dsimp only [newLs, newMv]
          rw [if_pos hl]; exact Nat.le_refl _
        · exact ((hs1.mono hMN).mono hN1.h).mono (PHeap.le_trans hNk hNt)
        · intro q hq
          obtain ⟨j, hj, rfl⟩ := List.mem_map.1 hq
          obtain ⟨k1, k2, k3⟩ := hf j (List.mem_range.1 hj)
          exact ⟨k1, k2, k3⟩
        · intro l hl q hq
          dsimp only [newLs] at hq
          rw [if_pos hl, List.mem_singleton] at hq
          subst hq
          exact (hg l hl).mono hNt
        · exact (hab.mono hNk).mono hNt
        · simp only [RP.rm, RM.new, newPt_th, List.map_map]
          congr 1
          · funext l
            simp only [newLs]
            split <;> rfl
          · rw [← range_const]
            simp [List.map_const', Function.comp_def]

end
end Go.EV

namespace Go.EV

section
variable {m : VM} {r : RM} {B : Nat}

theorem Sim.wf (s : Sim m r) (wf : m.Wf B) : r.Wf B := by
  have hth : ∀ i, i < m.thr.length → r.thr[i]!.at_ = m.thr[i]!.next ∧ r.thr[i]!.read = m.thr[i]!.read := fun i hi => ⟨(s.th i hi).at_, (s.th i hi).read⟩
  refine ⟨wf.b0, by rw [s.prog, s.tl]; exact wf.pl, by rw [s.tl]; exact wf.tp, by rw [s.tl]; exact wf.t3, ?_, by rw [s.prog]; exact wf.po, by rw [s.prog]; exact wf.pb, ?_, ?_, ?_, ⟨s.nx, by rw [s.ne]; have := wf.ml; omega⟩⟩
  · intro i hi
    rw [s.tl] at hi
    rw [(hth i hi).1, s.prog]; exact wf.nx i hi
  · intro l hl; rw [s.ll l hl]; exact wf.lp l hl
  · intro l hl; rw [s.ll l hl]; exact wf.ll l hl
  · intro t ht
    obtain ⟨i, hi, rfl⟩ := List.mem_iff_getElem.1 ht
    have hi' : i < m.thr.length := by rw [← s.tl]; exact hi
    rw [← getB hi, (hth i hi').2]
    exact rb_at wf hi'

theorem place_one (l : Nat) (n : Int) (f : Nat → List Int) (h : f l = [(l : Int)]) : place f l n = 0 := by
  unfold place
  rw [h]
  split
  · rename_i hm; rw [List.mem_singleton] at hm; subst hm; simp
  · rfl

theorem Sim.new (ts : List (List OpV)) : Sim (VM.new ts) (RM.new ts) := by
  have hln : ∀ l, l < 3 → (VM.new ts).line l = [(l : Int)] := fun l hl => by simp only [VM.new, if_pos hl]
  have hids : ∀ l, l < 3 → (RM.new ts).ids l = [(l : Int)] := fun l hl => by simp only [RM.ids, RM.new, if_pos hl, List.map_cons, List.map_nil]
  have hml : ((VM.new ts).msgs.length : Int) = 3 := rfl
  have la : Lns (VM.new ts).line (VM.new ts).msgs.length := by
    refine ⟨fun l hl => by rw [hln l hl]; simp, fun l hl x hx => ?_⟩
    rw [hln l hl, List.mem_singleton] at hx; rw [hml]; omega
  have lb : Lns (RM.new ts).ids (RM.new ts).next := by
    refine ⟨fun l hl => by rw [hids l hl]; simp, fun l hl x hx => ?_⟩
    rw [hids l hl, List.mem_singleton] at hx
    show 0 ≤ x ∧ x < 3
    omega
  have vv : ∀ a b : Vw, (∀ l, l < 3 → a l < 3) → (∀ l, l < 3 → b l < 3) → VV (VM.new ts).line (RM.new ts).ids (VM.new ts).msgs.length (RM.new ts).next a b := fun a b ha hb =>
    ⟨fun l hl => by rw [place_one l _ _ (hln l hl), place_one l _ _ (hids l hl)], ha, hb⟩
  have hno : ∀ l, l < 3 → noV l < 3 := fun l _ => by simp [noV]
  refine ⟨rfl, by simp [VM.new, RM.new], fun i hi => ?_, fun l hl => ?_, fun l hl i hi => ?_, la, lb, by show (0 : Int) ≤ 3; omega, rfl, vv _ _ hno hno⟩
  · have hi' : i < ts.length := by simpa [VM.new] using hi
    have e1 : (VM.new ts).thr[i]! = ⟨noV, noV, noV, [], 0⟩ := by rw [getB hi]; simp [VM.new]
    have e2 : (RM.new ts).thr[i]! = ⟨0, [], noV, noV, noV⟩ := by rw [getB (by simpa [RM.new] using hi')]; simp [RM.new]
    rw [e1, e2]
    exact ⟨rfl, rfl, vv _ _ hno hno, vv _ _ hno hno, vv _ _ hno hno, fun _ _ => Nat.le_refl _, fun _ _ => Nat.le_refl _⟩
  · rw [hln l hl]; simp only [RM.new, if_pos hl, List.length_singleton]
  · rw [hln l hl, List.length_singleton] at hi
    obtain rfl : i = 0 := by omega
    have e2 : ((RM.new ts).lists l)[0]! = ⟨l, 0, noV, false⟩ := by simp only [RM.new, if_pos hl]; rfl
    have e1 : (VM.new ts).msgAt l 0 = ⟨0, upd noV l l, false⟩ := by
      simp only [VM.msgAt, hln l hl]
      match l, hl with
      | 0, _ => rfl
      | 1, _ => rfl
      | 2, _ => rfl
    rw [e1, e2]
    refine ⟨rfl, rfl, vv _ _ (fun j hj => ?_) hno⟩
    simp only [upd]
    split
    · omega
    · simp [noV]

end
end Go.EV

namespace Go.EV
open Go.Proofs
section
variable {M : PHeap} {mp : Nat} {B : Nat}

set_option maxRecDepth 8000 in
set_option maxHeartbeats 8000000 in
theorem view_does_c (p : PM) (ok : p.Ok) (hpg : SlSl M 5 encOp (.slice p.pg p.prog.length p.pc) p.prog) (wf : p.vm.Wf B) (hB2 : B + 2 < 1000000) {w : Nat} (hw : w < p.pt.length) (hn : p.vm.thr[w]!.next ≠ p.prog[w]!.length) (o : OpV) (ho : okOpE o)
    (c : Nat × Bool) (hc : o.kind ≠ 5 → c.1 < (p.line o.loc.toNat).length) :
    Con Try.prog 31 #[pv mp 0, vi w, vop o, .agg #[vi c.1, vb c.2]] M (p.G mp) (Wrote mp p (p.vm.does w o c)) := by
  have hw0 : w < p.vm.thr.length := by simpa [PM.vm] using hw
  have wf1 := nexts_wf wf hw0 hn
  have hpl := wf.pl
  have hnx := wf.nx w hw0
  have hpb : p.prog[w]!.length < 1000000 := by
    have : w < p.prog.length := by have h := wf.pl; simp only [PM.vm] at h; rw [h]; simpa using hw
    rw [getB this]
    exact wf.pb _ (List.getElem_mem _)
  obtain ⟨kd, lo, v, w', od⟩ := o
  obtain ⟨o1, o2, o3, o4, o5⟩ := ho
  dsimp only at o1 o2 o3 o4 o5
  obtain ⟨l, rfl⟩ : ∃ l : Nat, lo = l := ⟨lo.toNat, by omega⟩
  have hl : l < 3 := by omega
  simp only [Int.toNat_natCast] at hc
  obtain ⟨ca, cw⟩ := c
  dsimp only at hc
  obtain ⟨pg, pc, mv, lv, tv, prog, msgs, line, all, pt⟩ := p
  obtain ⟨pA, ⟨t, ov⟩, pC, rfl, hpA⟩ := PM.split pt w hw
  have hA : (pA.flatMap encPT).length = w * 11 := by rw [encPT_len, hpA]
  have ht : (PM.vm ⟨pg, pc, mv, lv, tv, prog, msgs, line, all, pA ++ (t, ov) :: pC⟩).thr[w]! = t := by subst hpA; simp only [PM.vm, thr_at]
  rw [ht] at hn hnx
  dsimp only at hn hnx hpb hpg hc hw
  simp only [PM.vm] at hnx
  have hw1 : IntKind.i64.wrap ((t.next : Int) + 1) = ((t.next + 1 : Nat) : Int) := by rw [w64 (by omega) (by omega)]; omega
  obtain ⟨t1, ht1⟩ : ∃ t1 : Thr, t1 = ⟨t.now, t.gained, t.given, t.read, t.next + 1⟩ := ⟨_, rfl⟩
  obtain ⟨p1, hp1⟩ : ∃ p1 : PM, p1 = ⟨pg, pc, mv, lv, tv, prog, msgs, line, all, pA ++ (t1, ov) :: pC⟩ := ⟨_, rfl⟩
  have ok1 : p1.Ok := hp1 ▸ ok.thr t1 ov (ht1 ▸ ok.rk (t, ov) (by simp))
  have hvm1 : p1.vm = VM.nexts (PM.vm ⟨pg, pc, mv, lv, tv, prog, msgs, line, all, pA ++ (t, ov) :: pC⟩) w := by
    subst hpA hp1 ht1
    simp only [PM.vm, VM.nexts, VM.setThr, thr_at, thr_set pA pC t _ ov ov]
  have hpw1 : w < p1.pt.length := by rw [hp1]; simpa using hw
  have hline1 : p1.line = line := by rw [hp1]
  have hmsgs1 : p1.msgs = msgs := by rw [hp1]
  rw [← hvm1] at wf1
  refine Con.enter Q78_ok (args := [pv mp 0, vi w, vop ⟨kd, l, v, w', od⟩, .agg #[vi ca, vb cw]]) (by simp [Q78]) fun w0 => ?_
  simp only [Q78, argE, PM.G]
  rw [tc_of]
  refine EV.seq ?_
  refine EV.reg ?_
  simp only [push_cast, Int.cast_ofNat_Int, reduceIte, Nat.reduceEqDiff, reduceCtorEq, Nat.reduceAdd, Nat.reduceSub, Nat.reduceMul, Int.reduceToNat, Nat.reduceLeDiff, Q78_0]
  intro b6 b7
  refine EV.freeze (G₁ := [_, _]) ?_
  generalize hN : M.add [(b7, Cl 76 [vi ca, vb cw]), (b6, Cl 55 [vi kd, vi l, vi v, vi w', vi od])] = N
  have hMN : M.le N := hN ▸ PHeap.le_add _ _
  have hk0 : rd N b6 0 1 [vi kd] := hN ▸ rd_own' 1 rfl rfl (by simp)
  have hk1 : rd N b6 1 1 [vi l] := hN ▸ rd_own' 1 rfl rfl (by simp)
  have hk2 : rd N b6 2 1 [vi v] := hN ▸ rd_own' 1 rfl rfl (by simp)
  have hk3 : rd N b6 3 1 [vi w'] := hN ▸ rd_own' 1 rfl rfl (by simp)
  have hk5 : rd N b6 0 5 [vi kd, vi l, vi v, vi w', vi od] := hN ▸ rd_own' 1 rfl rfl (by simp)
  have hc0 : rd N b7 0 1 [vi ca] := hN ▸ rd_own' 0 rfl rfl (by simp)
  have hc1 : rd N b7 1 1 [vb cw] := hN ▸ rd_own' 0 rfl rfl (by simp)
  clear hN
  refine EV.seq ?_
  refine EV.reg ?_
  simp only [push_cast, Int.cast_ofNat_Int, reduceIte, Nat.reduceEqDiff, reduceCtorEq, Nat.reduceAdd, Nat.reduceSub, Nat.reduceMul, Int.reduceToNat, Nat.reduceLeDiff, Q78_1]
  have hperm : ∀ q : PM, (q.G mp).Perm (q.G mp ++ []) := fun q => by rw [List.append_nil]
  have hG1 : (mp, Cl 65 (hdL (.slice pg prog.length pc) (rowV mv.fst msgs.length mv.snd.fst) (lnH line lv) (rowV tv.fst (pA ++ (t, ov) :: pC).length tv.snd.fst) all)) ::
      (tv.fst, Cl 69 (tc (List.flatMap encPT pA) t.now t.gained t.given (osv ov t.read.length) (vi ((t.next + 1 : Nat) : Int)) (List.flatMap encPT pC ++ tv.snd.snd))) ::
      (mv.fst, Cl 67 (List.flatMap encMsg msgs ++ mv.snd.snd)) :: (lnG line lv ++ rdsG (pA ++ (t, ov) :: pC)) = p1.G mp := by
    rw [hp1, ht1]; simp only [PM.G, tc_of, rdsG_at, pt_len]
  have hcast : ((t.next : Int) + 1) = ((t.next + 1 : Nat) : Int) := by omega
  have hr1 := PM.rdM (M := N) (G := p1.G mp) ok1 (by rw [hp1]; exact hpg.mono hMN) (fun q h => h)
  by_cases h5 : kd = 5
  · repeat' first
      | refine EV.seq ?_
      | (refine EV.reg ?_; (conv => (arg 2; whnf)); simp only [push_cast, Int.cast_ofNat_Int, reduceIte, Nat.reduceEqDiff, reduceCtorEq, Nat.reduceAdd, Nat.reduceSub, Nat.reduceMul, Int.reduceToNat, Nat.reduceLeDiff, tc_len hA, hd_len, tc_st_next hA, hw1, h5])
      | ((first | refine Exists.intro _ (Exists.intro _ (Exists.intro _ (And.intro (rd_hd_th) ?_))) | refine Exists.intro _ (And.intro (rd_tc_next hA) ?_) | fail); try simp only [push_cast, Int.cast_ofNat_Int, reduceIte, Nat.reduceEqDiff, reduceCtorEq, Nat.reduceAdd, Nat.reduceSub, Nat.reduceMul, Int.reduceToNat, Nat.reduceLeDiff, tc_len hA, hd_len, tc_st_next hA, hw1, h5])
      | ((refine EV.cond rfl (fun h => ?_) (fun h => ?_) <;> try simp only [reduceCtorEq, reduceIte, if_true, if_false, Bool.not_eq_true', Bool.not_eq_false', decide_eq_true_eq, decide_eq_false_iff_not, Bool.and_eq_true, Bool.or_eq_true, Bool.and_eq_false_iff, Bool.or_eq_false_iff] at h) <;> try (exfalso; first | exact h True.intro | (exact h; done) | omega | (simp only [not_true_eq_false, false_or, or_false] at h; omega)))
      | (refine And.intro (by omega) ?_)
      | (refine Exists.intro _ (And.intro (rd_M (by assumption)) ?_); try simp only [push_cast, Int.cast_ofNat_Int, reduceIte, Nat.reduceEqDiff, reduceCtorEq, Nat.reduceAdd, Nat.reduceSub, Nat.reduceMul, Int.reduceToNat, Nat.reduceLeDiff, tc_len hA, hd_len, tc_st_next hA, hw1, h5])
      | (refine xw ?_; simp only [push_cast, Int.cast_ofNat_Int, reduceIte, Nat.reduceEqDiff, reduceCtorEq, Nat.reduceAdd, Nat.reduceSub, Nat.reduceMul, Int.reduceToNat, Nat.reduceLeDiff, tc_len hA, hd_len, tc_st_next hA, hw1, h5])
      | fail
    rw [hcast, hG1]
    refine Con.callB (Mr := N) (view_fenced_c p1 ok1 wf1 hpw1 ⟨5, l, v, w', od⟩ o5) (PHeap.le_add _ _) (hperm p1) ?_
    rintro v1 M1 G1 ⟨p2, rfl, ok2, hvm2, e1, e2⟩
    simp only [push_cast, Int.cast_ofNat_Int, reduceIte, Nat.reduceEqDiff, reduceCtorEq, Nat.reduceAdd, Nat.reduceSub, Nat.reduceMul, Int.reduceToNat, Nat.reduceLeDiff]
    repeat' first
        | fail
    refine EV.ret Q78_ok ?_
    simp only [push_cast, Int.cast_ofNat_Int, reduceIte, Nat.reduceEqDiff, reduceCtorEq, Nat.reduceAdd, Nat.reduceSub, Nat.reduceMul, Int.reduceToNat, Nat.reduceLeDiff, Q78]
    refine ⟨p2, rfl, ok2, ?_, by rw [e1, hp1], by rw [e2, hp1]⟩
    rw [hvm2, hvm1]
    simp only [VM.does, h5, if_true]
  · have ha := hc h5
    by_cases h1 : kd = 1
    · have hb1 : (!decide (kd = 1)) = false := by simp [h1]
      repeat' first
          | refine EV.seq ?_
          | refine EV.skip ?_
          | (refine EV.reg ?_; (conv => (arg 2; whnf)); simp only [push_cast, Int.cast_ofNat_Int, reduceIte, Nat.reduceEqDiff, reduceCtorEq, Nat.reduceAdd, Nat.reduceSub, Nat.reduceMul, Int.reduceToNat, Nat.reduceLeDiff, tc_len hA, hd_len, tc_st_next hA, hw1, hb1])
          | ((first | refine Exists.intro _ (Exists.intro _ (Exists.intro _ (And.intro (rd_hd_th) ?_))) | refine Exists.intro _ (And.intro (rd_tc_next hA) ?_) | fail); try simp only [push_cast, Int.cast_ofNat_Int, reduceIte, Nat.reduceEqDiff, reduceCtorEq, Nat.reduceAdd, Nat.reduceSub, Nat.reduceMul, Int.reduceToNat, Nat.reduceLeDiff, tc_len hA, hd_len, tc_st_next hA, hw1, hb1])
          | ((refine EV.cond rfl (fun h => ?_) (fun h => ?_) <;> try simp only [reduceCtorEq, reduceIte, if_true, if_false, Bool.not_eq_true', Bool.not_eq_false', decide_eq_true_eq, decide_eq_false_iff_not, Bool.and_eq_true, Bool.or_eq_true, Bool.and_eq_false_iff, Bool.or_eq_false_iff] at h) <;> try (exfalso; first | exact h True.intro | (exact h; done) | omega | (simp only [not_true_eq_false, false_or, or_false] at h; omega)))
          | (refine And.intro (by omega) ?_)
          | (refine Exists.intro _ (And.intro (rd_M (by assumption)) ?_); try simp only [push_cast, Int.cast_ofNat_Int, reduceIte, Nat.reduceEqDiff, reduceCtorEq, Nat.reduceAdd, Nat.reduceSub, Nat.reduceMul, Int.reduceToNat, Nat.reduceLeDiff, tc_len hA, hd_len, tc_st_next hA, hw1, hb1])
          | (refine xw ?_; simp only [push_cast, Int.cast_ofNat_Int, reduceIte, Nat.reduceEqDiff, reduceCtorEq, Nat.reduceAdd, Nat.reduceSub, Nat.reduceMul, Int.reduceToNat, Nat.reduceLeDiff, tc_len hA, hd_len, tc_st_next hA, hw1, hb1])
          | fail
      · rw [hcast, hG1]
        refine Con.callB (Mr := N) (view_writes_c p1 ok1 wf1 (by omega) hpw1 ca v ⟨kd, l, v, w', od⟩ ⟨o1, o2, o3, o4, o5⟩ (by rw [hline1]; simpa using ha) false) (PHeap.le_add _ _) (hperm p1) ?_
        rintro v1 M1 G1 ⟨p2, rfl, ok2, hvm2, e1, e2⟩
        simp only [push_cast, Int.cast_ofNat_Int, reduceIte, Nat.reduceEqDiff, reduceCtorEq, Nat.reduceAdd, Nat.reduceSub, Nat.reduceMul, Int.reduceToNat, Nat.reduceLeDiff]
        refine EV.done Q78_ok ?_
        simp only [push_cast, Int.cast_ofNat_Int, reduceIte, Nat.reduceEqDiff, reduceCtorEq, Nat.reduceAdd, Nat.reduceSub, Nat.reduceMul, Int.reduceToNat, Nat.reduceLeDiff, Q78]
        refine ⟨p2, rfl, ok2, ?_, by rw [e1, hp1], by rw [e2, hp1]⟩
        rw [hvm2, hvm1]
        simp only [VM.does, h5, h1, h, if_true, if_false, reduceCtorEq, reduceIte, Int.reduceEq]
      · rw [hcast, hG1]
        refine EV.done Q78_ok ?_
        simp only [push_cast, Int.cast_ofNat_Int, reduceIte, Nat.reduceEqDiff, reduceCtorEq, Nat.reduceAdd, Nat.reduceSub, Nat.reduceMul, Int.reduceToNat, Nat.reduceLeDiff, Q78]
        refine ⟨p1, rfl, ok1, ?_, by rw [hp1], by rw [hp1]⟩
        rw [hvm1]
        simp only [VM.does, h5, h1, h, if_true, if_false, reduceCtorEq, reduceIte, Int.reduceEq]
    · have hb1 : (!decide (kd = 1)) = true := by simp [h1]
      have hmem : (line l)[ca]! ∈ line l := by rw [getB ha]; exact List.getElem_mem _
      have hfr := wf.le l hl _ hmem
      simp only [PM.vm] at hfr
      obtain ⟨n, hn2⟩ : ∃ n : Nat, (line l)[ca]! = n := ⟨(line l)[ca]!.toNat, by omega⟩
      have hn3 : n < msgs.length := by omega
      repeat' first
          | refine EV.seq ?_
          | refine EV.skip ?_
          | ((first | refine EV.reg ?_ | refine EV.any _ (List.Sublist.refl _) ?_ | fail); (conv => (arg 2; whnf)); simp only [push_cast, Int.cast_ofNat_Int, reduceIte, Nat.reduceEqDiff, reduceCtorEq, Nat.reduceAdd, Nat.reduceSub, Nat.reduceMul, Int.reduceToNat, Nat.reduceLeDiff, tc_len hA, hd_len, tc_st_next hA, hw1, hb1])
          | ((first | refine Exists.intro _ (And.intro (rd_ln hl ha (fun q hq => by simp [hq])) ?_) | refine Exists.intro _ (Exists.intro _ (Exists.intro _ (And.intro (rd_hd_lnH (line := line) (lv := lv) hl) ?_))) | refine Exists.intro _ (Exists.intro _ (Exists.intro _ (And.intro (rd_hd_th) ?_))) | refine Exists.intro _ (And.intro (rd_tc_next hA) ?_) | fail); try simp only [push_cast, Int.cast_ofNat_Int, reduceIte, Nat.reduceEqDiff, reduceCtorEq, Nat.reduceAdd, Nat.reduceSub, Nat.reduceMul, Int.reduceToNat, Nat.reduceLeDiff, tc_len hA, hd_len, tc_st_next hA, hw1, hb1])
          | ((refine EV.cond rfl (fun h => ?_) (fun h => ?_) <;> try simp only [reduceCtorEq, reduceIte, if_true, if_false, Bool.not_eq_true', Bool.not_eq_false', decide_eq_true_eq, decide_eq_false_iff_not, Bool.and_eq_true, Bool.or_eq_true, Bool.and_eq_false_iff, Bool.or_eq_false_iff] at h) <;> try (exfalso; first | exact h True.intro | (exact h; done) | omega | (simp only [not_true_eq_false, false_or, or_false] at h; omega)))
          | (refine And.intro (by omega) ?_)
          | (refine Exists.intro _ (And.intro (rd_M (by assumption)) ?_); try simp only [push_cast, Int.cast_ofNat_Int, reduceIte, Nat.reduceEqDiff, reduceCtorEq, Nat.reduceAdd, Nat.reduceSub, Nat.reduceMul, Int.reduceToNat, Nat.reduceLeDiff, tc_len hA, hd_len, tc_st_next hA, hw1, hb1])
          | (refine xw ?_; simp only [push_cast, Int.cast_ofNat_Int, reduceIte, Nat.reduceEqDiff, reduceCtorEq, Nat.reduceAdd, Nat.reduceSub, Nat.reduceMul, Int.reduceToNat, Nat.reduceLeDiff, tc_len hA, hd_len, tc_st_next hA, hw1, hb1])
          | fail
      rw [hcast, hG1, hn2]
      refine Con.callB (Mr := N) (view_reads_c p1 ok1 wf1 hpw1 (n := n) (by rw [hmsgs1]; exact hn3) ⟨kd, l, v, w', od⟩ ⟨o1, o2, o3, o4, o5⟩) (PHeap.le_add _ _) (hperm p1) ?_
      rintro v1 M1 G1 ⟨p2, rfl, ok2, hvm2, e1, e2⟩
      simp only [push_cast, Int.cast_ofNat_Int, reduceIte, Nat.reduceEqDiff, reduceCtorEq, Nat.reduceAdd, Nat.reduceSub, Nat.reduceMul, Int.reduceToNat, Nat.reduceLeDiff]
      have hpg2 : p2.prog = prog := by have := congrArg VM.prog hvm2; rw [hvm1] at this; exact this
      have hms2 : p2.msgs = msgs := by have := congrArg VM.msgs hvm2; rw [hvm1] at this; exact this
      have hln2 : p2.line = line := by have := congrArg VM.line hvm2; rw [hvm1] at this; exact this
      have hpw2 : w < p2.pt.length := by
        have := congrArg (fun m : VM => m.thr.length) hvm2
        simp only [PM.vm, VM.reads, VM.setThr, List.length_map, List.length_set] at this
        omega
      have wf2 := reads_wf wf1 (by omega) (by simpa [PM.vm] using hpw1) (n : Int) (⟨kd, l, v, w', od⟩ : OpV)
      rw [← hvm2] at wf2
      have hr2 := PM.rdM (M := N) (G := p2.G mp) ok2 (by rw [e1, e2, hpg2, hp1]; exact hpg.mono hMN) (fun q h => h)
      have hf1 := hr2.f1
      have hwd := hr2.word (n := n) (by show n < p2.msgs.length; rw [hms2]; exact hn3)
      have hml2 : p2.vm.msgs = msgs := hms2
      rw [hml2] at hf1 hwd
      have e3 : p1.vm.line = line := hline1
      have e4 : p1.vm.msgs = msgs := hmsgs1
      have hdoes : VM.does (PM.vm ⟨pg, pc, mv, lv, tv, prog, msgs, line, all, pA ++ (t, ov) :: pC⟩) w ⟨kd, l, v, w', od⟩ (ca, cw) = if cw then p2.vm.writes w ca (if kd = 2 then IntKind.i64.wrap (msgs[n]!.word + v) else w') ⟨kd, l, v, w', od⟩ true else p2.vm := by
        simp only [VM.does, h5, h1, if_false]
        rw [← hvm1]
        simp only [e3, e4, Int.toNat_natCast, hn2, ← hvm2]
      rw [hdoes]
      repeat' first
          | refine EV.seq ?_
          | refine EV.skip ?_
          | ((first | refine EV.reg ?_ | refine EV.any _ (List.Sublist.refl _) ?_ | fail); (conv => (arg 2; whnf)); simp only [push_cast, Int.cast_ofNat_Int, reduceIte, Nat.reduceEqDiff, reduceCtorEq, Nat.reduceAdd, Nat.reduceSub, Nat.reduceMul, Int.reduceToNat, Nat.reduceLeDiff, hb1])
          | ((refine EV.cond rfl (fun h => ?_) (fun h => ?_) <;> try simp only [reduceCtorEq, reduceIte, if_true, if_false, Bool.not_eq_true', Bool.not_eq_false', decide_eq_true_eq, decide_eq_false_iff_not, Bool.and_eq_true, Bool.or_eq_true, Bool.and_eq_false_iff, Bool.or_eq_false_iff] at h) <;> try (exfalso; first | exact h True.intro | (exact h; done) | omega | (simp only [not_true_eq_false, false_or, or_false] at h; omega)))
          | (refine And.intro (by omega) ?_)
          | ((first | refine Exists.intro _ (And.intro (rd_M (by assumption)) ?_) | refine Exists.intro _ (And.intro (by assumption) ?_) | refine Exists.intro _ (Exists.intro _ (Exists.intro _ (And.intro (by assumption) ?_))) | fail); try simp only [push_cast, Int.cast_ofNat_Int, reduceIte, Nat.reduceEqDiff, reduceCtorEq, Nat.reduceAdd, Nat.reduceSub, Nat.reduceMul, Int.reduceToNat, Nat.reduceLeDiff, hb1])
          | fail
      · rename_i hk2
        refine Con.callB (Mr := N) (view_writes_c p2 ok2 wf2 (by omega) hpw2 ca (IntKind.i64.wrap (msgs[n]!.word + v)) ⟨kd, l, v, w', od⟩ ⟨o1, o2, o3, o4, o5⟩ (by rw [hln2]; simpa using ha) true) (PHeap.le_add _ _) (hperm p2) ?_
        rintro v1 M1 G1 ⟨p3, rfl, ok3, hvm3, f1, f2⟩
        simp only [push_cast, Int.cast_ofNat_Int, reduceIte, Nat.reduceEqDiff, reduceCtorEq, Nat.reduceAdd, Nat.reduceSub, Nat.reduceMul, Int.reduceToNat, Nat.reduceLeDiff]
        refine EV.done Q78_ok ?_
        simp only [push_cast, Int.cast_ofNat_Int, reduceIte, Nat.reduceEqDiff, reduceCtorEq, Nat.reduceAdd, Nat.reduceSub, Nat.reduceMul, Int.reduceToNat, Nat.reduceLeDiff, Q78]
        refine ⟨p3, rfl, ok3, ?_, by rw [f1, e1, hp1], by rw [f2, e2, hp1]⟩
        rw [hvm3, h, hk2]
        rfl
      · rename_i hk2
        refine EV.done Q78_ok ?_
        simp only [push_cast, Int.cast_ofNat_Int, reduceIte, Nat.reduceEqDiff, reduceCtorEq, Nat.reduceAdd, Nat.reduceSub, Nat.reduceMul, Int.reduceToNat, Nat.reduceLeDiff, Q78]
        refine ⟨p2, rfl, ok2, ?_, by rw [e1, hp1], by rw [e2, hp1]⟩
        rw [h]
        rfl
      · rename_i hk2
        refine Con.callB (Mr := N) (view_writes_c p2 ok2 wf2 (by omega) hpw2 ca w' ⟨kd, l, v, w', od⟩ ⟨o1, o2, o3, o4, o5⟩ (by rw [hln2]; simpa using ha) true) (PHeap.le_add _ _) (hperm p2) ?_
        rintro v1 M1 G1 ⟨p3, rfl, ok3, hvm3, f1, f2⟩
        simp only [push_cast, Int.cast_ofNat_Int, reduceIte, Nat.reduceEqDiff, reduceCtorEq, Nat.reduceAdd, Nat.reduceSub, Nat.reduceMul, Int.reduceToNat, Nat.reduceLeDiff]
        refine EV.done Q78_ok ?_
        simp only [push_cast, Int.cast_ofNat_Int, reduceIte, Nat.reduceEqDiff, reduceCtorEq, Nat.reduceAdd, Nat.reduceSub, Nat.reduceMul, Int.reduceToNat, Nat.reduceLeDiff, Q78]
        refine ⟨p3, rfl, ok3, ?_, by rw [f1, e1, hp1], by rw [f2, e2, hp1]⟩
        rw [hvm3, h, if_neg hk2]
        rfl
      · rename_i hk2
        refine EV.done Q78_ok ?_
        simp only [push_cast, Int.cast_ofNat_Int, reduceIte, Nat.reduceEqDiff, reduceCtorEq, Nat.reduceAdd, Nat.reduceSub, Nat.reduceMul, Int.reduceToNat, Nat.reduceLeDiff, Q78]
        refine ⟨p2, rfl, ok2, ?_, by rw [e1, hp1], by rw [e2, hp1]⟩
        rw [h]
        rfl

end
end Go.EV

namespace Go.EV
open Go.Proofs
section
variable {M : PHeap} {mp : Nat} {B : Nat}

def Stepped (mp : Nat) (p : PM) (r : VM × Int) (v : Value) (_ : PHeap) (G' : Own) : Prop :=
  v = vi r.2 ∧ ∃ p' : PM, G' = p'.G mp ∧ p'.Ok ∧ p'.vm = r.1 ∧ p'.pg = p.pg ∧ p'.pc = p.pc

theorem view_Step_nil_q (who number : Int) : ConQ Try.prog 11 #[.pointer none, vi who, vi number] M (vi 1) := by
  refine Con.enter Q74_ok (args := [.pointer none, vi who, vi number]) (by simp [Q74]) fun w0 => ?_
  simp only [Q74, argE]
  repeat' first
      | refine EV.seq ?_
      | (refine EV.reg ?_; (conv => (arg 2; whnf)); simp only [push_cast, Int.cast_ofNat_Int, reduceIte, Nat.reduceEqDiff, reduceCtorEq, Nat.reduceAdd, Nat.reduceSub, Nat.reduceMul, Int.reduceToNat, Nat.reduceLeDiff])
      | (refine ConQ.call (view_turn_nil_q _) ?_; try simp only [push_cast, Int.cast_ofNat_Int, reduceIte, Nat.reduceEqDiff, reduceCtorEq, Nat.reduceAdd, Nat.reduceSub, Nat.reduceMul, Int.reduceToNat, Nat.reduceLeDiff])
      | ((refine EV.cond rfl (fun h => ?_) (fun h => ?_) <;> try simp only [reduceCtorEq, reduceIte, if_true, if_false, Bool.not_eq_true', Bool.not_eq_false', decide_eq_true_eq, decide_eq_false_iff_not, Bool.and_eq_true, Bool.or_eq_true, Bool.and_eq_false_iff, Bool.or_eq_false_iff] at h) <;> try (exfalso; first | exact h True.intro | (exact h; done) | omega | (simp only [not_true_eq_false, false_or, or_false] at h; omega)))
      | (refine EV.ret Q74_ok ?_; simp only [push_cast, Int.cast_ofNat_Int, reduceIte, Nat.reduceEqDiff, reduceCtorEq, Nat.reduceAdd, Nat.reduceSub, Nat.reduceMul, Int.reduceToNat, Nat.reduceLeDiff, Q74])
      | (with_reducible intro b; try simp only [push_cast, Int.cast_ofNat_Int, reduceIte, Nat.reduceEqDiff, reduceCtorEq, Nat.reduceAdd, Nat.reduceSub, Nat.reduceMul, Int.reduceToNat, Nat.reduceLeDiff])
      | (refine xw ?_; simp only [push_cast, Int.cast_ofNat_Int, reduceIte, Nat.reduceEqDiff, reduceCtorEq, Nat.reduceAdd, Nat.reduceSub, Nat.reduceMul, Int.reduceToNat, Nat.reduceLeDiff])
      | fail


theorem osg_at {α : Type} [Inhabited α] {G : Own} {sz : Nat} {enc : α → List Value} (henc : ∀ x, (enc x).length = sz) {T : TypeId} {ob oc : Nat} {os : List Value} {xs : List α} (hok : osok sz (some (ob, oc, os)) xs.length (xs.flatMap enc))
    (hG : ∀ q ∈ osg T (some (ob, oc, os)) (xs.flatMap enc), q ∈ G) {i : Nat} (hi : i < xs.length) : rd (M.add G) ob (i * sz) sz (enc xs[i]!) := by
  have hl := flatMap_length henc xs
  have h0 := rd_mem0 (M := M) (G := G) (T := T) (b := ob) (xs := xs.flatMap enc) (sp := os) (hG _ (by simp [osg])) hl
  have hi2 : (i + 1) * sz ≤ xs.length * sz := Nat.mul_le_mul_right _ hi
  rw [Nat.succ_mul] at hi2
  rw [getB hi]
  exact h0.part0 (i * sz) sz hi2 (flatMap_part henc hi)

set_option maxRecDepth 8000 in
set_option maxHeartbeats 8000000 in
theorem view_Step_c (p : PM) (ok : p.Ok) (hpg : SlSl M 5 encOp (.slice p.pg p.prog.length p.pc) p.prog) (wf : p.vm.Wf B) (hB2 : B + 2 < 1000000) (who number : Int) :
    Con Try.prog 11 #[pv mp 0, vi who, vi number] M (p.G mp) (Stepped mp p (p.vm.step who number)) := by
  refine Con.enter Q74_ok (args := [pv mp 0, vi who, vi number]) (by simp [Q74]) fun w0 => ?_
  simp only [Q74, argE]
  repeat' first
      | refine EV.seq ?_
      | refine EV.skip ?_
      | (refine EV.reg ?_; (conv => (arg 2; whnf)); simp only [push_cast, Int.cast_ofNat_Int, reduceIte, Nat.reduceEqDiff, reduceCtorEq, Nat.reduceAdd, Nat.reduceSub, Nat.reduceMul, Int.reduceToNat, Nat.reduceLeDiff])
      | (refine ConQ.call (view_turn_q (PM.rdM ok hpg (fun q hq => by simp [hq])) wf _) ?_; try simp only [push_cast, Int.cast_ofNat_Int, reduceIte, Nat.reduceEqDiff, reduceCtorEq, Nat.reduceAdd, Nat.reduceSub, Nat.reduceMul, Int.reduceToNat, Nat.reduceLeDiff])
      | ((refine EV.cond rfl (fun h => ?_) (fun h => ?_) <;> try simp only [reduceCtorEq, reduceIte, if_true, if_false, Bool.not_eq_true', Bool.not_eq_false', decide_eq_true_eq, decide_eq_false_iff_not, Bool.and_eq_true, Bool.or_eq_true, Bool.and_eq_false_iff, Bool.or_eq_false_iff] at h) <;> try (exfalso; first | exact h True.intro | (exact h; done) | omega | (simp only [not_true_eq_false, false_or, or_false] at h; omega)))
      | ((first | with_reducible intro b | refine xr rfl (by simp only [List.length_cons, List.length_nil]; omega) ?_ | fail); try simp only [push_cast, Int.cast_ofNat_Int, reduceIte, Nat.reduceEqDiff, reduceCtorEq, Nat.reduceAdd, Nat.reduceSub, Nat.reduceMul, Int.reduceToNat, Nat.reduceLeDiff])
      | (refine xw ?_; simp only [push_cast, Int.cast_ofNat_Int, reduceIte, Nat.reduceEqDiff, reduceCtorEq, Nat.reduceAdd, Nat.reduceSub, Nat.reduceMul, Int.reduceToNat, Nat.reduceLeDiff])
      | fail
  · refine EV.to (ρ' := [(6, vi (p.vm.turn who).2)]) (G' := p.G mp) ?_ ?env0 (by (repeat' first | exact List.Sublist.refl _ | exact List.nil_sublist _ | exact List.sublist_append_left _ _ | refine List.Sublist.cons_cons _ ?_ | refine List.Sublist.append_left ?_ _ | refine List.sublist_append_of_sublist_right ?_ | refine List.Sublist.cons _ ?_))
    case env0 =>
      repeat' first
        | (refine List.forall_mem_cons.2 (And.intro ?_ ?_))
        | (intro _ hnil; cases hnil; done)
        | rfl
        | fail
    refine EV.ret Q74_ok ?_
    simp only [push_cast, Int.cast_ofNat_Int, reduceIte, Nat.reduceEqDiff, reduceCtorEq, Nat.reduceAdd, Nat.reduceSub, Nat.reduceMul, Int.reduceToNat, Nat.reduceLeDiff, Q74]
    have e : p.vm.step who number = (p.vm, (p.vm.turn who).2) := by simp only [VM.step, ne_eq, h, not_false_eq_true, if_true]
    rw [e]
    exact ⟨rfl, p, rfl, ok, rfl, rfl, rfl⟩
  · obtain ⟨w, rfl, hw, hw2, e⟩ := turn_zero h
    have ho := turn_okOp wf hw hw2
    rw [← e] at ho
    have hpw : w < p.pt.length := by simpa [PM.vm] using hw
    refine Con.callB (G1 := []) (view_choices_c (PM.rdM ok hpg (fun q hq => by simp [hq])) wf hw _ ho) (PHeap.le_refl _) (List.Perm.refl _) ?_
    rintro v1 M1 G1 ⟨ov, rfl, hov, rfl⟩
    simp only [push_cast, Int.cast_ofNat_Int, reduceIte, Nat.reduceEqDiff, reduceCtorEq, Nat.reduceAdd, Nat.reduceSub, Nat.reduceMul, Int.reduceToNat, Nat.reduceLeDiff]
    have hst : ¬ (number < 0 ∨ ((p.vm.choices w (p.vm.turn w).1).length : Int) ≤ number) → p.vm.step w number = (p.vm.does w (p.vm.turn w).1 ((p.vm.choices w (p.vm.turn w).1)[number.toNat]!), 0) := fun hn => by
      simp only [VM.step, ne_eq, h, not_true_eq_false, if_false, Int.toNat_natCast, if_neg hn]
    have hst2 : (number < 0 ∨ ((p.vm.choices w (p.vm.turn w).1).length : Int) ≤ number) → p.vm.step w number = (p.vm, 3) := fun hn => by
      simp only [VM.step, ne_eq, h, not_true_eq_false, if_false, Int.toNat_natCast, if_pos hn]
    by_cases hn : number < 0 ∨ ((p.vm.choices w (p.vm.turn w).1).length : Int) ≤ number
    · rw [hst2 hn]
      repeat' first
          | refine EV.seq ?_
          | (refine EV.reg ?_; (conv => (arg 2; whnf)); simp only [push_cast, Int.cast_ofNat_Int, reduceIte, Nat.reduceEqDiff, reduceCtorEq, Nat.reduceAdd, Nat.reduceSub, Nat.reduceMul, Int.reduceToNat, Nat.reduceLeDiff])
          | assumption
          | (refine condW.merge ?_ (fun hc K' hK => ?_) ?_; rotate_left)
          | ((refine EV.cond rfl (fun h => ?_) (fun h => ?_) <;> try simp only [reduceCtorEq, reduceIte, if_true, if_false, Bool.not_eq_true', Bool.not_eq_false', decide_eq_true_eq, decide_eq_false_iff_not, Bool.and_eq_true, Bool.or_eq_true, Bool.and_eq_false_iff, Bool.or_eq_false_iff] at h) <;> try (exfalso; first | exact h True.intro | (exact h; done) | omega | (simp only [not_true_eq_false, false_or, or_false] at h; omega)))
          | fail
      refine EV.to (ρ' := [(6, vi 3)]) (G' := p.G mp) ?_ ?env1 (List.Sublist.cons _ (List.sublist_append_left _ _))
      case env1 =>
        repeat' first
          | (refine List.forall_mem_cons.2 (And.intro ?_ ?_))
          | (intro _ hnil; cases hnil; done)
          | rfl
          | fail
      refine EV.ret Q74_ok ?_
      simp only [push_cast, Int.cast_ofNat_Int, reduceIte, Nat.reduceEqDiff, reduceCtorEq, Nat.reduceAdd, Nat.reduceSub, Nat.reduceMul, Int.reduceToNat, Nat.reduceLeDiff, Q74]
      exact ⟨rfl, p, rfl, ok, rfl, rfl, rfl⟩
    · rw [hst hn]
      have hlt : number.toNat < (p.vm.choices w (p.vm.turn w).1).length := by omega
      obtain ⟨⟨ob, oc, os⟩, rfl⟩ : ∃ x, ov = some x := by
        cases ov with
        | none => exfalso; have := hov.1; omega
        | some x => exact ⟨x, rfl⟩
      have hrd := osg_at (M := M) (G := (b, Cl 55 (encOp (p.vm.turn w).1)) :: (p.G mp ++ osg 76 (some (ob, oc, os)) ((p.vm.choices w (p.vm.turn w).1).flatMap encCh))) (enc := encCh) (fun _ => rfl) hov (fun q hq => List.mem_cons_of_mem _ (List.mem_append_right _ hq)) hlt
      have hck : (p.vm.turn w).1.kind ≠ 5 → ((p.vm.choices w (p.vm.turn w).1)[number.toNat]!).1 < (p.line (p.vm.turn w).1.loc.toNat).length := fun h5 =>
        (choices_mem (m := p.vm) (w := w) (c := (p.vm.choices w (p.vm.turn w).1)[number.toNat]!) h5 (by rw [getB hlt]; exact List.getElem_mem _)).2
      repeat' first
          | refine EV.seq ?_
          | refine EV.skip ?_
          | ((first | refine EV.reg ?_ | refine EV.any _ (List.Sublist.refl _) ?_ | fail); (conv => (arg 2; whnf)); simp only [push_cast, Int.cast_ofNat_Int, reduceIte, Nat.reduceEqDiff, reduceCtorEq, Nat.reduceAdd, Nat.reduceSub, Nat.reduceMul, Int.reduceToNat, Nat.reduceLeDiff])
          | assumption
          | (refine condW.merge ?_ (fun hc K' hK => ?_) ?_; rotate_left)
          | ((refine EV.cond rfl (fun h => ?_) (fun h => ?_) <;> try simp only [reduceCtorEq, reduceIte, if_true, if_false, Bool.not_eq_true', Bool.not_eq_false', decide_eq_true_eq, decide_eq_false_iff_not, Bool.and_eq_true, Bool.or_eq_true, Bool.and_eq_false_iff, Bool.or_eq_false_iff] at h) <;> try (exfalso; first | exact h True.intro | (exact h; done) | omega | (simp only [not_true_eq_false, false_or, or_false] at h; omega)))
          | (refine And.intro (by omega) ?_)
          | ((first | refine Exists.intro _ (And.intro (by assumption) ?_) | refine xr rfl (by simp only [List.length_cons, List.length_nil]; omega) ?_ | fail); try simp only [push_cast, Int.cast_ofNat_Int, reduceIte, Nat.reduceEqDiff, reduceCtorEq, Nat.reduceAdd, Nat.reduceSub, Nat.reduceMul, Int.reduceToNat, Nat.reduceLeDiff])
          | fail
      refine Con.callB (Mr := M) (view_does_c p ok hpg wf hB2 hpw hw2 _ ho _ hck) (PHeap.le_add _ _) (List.perm_middle (l₁ := p.G mp)).symm ?_
      rintro v1 M1 G1 ⟨p2, rfl, ok2, hvm2, e1, e2⟩
      simp only [push_cast, Int.cast_ofNat_Int, reduceIte, Nat.reduceEqDiff, reduceCtorEq, Nat.reduceAdd, Nat.reduceSub, Nat.reduceMul, Int.reduceToNat, Nat.reduceLeDiff]
      repeat' first
          | refine EV.seq ?_
          | (refine EV.reg ?_; (conv => (arg 2; whnf)); simp only [push_cast, Int.cast_ofNat_Int, reduceIte, Nat.reduceEqDiff, reduceCtorEq, Nat.reduceAdd, Nat.reduceSub, Nat.reduceMul, Int.reduceToNat, Nat.reduceLeDiff])
          | fail
      refine EV.to (ρ' := [(6, vi 0)]) (G' := p2.G mp) ?_ ?env2 (List.Sublist.cons _ (List.sublist_append_right _ _))
      case env2 =>
        repeat' first
          | (refine List.forall_mem_cons.2 (And.intro ?_ ?_))
          | (intro _ hnil; cases hnil; done)
          | rfl
          | fail
      refine EV.ret Q74_ok ?_
      simp only [push_cast, Int.cast_ofNat_Int, reduceIte, Nat.reduceEqDiff, reduceCtorEq, Nat.reduceAdd, Nat.reduceSub, Nat.reduceMul, Int.reduceToNat, Nat.reduceLeDiff, Q74]
      exact ⟨rfl, p2, rfl, ok2, hvm2, e1, e2⟩

end
end Go.EV

namespace Go.EV
open Go.Proofs

section
variable {P : Program} {C : Cx P} {V : List Nat} {k : List RItem} {ρ : Env} {M : PHeap} {F G : Own} {mp : Nat}
theorem EV.asTurned {p : RP} {m' : RM} {v : Value} (h : Turned mp p m' v M G) (hk : ∀ p2 : RP, p2.Ok → p2.Vs M → p2.rm = m' → p2.pg = p.pg → p2.pc = p.pc → EV C V k ρ M (F ++ p2.G mp)) : EV C V k ρ M (F ++ G) := by
  obtain ⟨p2, rfl, h1, h2, h3, h4, h5⟩ := h
  exact hk p2 h1 h2 h3 h4 h5
end

theorem CallW.asTurned {P : Program} {C : Cx P} {f : FuncId} {args : Array Value} {M : PHeap} {F G : Own} {mp : Nat} {K : Value → PHeap → Own → Prop} {p : RP} {m' : RM} {v : Value} (h : Turned mp p m' v M G) (hk : ∀ p2 : RP, p2.Ok → p2.Vs M → p2.rm = m' → p2.pg = p.pg → p2.pc = p.pc → CallW C f args M (F ++ p2.G mp) K) : CallW C f args M (F ++ G) K := by
  obtain ⟨p2, rfl, h1, h2, h3, h4, h5⟩ := h
  exact hk p2 h1 h2 h3 h4 h5

theorem RM.nexts_eq {pg pc prog av rv lv nv gv dv mv ls pA a read now gained given ov nb nc gb gc db dc pC ab ac all next} {w : Nat} (hpA : pA.length = w) :
    RM.mk prog (fun l => (ls l).map RX.x) (pA.map RT.th ++ ⟨a + 1, read, now, gained, given⟩ :: pC.map RT.th) all next = (RP.rm ⟨pg, pc, prog, av, rv, lv, nv, gv, dv, mv, ls, pA ++ ⟨⟨a, read, now, gained, given⟩, ov, nb, nc, gb, gc, db, dc⟩ :: pC, ab, ac, all, next⟩).nexts w := by
  subst hpA
  simp only [RP.rm, RM.nexts, RM.setT, RT_at, RT_set]

theorem Turned.as {mp : Nat} {p p1 : RP} {m' : RM} {v v' : Value} {M : PHeap} {G : Own} (h1 : p1.pg = p.pg) (h2 : p1.pc = p.pc) (h : Turned mp p m' v M G) : Turned mp p1 m' v' M G := by
  obtain ⟨p2, rfl, k1, k2, k3, k4, k5⟩ := h
  exact ⟨p2, rfl, k1, k2, k3, by rw [k4, h1], by rw [k5, h2]⟩

theorem capp_at {α : Type} [Inhabited α] (A : List α) (x : α) (C : List α) : (A ++ x :: C)[A.length]! = x := by rw [getB (by simp)]; simp
theorem capp_set {α : Type} (A : List α) (x y : α) (C : List α) : (A ++ x :: C).set A.length y = A ++ y :: C := by simp

theorem RM.reads_eq {prog : List (List OpV)} {ls : Nat → List RX} {A C : List RThr} {t : RThr} {all : Vw} {next : Int} {w : Nat} (hA : A.length = w) {m : RM} (h : RM.mk prog (fun l => (ls l).map RX.x) (A ++ t :: C) all next = m) (o : OpV) (s : RMsg) :
    m.reads w o s = RM.mk prog (fun l => (ls l).map RX.x) (A ++ readT (idsL ls) t o s :: C) all next := by
  subst hA h
  simp only [RM.reads, RM.setT, capp_at, capp_set]
  rfl

theorem sub10 {α : Type} {a b c d e f g h i j : α} {l l' : List α} (hs : l.Sublist l') : (a :: b :: c :: d :: e :: f :: g :: h :: i :: j :: l).Sublist (a :: b :: c :: d :: e :: f :: g :: h :: i :: j :: l') := by simpa using hs

theorem rd_ls {M : PHeap} {G : Own} {mv : Nat → Blk} {ls : Nat → List RX} {l k : Nat} (hl : l < 3) (hk : k < (ls l).length) (h : ∀ q ∈ lsG mv ls, q ∈ G) : rd (M.add G) (mv l).1 (k * 4) 4 (encX (ls l)[k]!) := by
  have := (rd_mem0 (M := M) (ls_mem hl h) (flatMap_length (sz := 4) (enc := encX) (fun _ => rfl) _)).part0 (k * 4) 4 (by omega) (flatMap_part (enc := encX) (fun _ => rfl) hk)
  rwa [getB hk]

def SteppedR (mp : Nat) (p : RP) (r : RM × Int) (v : Value) (M' : PHeap) (G' : Own) : Prop := v = vi r.2 ∧ Turned mp p r.1 v M' G'

section
variable {M : PHeap} {mp : Nat} {B : Nat}

theorem RP.Vs.op {p : RP} (vs : p.Vs M) (wf : p.rm.Wf B) {w : Nat} (hw : w < p.pt.length) {i : Nat} (hi : i < p.prog[w]!.length) : ∃ pb po c' qb qo, p.pg = some ⟨pb, po, none⟩ ∧ rd M pb (po + w) 1 [.slice (some ⟨qb, qo, none⟩) p.prog[w]!.length c'] ∧ rd M qb (qo + i * 5) 5 (encOp p.prog[w]![i]!) := by
  obtain ⟨a, c, vs, he, hl, hrd, hk⟩ := vs.pg
  cases he
  have hpl : p.prog.length = p.pt.length := by simpa [RP.rm] using wf.pl
  obtain ⟨pb, po, epg, hat⟩ := SlSl.at hrd hl hk (by omega)
  obtain ⟨a', c', h1, h2⟩ := hat w (by omega)
  rw [← getB (show w < p.prog.length by omega)] at h1 h2
  obtain ⟨qb, qo, rfl, hat2⟩ := Sl.at (enc := encOp) (fun _ => rfl) (by omega) h2 (by omega)
  have h3 := hat2 i hi
  rw [← getB hi] at h3
  rw [Nat.mul_one] at h1
  exact ⟨pb, po, c', qb, qo, epg, h1, h3⟩

set_option maxRecDepth 8000 in
set_option maxHeartbeats 8000000 in
theorem ref_Step_c (p : RP) (ok : p.Ok) (vs : p.Vs M) (wf : p.rm.Wf B) (hB2 : B + 2 < 1000000) (who number : Int) :
    Con Try.prog 20 #[pv mp 0, vi who, vi number] M (p.G mp) (SteppedR mp p (p.rm.step who number)) := by
  refine Con.enter Q33_ok (args := [pv mp 0, vi who, vi number]) (by simp [Q33]) fun w0 => ?_
  simp only [Q33, argE]
  by_cases ht : (p.rm.turn who).2 = 0
  case neg =>
    have e : p.rm.step who number = (p.rm, (p.rm.turn who).2) := by simp only [RM.step, ne_eq, ht, not_false_eq_true, if_true]
    have ec : p.rm.choicesR who = (0, (p.rm.turn who).2) := by simp only [RM.choicesR, ne_eq, ht, not_false_eq_true, if_true]
    rw [e]
    repeat' first
        | refine EV.seq ?_
        | (refine EV.reg ?_; (conv => (arg 2; whnf)); simp only [push_cast, Int.cast_ofNat_Int, reduceIte, Nat.reduceEqDiff, reduceCtorEq, Nat.reduceAdd, Nat.reduceSub, Nat.reduceMul, Int.reduceToNat, Nat.reduceLeDiff, ec])
        | (refine ConQ.call (ref_Choices_q (RP.rdX ok vs (fun q hq => by simp [hq])) wf _) ?_; try simp only [push_cast, Int.cast_ofNat_Int, reduceIte, Nat.reduceEqDiff, reduceCtorEq, Nat.reduceAdd, Nat.reduceSub, Nat.reduceMul, Int.reduceToNat, Nat.reduceLeDiff, ec])
        | ((refine EV.cond rfl (fun h => ?_) (fun h => ?_) <;> try simp only [reduceCtorEq, reduceIte, if_true, if_false, Bool.not_eq_true', Bool.not_eq_false', decide_eq_true_eq, decide_eq_false_iff_not, Bool.and_eq_true, Bool.or_eq_true, Bool.and_eq_false_iff, Bool.or_eq_false_iff] at h) <;> try (exfalso; first | exact h True.intro | (exact h; done) | omega | (simp only [not_true_eq_false, false_or, or_false] at h; omega)))
        | fail
    refine EV.ret Q33_ok ?_
    simp only [push_cast, Int.cast_ofNat_Int, reduceIte, Nat.reduceEqDiff, reduceCtorEq, Nat.reduceAdd, Nat.reduceSub, Nat.reduceMul, Int.reduceToNat, Nat.reduceLeDiff, Q33]
    exact ⟨rfl, p, rfl, ok, vs, rfl, rfl, rfl⟩
  obtain ⟨w, rfl, hw, hw2, et⟩ := RM.turn_zero ht
  have ho := RM.op_ok wf hw hw2
  rw [← et] at ho
  generalize hop : (p.rm.turn w).1 = o at ho et
  have hpw : w < p.pt.length := by rwa [RP.nthr] at hw
  have hta := RP.thr_at hpw
  have hlt : p.pt[w]!.th.at_ < p.prog[w]!.length := by
    have := wf.nx w hw
    rw [hta] at this hw2
    exact Nat.lt_of_le_of_ne this hw2
  have ec : p.rm.choicesR w = (((p.rm.choices w o).length : Int), 0) := by simp only [RM.choicesR, ne_eq, ht, not_true_eq_false, if_false, Int.toNat_natCast, hop]
  by_cases hn : number < 0 ∨ ((p.rm.choices w o).length : Int) ≤ number
  case pos =>
    have e : p.rm.step w number = (p.rm, 3) := by simp only [RM.step, ne_eq, ht, not_true_eq_false, if_false, Int.toNat_natCast, hop, if_pos hn]
    rw [e]
    repeat' first
        | refine EV.seq ?_
        | refine EV.skip ?_
        | (refine EV.reg ?_; (conv => (arg 2; whnf)); simp only [push_cast, Int.cast_ofNat_Int, reduceIte, Nat.reduceEqDiff, reduceCtorEq, Nat.reduceAdd, Nat.reduceSub, Nat.reduceMul, Int.reduceToNat, Nat.reduceLeDiff, ec])
        | assumption
        | (refine ConQ.call (ref_Choices_q (RP.rdX ok vs (fun q hq => by simp [hq])) wf _) ?_; try simp only [push_cast, Int.cast_ofNat_Int, reduceIte, Nat.reduceEqDiff, reduceCtorEq, Nat.reduceAdd, Nat.reduceSub, Nat.reduceMul, Int.reduceToNat, Nat.reduceLeDiff, ec])
        | (refine condW.merge ?_ (fun hc K' hK => ?_) ?_; rotate_left)
        | ((refine EV.cond rfl (fun h => ?_) (fun h => ?_) <;> try simp only [reduceCtorEq, reduceIte, if_true, if_false, Bool.not_eq_true', Bool.not_eq_false', decide_eq_true_eq, decide_eq_false_iff_not, Bool.and_eq_true, Bool.or_eq_true, Bool.and_eq_false_iff, Bool.or_eq_false_iff] at h) <;> try (exfalso; first | exact h True.intro | (exact h; done) | omega | (simp only [not_true_eq_false, false_or, or_false] at h; omega)))
        | fail
    all_goals
      refine EV.ret Q33_ok ?_
      simp only [push_cast, Int.cast_ofNat_Int, reduceIte, Nat.reduceEqDiff, reduceCtorEq, Nat.reduceAdd, Nat.reduceSub, Nat.reduceMul, Int.reduceToNat, Nat.reduceLeDiff, Q33]
      exact ⟨rfl, p, rfl, ok, vs, rfl, rfl, rfl⟩
  have e : p.rm.step w number = (p.rm.does w o (p.rm.choices w o)[number.toNat]!, 0) := by simp only [RM.step, ne_eq, ht, not_true_eq_false, if_false, Int.toNat_natCast, hop, if_neg hn]
  rw [e]
  have hlt2 : number.toNat < (p.rm.choices w o).length := by omega
  repeat' first
      | refine EV.seq ?_
      | refine EV.skip ?_
      | (refine EV.reg ?_; (conv => (arg 2; whnf)); simp only [push_cast, Int.cast_ofNat_Int, reduceIte, Nat.reduceEqDiff, reduceCtorEq, Nat.reduceAdd, Nat.reduceSub, Nat.reduceMul, Int.reduceToNat, Nat.reduceLeDiff, ec])
      | assumption
      | (refine ConQ.call (ref_Choices_q (RP.rdX ok vs (fun q hq => by simp [hq])) wf _) ?_; try simp only [push_cast, Int.cast_ofNat_Int, reduceIte, Nat.reduceEqDiff, reduceCtorEq, Nat.reduceAdd, Nat.reduceSub, Nat.reduceMul, Int.reduceToNat, Nat.reduceLeDiff, ec])
      | (refine condW.merge ?_ (fun hc K' hK => ?_) ?_; rotate_left)
      | ((refine EV.cond rfl (fun h => ?_) (fun h => ?_) <;> try simp only [reduceCtorEq, reduceIte, if_true, if_false, Bool.not_eq_true', Bool.not_eq_false', decide_eq_true_eq, decide_eq_false_iff_not, Bool.and_eq_true, Bool.or_eq_true, Bool.and_eq_false_iff, Bool.or_eq_false_iff] at h) <;> try (exfalso; first | exact h True.intro | (exact h; done) | omega | (simp only [not_true_eq_false, false_or, or_false] at h; omega)))
      | fail
  refine Con.callB (G1 := []) (ref_choices_c (RP.rdX ok vs (fun q hq => by first | exact hq | simpa [RP.G] using hq)) wf hpw hlt o (by rw [et, hta]; rfl) ho) (PHeap.le_refl _) (List.Perm.refl _) ?_
  rintro v1 M1 G1 ⟨ov, rfl, hov, rfl⟩
  simp only [push_cast, Int.cast_ofNat_Int, reduceIte, Nat.reduceEqDiff, reduceCtorEq, Nat.reduceAdd, Nat.reduceSub, Nat.reduceMul, Int.reduceToNat, Nat.reduceLeDiff]
  obtain ⟨⟨ob, oc, os⟩, rfl⟩ : ∃ x, ov = some x := by
    cases ov with
    | none => exfalso; have := hov.1; omega
    | some x => exact ⟨x, rfl⟩
  have hrd : ∀ G : Own, (∀ q ∈ osg 89 (some (ob, oc, os)) ((p.rm.choices w o).flatMap encRC), q ∈ G) → _ := fun G hG => osg_at (M := M) (G := G) (enc := encRC) (fun _ => rfl) hov hG hlt2
  have hcm : (p.rm.choices w o)[number.toNat]! ∈ p.rm.choices w o := by rw [getB hlt2]; exact List.getElem_mem _
  generalize (p.rm.choices w o)[number.toNat]! = c at hrd hcm ⊢
  repeat' first
      | (refine And.intro (by omega) ?_)
      | fail
  simp only [push_cast, Int.cast_ofNat_Int, reduceIte, Nat.reduceEqDiff, reduceCtorEq, Nat.reduceAdd, Nat.reduceSub, Nat.reduceMul, Int.reduceToNat, Nat.reduceLeDiff, Nat.zero_add]
  repeat' first
      | ((first | refine Exists.intro _ (And.intro (hrd _ (fun q hq => by simp [hq])) ?_) | with_reducible intro b | fail); try simp only [push_cast, Int.cast_ofNat_Int, reduceIte, Nat.reduceEqDiff, reduceCtorEq, Nat.reduceAdd, Nat.reduceSub, Nat.reduceMul, Int.reduceToNat, Nat.reduceLeDiff])
      | (refine xw ?_; simp only [push_cast, Int.cast_ofNat_Int, reduceIte, Nat.reduceEqDiff, reduceCtorEq, Nat.reduceAdd, Nat.reduceSub, Nat.reduceMul, Int.reduceToNat, Nat.reduceLeDiff])
      | fail
  obtain ⟨c1, c2, c3⟩ := c
  simp only [push_cast, Int.cast_ofNat_Int, reduceIte, Nat.reduceEqDiff, reduceCtorEq, Nat.reduceAdd, Nat.reduceSub, Nat.reduceMul, Int.reduceToNat, Nat.reduceLeDiff, encRC]
  repeat' first
      | refine EV.seq ?_
      | fail
  refine EV.weaken (G' := (b, Cl 89 [vi c1, vi c2, vb c3]) :: p.G mp) ?_ (fun _ _ h => h) (by simp only [RP.G, List.cons_append]; (repeat' first | exact List.Sublist.refl _ | exact List.nil_sublist _ | exact List.sublist_append_left _ _ | refine List.Sublist.cons_cons _ ?_ | refine List.Sublist.append_left ?_ _ | refine List.sublist_append_of_sublist_right ?_ | refine List.Sublist.cons _ ?_))
  clear hrd hov
  have hb := wf.bl
  obtain ⟨pb, po, c', qb, qo, epg, k1, k2⟩ := vs.op wf hpw hlt
  rw [hta] at et
  have eo : p.prog[w]![p.pt[w]!.th.at_]! = o := et.symm
  rw [eo] at k2
  have hlP : p.prog[w]!.length < 1000000 := by
    have hpl : p.prog.length = p.pt.length := by simpa [RP.rm] using wf.pl
    exact wf.pb p.prog[w]! (by rw [getB (by omega)]; exact List.getElem_mem _)
  have hwp : w < p.prog.length := by
    have hpl : p.prog.length = p.pt.length := by simpa [RP.rm] using wf.pl
    omega
  obtain ⟨R, hR⟩ : ∃ R, R = p.rm.does w o (c1, c2, c3) := ⟨_, rfl⟩
  rw [← hR]
  obtain ⟨m0, hm0⟩ : ∃ m, m = p.rm := ⟨_, rfl⟩
  rw [← hm0] at wf hw hw2 hR hcm
  refine EV.to (ρ' := [(9, pv b 0), (0, pv mp 0), (1, vi w)]) (G' := (b, Cl 89 [vi c1, vi c2, vb c3]) :: p.G mp) ?_ ?env0 (List.Sublist.refl _)
  case env0 =>
    repeat' first
      | (refine List.forall_mem_cons.2 (And.intro ?_ ?_))
      | (intro _ hnil; cases hnil; done)
      | rfl
      | fail
  obtain ⟨p1, hp1, hp2, hp3⟩ : ∃ q : RP, p = q ∧ q.pg = p.pg ∧ q.pc = p.pc := ⟨p, rfl, rfl, rfl⟩
  have hcx : (p.G mp).map (fun x => x.1) = (p1.G mp).map (fun x => x.1) := by rw [hp1]
  have hsr : SteppedR mp p (R, 0) = SteppedR mp p1 (R, 0) := by rw [hp1]
  rw [hcx, hsr]
  obtain ⟨pg, pc, prog, av, rv, lv, nv, gv, dv, mv, ls, pt, ab, ac, all, next⟩ := p
  obtain ⟨pA, ⟨⟨a, read, now, gained, given⟩, ov, nb, nc, gb, gc, db, dc⟩, pC, rfl, hpA⟩ := PM.split pt w hpw
  have i0 := vs.th _ (List.mem_append_right _ (List.mem_cons_self ..))
  have i1 := i0.now
  have i2 := i0.gained
  have i3 := i0.given
  have i4 := vs.all
  have hth : (pA ++ (⟨⟨a, read, now, gained, given⟩, ov, nb, nc, gb, gc, db, dc⟩ : RT) :: pC)[w]! = ⟨⟨a, read, now, gained, given⟩, ov, nb, nc, gb, gc, db, dc⟩ := by
    rw [getB hpw]; simp [← hpA]
  dsimp only at hb epg i1 i2 i3 i4 k1 k2 hlt eo hlP hp2 hp3 hwp
  rw [hth] at hlt k2 eo
  dsimp only at hlt k2 eo
  subst epg
  have kp : Kept M (.slice (some ⟨pb, po, none⟩) prog.length pc) prog pA pC ls := ⟨vs.pg, fun q hq => vs.th q (cut_mem hq), vs.ls⟩
  have hov := ok.rk _ (List.mem_append_right _ (List.mem_cons_self ..))
  have hoA : ∀ q ∈ pA ++ pC, osok 1 q.ov q.th.read.length (q.th.read.map vi) := fun q hq => ok.rk q (cut_mem hq)
  have hw1 : IntKind.i64.wrap ((a : Int) + 1) = ((a + 1 : Nat) : Int) := by rw [w64 (by omega) (by omega)]; omega
  have hnx : RM.mk prog (fun l => (ls l).map RX.x) (pA.map RT.th ++ ⟨a + 1, read, now, gained, given⟩ :: pC.map RT.th) all next = m0.nexts w := by rw [hm0]; exact RM.nexts_eq hpA
  have wf1 : (m0.nexts w).Wf B := RM.nexts_wf wf hw hw2
  have hw1' : w < (m0.nexts w).thr.length := by simpa [RM.nexts, RM.setT] using hw
  rw [RP.G_cut]
  simp only [cutG]
  obtain ⟨kd, lo, v, w', od⟩ := o
  repeat' first
      | refine EV.seq ?_
      | refine EV.skip ?_
      | ((first | refine EV.reg ?_ | refine EV.any _ (List.Sublist.refl _) ?_ | fail); (conv => (arg 2; whnf)); simp only [push_cast, Int.cast_ofNat_Int, reduceIte, Nat.reduceEqDiff, reduceCtorEq, Nat.reduceAdd, Nat.reduceSub, Nat.reduceMul, Int.reduceToNat, Nat.reduceLeDiff, cut_len hpA, cut_set hpA, hw1, encOp])
      | (refine Exists.intro _ (And.intro (rd_cut hpA) ?_); try simp only [push_cast, Int.cast_ofNat_Int, reduceIte, Nat.reduceEqDiff, reduceCtorEq, Nat.reduceAdd, Nat.reduceSub, Nat.reduceMul, Int.reduceToNat, Nat.reduceLeDiff, cut_len hpA, cut_set hpA, hw1, encOp])
      | ((refine EV.cond rfl (fun h => ?_) (fun h => ?_) <;> try simp only [reduceCtorEq, reduceIte, if_true, if_false, Bool.not_eq_true', Bool.not_eq_false', decide_eq_true_eq, decide_eq_false_iff_not, Bool.and_eq_true, Bool.or_eq_true, Bool.and_eq_false_iff, Bool.or_eq_false_iff] at h) <;> try (exfalso; first | exact h True.intro | (exact h; done) | omega | (simp only [not_true_eq_false, false_or, or_false] at h; omega)))
      | (with_reducible intro b; try simp only [push_cast, Int.cast_ofNat_Int, reduceIte, Nat.reduceEqDiff, reduceCtorEq, Nat.reduceAdd, Nat.reduceSub, Nat.reduceMul, Int.reduceToNat, Nat.reduceLeDiff, cut_len hpA, cut_set hpA, hw1, encOp])
      | (refine And.intro (by omega) ?_)
      | ((first | refine Exists.intro _ (And.intro (rd_M (by assumption)) ?_) | refine Exists.intro _ (Exists.intro _ (Exists.intro _ (And.intro (rd_M (by assumption)) ?_))) | refine xr rfl (by simp only [List.length_cons, List.length_nil]; omega) ?_ | refine xi rfl (by simp only [List.length_cons, List.length_nil]; omega) ?_ | refine xs rfl (by simp only [List.length_cons, List.length_nil]; omega) ?_ | fail); try simp only [push_cast, Int.cast_ofNat_Int, reduceIte, Nat.reduceEqDiff, reduceCtorEq, Nat.reduceAdd, Nat.reduceSub, Nat.reduceMul, Int.reduceToNat, Nat.reduceLeDiff, cut_len hpA, cut_set hpA, hw1, encOp])
      | (refine xw ?_; simp only [push_cast, Int.cast_ofNat_Int, reduceIte, Nat.reduceEqDiff, reduceCtorEq, Nat.reduceAdd, Nat.reduceSub, Nat.reduceMul, Int.reduceToNat, Nat.reduceLeDiff, cut_len hpA, cut_set hpA, hw1, encOp])
      | (refine And.intro (PHeap.le_refl _) (And.intro (fun p hp => List.mem_cons_of_mem _ hp) ?_))
      | fail
  case neg.refine_2.refine_3.refine_2.refine_1 =>
    refine CallW.asTurned (F := [_, _]) (Turned.leaf (p := ⟨some ⟨pb, po, none⟩, pc, prog, av, rv, lv, nv, gv, dv, mv, ls, pC, ab, ac, all, next⟩) (a := a + 1) (v := vi 0) rfl hov hoA ok.mc hnx) ?_
    intro p2 ok2 vs2 e2 e3 e4
    have wf2 : p2.rm.Wf B := e2 ▸ wf1
    have hp2w : w < p2.pt.length := by rw [← RP.nthr, e2]; exact hw1'
    refine Con.callA (ref_fence_c p2 ok2 vs2 wf2 hp2w od) (by exact List.perm_append_comm (l₁ := [_, _])) ?_
    rintro v1 M1 G1 hM1 ⟨p3, rfl, ok3, vs3, e5, e6, e7⟩
    simp only [push_cast, Int.cast_ofNat_Int, reduceIte, Nat.reduceEqDiff, reduceCtorEq, Nat.reduceAdd, Nat.reduceSub, Nat.reduceMul, Int.reduceToNat, Nat.reduceLeDiff]
    repeat' first
        | refine EV.seq ?_
        | (refine EV.reg ?_; (conv => (arg 2; whnf)); simp only [push_cast, Int.cast_ofNat_Int, reduceIte, Nat.reduceEqDiff, reduceCtorEq, Nat.reduceAdd, Nat.reduceSub, Nat.reduceMul, Int.reduceToNat, Nat.reduceLeDiff])
        | fail
    refine EV.drop1 (EV.drop1 ?_)
    refine EV.ret Q33_ok ?_
    simp only [push_cast, Int.cast_ofNat_Int, reduceIte, Nat.reduceEqDiff, reduceCtorEq, Nat.reduceAdd, Nat.reduceSub, Nat.reduceMul, Int.reduceToNat, Nat.reduceLeDiff, Q33]
    refine ⟨rfl, p3, rfl, ok3, vs3, ?_, by rw [e6, e3, hp2], by rw [e7, e4, hp3]⟩
    rw [e5, e2, hR]
    simp only [RM.does, if_pos h]
  case neg.refine_2.refine_3.refine_2.refine_2.refine_2.refine_1 =>
    rename_i h5 hc1
    rcases RM.choice_shape wf ho h5 hcm with ⟨hk1, k, hc, hk0, hk⟩ | ⟨_, k, _, hc | ⟨hc, _⟩⟩
    · simp only [Prod.mk.injEq] at hc
      obtain ⟨rfl, rfl, rfl⟩ := hc
      refine CallW.asTurned (F := [_, _, _]) (Turned.leaf (p := ⟨some ⟨pb, po, none⟩, pc, prog, av, rv, lv, nv, gv, dv, mv, ls, pC, ab, ac, all, next⟩) (a := a + 1) (v := vi 0) rfl hov hoA ok.mc hnx) ?_
      intro p2 ok2 vs2 e2 e3 e4
      have wf2 : p2.rm.Wf B := e2 ▸ wf1
      have hp2w : w < p2.pt.length := by rw [← RP.nthr, e2]; exact hw1'
      have hls : ∀ l, (p2.ls l).length = (m0.lists l).length := fun l => by
        have := congrArg (fun m => (RM.lists m l).length) e2
        simpa [RP.rm, RM.nexts, RM.setT] using this
      refine Con.callA (ref_writeS_c p2 ok2 vs2 wf2 (by omega) hp2w ⟨kd, lo, v, w', od⟩ ho hk1 (k := k) (by rw [hls]; exact hk) true (vi 0)) (by exact List.perm_append_comm (l₁ := [_, _, _])) ?_
      rintro v1 M1 G1 hM1 ⟨p3, rfl, ok3, vs3, e5, e6, e7⟩
      simp only [push_cast, Int.cast_ofNat_Int, reduceIte, Nat.reduceEqDiff, reduceCtorEq, Nat.reduceAdd, Nat.reduceSub, Nat.reduceMul, Int.reduceToNat, Nat.reduceLeDiff]
      repeat' first
          | refine EV.seq ?_
          | (refine EV.reg ?_; (conv => (arg 2; whnf)); simp only [push_cast, Int.cast_ofNat_Int, reduceIte, Nat.reduceEqDiff, reduceCtorEq, Nat.reduceAdd, Nat.reduceSub, Nat.reduceMul, Int.reduceToNat, Nat.reduceLeDiff])
          | fail
      refine EV.drop1 (EV.drop1 (EV.drop1 ?_))
      refine EV.ret Q33_ok ?_
      simp only [push_cast, Int.cast_ofNat_Int, reduceIte, Nat.reduceEqDiff, reduceCtorEq, Nat.reduceAdd, Nat.reduceSub, Nat.reduceMul, Int.reduceToNat, Nat.reduceLeDiff, Q33]
      refine ⟨rfl, p3, rfl, ok3, vs3, ?_, by rw [e6, e3, hp2], by rw [e7, e4, hp3]⟩
      rw [e5, e2, hR]
      simp only [RM.does, if_neg h5, show (-1 : Int) < 0 from by omega, if_true, Int.toNat_natCast]
    · simp only [Prod.mk.injEq] at hc; omega
    · simp only [Prod.mk.injEq] at hc; omega
  case neg.refine_2.refine_3.refine_2.refine_2.refine_2.refine_2 =>
    rename_i h5 hc1
    exfalso
    rcases RM.choice_shape wf ho h5 hcm with ⟨hk1, k, hc, hk0, hk⟩ | ⟨_, k, _, hc | ⟨hc, _⟩⟩
    · simp only [Prod.mk.injEq] at hc; rw [hc.2.2] at h; cases h
    · simp only [Prod.mk.injEq] at hc; omega
    · simp only [Prod.mk.injEq] at hc; omega
  rename_i h5
  have hsh : ∃ k : Nat, c1 = k ∧ k < (m0.lists lo.toNat).length ∧ (c2 = -1 ∧ c3 = false ∨ c2 = (k : Int) + 1 ∧ c3 = true ∧ 2 ≤ kd ∧ kd ≤ 4) := by
    rcases RM.choice_shape wf ho h5 hcm with ⟨hk1, k, hc, hk0, hk⟩ | ⟨_, k, hk, hc | ⟨hc, h24⟩⟩
    · simp only [Prod.mk.injEq] at hc; omega
    · simp only [Prod.mk.injEq] at hc; exact ⟨k, hc.1, hk, .inl hc.2⟩
    · simp only [Prod.mk.injEq] at hc; exact ⟨k, hc.1, hk, .inr ⟨hc.2.1, hc.2.2, h24⟩⟩
  obtain ⟨k, rfl, hk, hc23⟩ := hsh
  obtain ⟨o1, o2, o3, o4, o5⟩ := ho
  dsimp only at o1 o2 o3 o4 o5
  obtain ⟨l, rfl⟩ : ∃ l : Nat, lo = l := ⟨lo.toNat, by omega⟩
  have hl : l < 3 := by omega
  rw [Int.toNat_natCast] at hk
  have hkl : k < (ls l).length := by
    have := congrArg (fun m => (RM.lists m l).length) hm0
    simp only [RP.rm, List.length_map] at this; omega
  have hbl := hb l hl
  have hrm : ∀ G : Own, (∀ q ∈ lsG mv ls, q ∈ G) → rd (M.add G) (mv l).1 (k * 4) 4 (encX (ls l)[k]!) := fun G h => rd_ls hl hkl h
  have iS := kp.ls l hl (ls l)[k]! (by rw [getB hkl]; exact List.getElem_mem _)
  obtain ⟨seen, hseen⟩ : ∃ x, x = (ls l)[k]! := ⟨_, rfl⟩
  rw [← hseen] at hrm iS
  obtain ⟨⟨sid, sword, sview, stied⟩, sb, sc⟩ := seen
  dsimp only [encX] at hrm iS
  repeat' first
      | refine EV.seq ?_
      | ((first | refine Exists.intro _ (And.intro (hrm _ (fun q hq => by simp [hq])) ?_) | refine Exists.intro _ (Exists.intro _ (Exists.intro _ (And.intro (rd_lh hl) ?_))) | fail); try simp only [push_cast, Int.cast_ofNat_Int, reduceIte, Nat.reduceEqDiff, reduceCtorEq, Nat.reduceAdd, Nat.reduceSub, Nat.reduceMul, Int.reduceToNat, Nat.reduceLeDiff, Int.toNat_natCast])
      | (refine And.intro (by omega) ?_)
      | (refine xi rfl (by simp only [List.length_cons, List.length_nil]; omega) ?_; try simp only [push_cast, Int.cast_ofNat_Int, reduceIte, Nat.reduceEqDiff, reduceCtorEq, Nat.reduceAdd, Nat.reduceSub, Nat.reduceMul, Int.reduceToNat, Nat.reduceLeDiff, Int.toNat_natCast])
      | (refine xw ?_; simp only [push_cast, Int.cast_ofNat_Int, reduceIte, Nat.reduceEqDiff, reduceCtorEq, Nat.reduceAdd, Nat.reduceSub, Nat.reduceMul, Int.reduceToNat, Nat.reduceLeDiff, Int.toNat_natCast])
      | fail
  refine EV.any (t := Q33_15) _ (sub10 (List.Sublist.append_left (List.Sublist.append_left (List.sublist_append_right _ _) _) _)) ?_
  simp only [push_cast, Int.cast_ofNat_Int, reduceIte, Nat.reduceEqDiff, reduceCtorEq, Nat.reduceAdd, Nat.reduceSub, Nat.reduceMul, Int.reduceToNat, Nat.reduceLeDiff, Q33_15]
  have hrl : read.length ≤ B := by
    have := RM.rb_at wf hw
    rw [hm0] at this
    simp only [RP.rm] at this
    rw [← hpA, RT_at] at this
    exact this
  have hB := wf.b0
  repeat' first
      | ((first | refine Exists.intro _ (Exists.intro _ (Exists.intro _ (And.intro (rd_cut hpA) ?_))) | with_reducible intro b | fail); try simp only [push_cast, Int.cast_ofNat_Int, reduceIte, Nat.reduceEqDiff, reduceCtorEq, Nat.reduceAdd, Nat.reduceSub, Nat.reduceMul, Int.reduceToNat, Nat.reduceLeDiff, cut_len hpA, cut_set hpA])
      | (refine And.intro (by omega) ?_)
      | ((first | refine xi rfl (by simp only [List.length_cons, List.length_nil]; omega) ?_ | refine xs rfl (by simp only [List.length_cons, List.length_nil]; omega) ?_ | refine And.intro (PHeap.le_refl _) (And.intro (mem_of_sub ?_) ?_); focus ((repeat' first | exact List.Sublist.refl _ | exact List.nil_sublist _ | exact List.sublist_append_left _ _ | refine List.Sublist.cons_cons _ ?_ | refine List.Sublist.append_left ?_ _ | refine List.sublist_append_of_sublist_right ?_ | refine List.Sublist.cons _ ?_); done) | fail); try simp only [push_cast, Int.cast_ofNat_Int, reduceIte, Nat.reduceEqDiff, reduceCtorEq, Nat.reduceAdd, Nat.reduceSub, Nat.reduceMul, Int.reduceToNat, Nat.reduceLeDiff, cut_len hpA, cut_set hpA])
      | fail
  refine ⟨_, Or.inr ⟨_, 0, rfl, rd_own' 0 rfl rfl (by simp)⟩, by simp [ok1_cons, ok1_nil, Value.oneCell'], Or.inl ⟨_, _, rfl, _, hov, _, cat_pull [[_, _, _, _, _, _, _, _, _, _, _], lsG mv ls, rdsR pA, osg 3 ov _, rdsR pC] 3 (by simp), ?_, ?_, ?_⟩⟩
  · simp only [maxLen]; omega
  · omega
  intro ov1 hov1 _
  simp only [List.eraseIdx_cons_succ, List.eraseIdx_cons_zero, List.getElem_cons_succ, List.getElem_cons_zero, cat_two, cat_one, cat_nil, List.nil_append, List.cons_append, List.append_assoc, List.append_nil]
  refine And.intro (PHeap.le_refl _) (And.intro (mem_of_sub (List.Sublist.cons _ (sub10 (List.Sublist.append_left (List.Sublist.append_left (List.sublist_append_left _ _) _) _)))) ?_)
  simp only [push_cast, Int.cast_ofNat_Int, reduceIte, Nat.reduceEqDiff, reduceCtorEq, Nat.reduceAdd, Nat.reduceSub, Nat.reduceMul, Int.reduceToNat, Nat.reduceLeDiff]
  repeat' first
      | refine EV.seq ?_
      | (refine EV.reg ?_; (conv => (arg 2; whnf)); simp only [push_cast, Int.cast_ofNat_Int, reduceIte, Nat.reduceEqDiff, reduceCtorEq, Nat.reduceAdd, Nat.reduceSub, Nat.reduceMul, Int.reduceToNat, Nat.reduceLeDiff, cut_len hpA, cut_set hpA])
      | (refine And.intro (by omega) ?_)
      | (refine xw ?_; simp only [push_cast, Int.cast_ofNat_Int, reduceIte, Nat.reduceEqDiff, reduceCtorEq, Nat.reduceAdd, Nat.reduceSub, Nat.reduceMul, Int.reduceToNat, Nat.reduceLeDiff, cut_len hpA, cut_set hpA])
      | fail
  refine Con.callB (G1 := []) (G2 := cat [[_, _, _, _, _, _, _, _, _, _, _], lsG mv ls, rdsR pA, osg 3 ov1 _, rdsR pC]) (ref_nothing_c (M := M)) (PHeap.le_add _ _) (cat_move [[_, _, _, _, _, _, _, _, _, _, _], lsG mv ls, rdsR pA, rdsR pC, osg 3 ov1 _] 4 3 (by simp) (by simp)) ?_
  rintro v1 M1 G1 ⟨ob, rfl, rfl⟩
  simp only [List.eraseIdx_cons_succ, List.eraseIdx_cons_zero, List.getElem_cons_succ, List.getElem_cons_zero, List.insertIdx_zero, List.insertIdx_succ_cons, cat_two, cat_one, cat_nil, List.nil_append, List.cons_append, List.append_assoc, List.append_nil]
  refine EV.drop1 ?_
  refine EV.permG ?_ (cat_pull [[_, _, _, _, _, _, _, _, _, _], lsG mv ls, rdsR pA, osg 3 ov1 _, rdsR pC, [_]] 5 (by simp))
  simp only [List.eraseIdx_cons_succ, List.eraseIdx_cons_zero, List.getElem_cons_succ, List.getElem_cons_zero, List.insertIdx_zero, List.insertIdx_succ_cons, cat_two, cat_one, cat_nil, List.nil_append, List.cons_append, List.append_assoc, List.append_nil]
  repeat' first
      | refine EV.seq ?_
      | (refine EV.reg ?_; (conv => (arg 2; whnf)); simp only [push_cast, Int.cast_ofNat_Int, reduceIte, Nat.reduceEqDiff, reduceCtorEq, Nat.reduceAdd, Nat.reduceSub, Nat.reduceMul, Int.reduceToNat, Nat.reduceLeDiff, encV_len, enc_st_at hl])
      | (refine And.intro (by omega) ?_)
      | (refine xi rfl (by simp only [List.length_cons, List.length_nil]; omega) ?_; try simp only [push_cast, Int.cast_ofNat_Int, reduceIte, Nat.reduceEqDiff, reduceCtorEq, Nat.reduceAdd, Nat.reduceSub, Nat.reduceMul, Int.reduceToNat, Nat.reduceLeDiff, encV_len, enc_st_at hl])
      | (refine xw ?_; simp only [push_cast, Int.cast_ofNat_Int, reduceIte, Nat.reduceEqDiff, reduceCtorEq, Nat.reduceAdd, Nat.reduceSub, Nat.reduceMul, Int.reduceToNat, Nat.reduceLeDiff, encV_len, enc_st_at hl])
      | fail
  refine EV.freeze (G₁ := [_]) ?_
  generalize hN : M.add [(ob, Cl 3 (encV (upd noV l sid)))] = N
  have hMN : LEc M N := hN ▸ LEc.add
  have hvo : VR N ob (upd noV l sid) := hN ▸ ⟨rd_own' 0 rfl rfl (by simp [encV])⟩
  clear hN
  repeat' first
      | refine EV.seq ?_
      | refine EV.skip ?_
      | ((first | refine EV.reg ?_ | refine EV.any _ (List.Sublist.refl _) ?_ | fail); (conv => (arg 2; whnf)); simp only [push_cast, Int.cast_ofNat_Int, reduceIte, Nat.reduceEqDiff, reduceCtorEq, Nat.reduceAdd, Nat.reduceSub, Nat.reduceMul, Int.reduceToNat, Nat.reduceLeDiff, cut_len hpA, cut_set hpA])
      | ((first | refine Con.callV (ref_join_i (RdR.of' (ls := ls) (mv := mv) (fun q hq => by simp [hq]) hb)) (PHeap.le_refl _) (fun b c M' hM hV => ?_) | refine ConQ.call (ref_acquires_q _) ?_ | refine Exists.intro _ (Exists.intro _ (Exists.intro _ (And.intro (rd_cut hpA) ?_))) | fail); try simp only [push_cast, Int.cast_ofNat_Int, reduceIte, Nat.reduceEqDiff, reduceCtorEq, Nat.reduceAdd, Nat.reduceSub, Nat.reduceMul, Int.reduceToNat, Nat.reduceLeDiff, cut_len hpA, cut_set hpA])
      | ((refine EV.cond rfl (fun h => ?_) (fun h => ?_) <;> try simp only [reduceCtorEq, reduceIte, if_true, if_false, Bool.not_eq_true', Bool.not_eq_false', decide_eq_true_eq, decide_eq_false_iff_not, Bool.and_eq_true, Bool.or_eq_true, Bool.and_eq_false_iff, Bool.or_eq_false_iff] at h) <;> try (exfalso; first | exact h True.intro | (exact h; done) | omega | (simp only [not_true_eq_false, false_or, or_false] at h; omega)))
      | (refine And.intro (by omega) ?_)
      | ((first | refine xr rfl (by simp only [List.length_cons, List.length_nil]; omega) ?_ | refine xi rfl (by simp only [List.length_cons, List.length_nil]; omega) ?_ | refine xs rfl (by simp only [List.length_cons, List.length_nil]; omega) ?_ | fail); try simp only [push_cast, Int.cast_ofNat_Int, reduceIte, Nat.reduceEqDiff, reduceCtorEq, Nat.reduceAdd, Nat.reduceSub, Nat.reduceMul, Int.reduceToNat, Nat.reduceLeDiff, cut_len hpA, cut_set hpA])
      | (refine xw ?_; simp only [push_cast, Int.cast_ofNat_Int, reduceIte, Nat.reduceEqDiff, reduceCtorEq, Nat.reduceAdd, Nat.reduceSub, Nat.reduceMul, Int.reduceToNat, Nat.reduceLeDiff, cut_len hpA, cut_set hpA])
      | (refine And.intro LEc.h (And.intro (fun p hp => hp) ?_))
      | fail
  all_goals
    have er : List.map vi read ++ [Value.int IntKind.i64 sword] = (read ++ [sword]).map vi := by simp
    have el : read.length + 1 = (read ++ [sword]).length := by simp
    have hsn : ((m0.nexts w).lists l)[k]! = ⟨sid, sword, sview, stied⟩ := by
      show (m0.lists l)[k]! = _
      rw [hm0]
      simp only [RP.rm]
      rw [map_at _ hkl, ← hseen]
  · have hacq : acqP od = true := by assumption
    have hc : c2 = ((k + 1 : Nat) : Int) := by
      rcases hc23 with ⟨_, hf⟩ | ⟨hc, _⟩
      · rw [h] at hf; cases hf
      · omega
    have h24 : 2 ≤ kd ∧ kd ≤ 4 := by
      rcases hc23 with ⟨_, hf⟩ | ⟨_, _, h24⟩
      · rw [h] at hf; cases hf
      · exact h24
    subst hc h
    rw [er, el]
    refine CallW.asTurned (F := [_, _, _]) (Turned.leaf (p := ⟨some ⟨pb, po, none⟩, pc, prog, av, rv, lv, nv, gv, dv, mv, ls, pC, ab, ac, all, next⟩) (a := a + 1) (m' := (m0.nexts w).reads w ⟨kd, l, v, w', od⟩ ⟨sid, sword, sview, stied⟩) (v := vi 0) rfl (by simpa using hov1) hoA ok.mc ?_) ?_
    · rw [RM.reads_eq (by simpa using hpA) hnx]
      simp only [readT, Int.toNat_natCast, hacq, if_true, Bool.false_eq_true, if_false]
    intro p2 ok2 vs2 e2 e3 e4
    have wf2 : p2.rm.Wf (B + 1) := e2 ▸ RM.reads_wf wf1 (by omega) hw1' _ _
    have hp2w : w < p2.pt.length := by rw [← RP.nthr, e2]; simpa [RM.reads, RM.setT] using hw1'
    have hls : ∀ l, (p2.ls l).length = (m0.lists l).length := fun l => by
      have := congrArg (fun m => (RM.lists m l).length) e2
      simpa [RP.rm, RM.nexts, RM.reads, RM.setT] using this
    refine Con.callA (ref_writeR_c p2 ok2 vs2 wf2 (by omega) hp2w ⟨kd, l, v, w', od⟩ ⟨o1, o2, o3, o4, o5⟩ h24 (k := k + 1) (by rw [hls]; exact hk) true k ⟨⟨sid, sword, sview, stied⟩, sb, sc⟩ inferInstance) (by exact List.perm_append_comm (l₁ := [_, _, _])) ?_
    rintro v1 M1 G1 hM1 ⟨p3, rfl, ok3, vs3, e5, e6, e7⟩
    simp only [push_cast, Int.cast_ofNat_Int, reduceIte, Nat.reduceEqDiff, reduceCtorEq, Nat.reduceAdd, Nat.reduceSub, Nat.reduceMul, Int.reduceToNat, Nat.reduceLeDiff]
    repeat' first
        | refine EV.seq ?_
        | (refine EV.reg ?_; (conv => (arg 2; whnf)); simp only [push_cast, Int.cast_ofNat_Int, reduceIte, Nat.reduceEqDiff, reduceCtorEq, Nat.reduceAdd, Nat.reduceSub, Nat.reduceMul, Int.reduceToNat, Nat.reduceLeDiff])
        | fail
    refine EV.drop1 (EV.drop1 (EV.drop1 ?_))
    refine EV.ret Q33_ok ?_
    simp only [push_cast, Int.cast_ofNat_Int, reduceIte, Nat.reduceEqDiff, reduceCtorEq, Nat.reduceAdd, Nat.reduceSub, Nat.reduceMul, Int.reduceToNat, Nat.reduceLeDiff, Q33]
    refine ⟨rfl, p3, rfl, ok3, vs3, ?_, by rw [e6, e3, hp2], by rw [e7, e4, hp3]⟩
    rw [e5, e2, hR]
    simp only [RM.does, if_neg h5, show ¬ ((k : Int) < 0) from by omega, if_true, if_false, Int.toNat_natCast, hsn]
  · have hacq : acqP od = true := by assumption
    subst h
    rw [er, el]
    refine EV.drop1 (EV.drop1 (EV.drop1 ?_))
    refine EV.ret Q33_ok ?_
    simp only [push_cast, Int.cast_ofNat_Int, reduceIte, Nat.reduceEqDiff, reduceCtorEq, Nat.reduceAdd, Nat.reduceSub, Nat.reduceMul, Int.reduceToNat, Nat.reduceLeDiff, Q33]
    refine ⟨rfl, ?_⟩
    have e : R = (m0.nexts w).reads w ⟨kd, l, v, w', od⟩ ⟨sid, sword, sview, stied⟩ := by
      rw [hR]
      simp only [RM.does, if_neg h5, show ¬ ((k : Int) < 0) from by omega, Bool.false_eq_true, if_false, Int.toNat_natCast, hsn]
    rw [e]
    refine Turned.as (v := vi 0) (p := ⟨some ⟨pb, po, none⟩, pc, prog, av, rv, lv, nv, gv, dv, mv, ls, pC, ab, ac, all, next⟩) hp2 hp3 (Turned.leaf (a := a + 1) rfl (by simpa using hov1) hoA ok.mc ?_)
    rw [RM.reads_eq (by simpa using hpA) hnx]
    simp only [readT, Int.toNat_natCast, hacq, if_true, Bool.false_eq_true, if_false]
  · have hacq : acqP od = false := by assumption
    have hc : c2 = ((k + 1 : Nat) : Int) := by
      rcases hc23 with ⟨_, hf⟩ | ⟨hc, _⟩
      · rw [h] at hf; cases hf
      · omega
    have h24 : 2 ≤ kd ∧ kd ≤ 4 := by
      rcases hc23 with ⟨_, hf⟩ | ⟨_, _, h24⟩
      · rw [h] at hf; cases hf
      · exact h24
    subst hc h
    rw [er, el]
    refine CallW.asTurned (F := [_, _, _]) (Turned.leaf (p := ⟨some ⟨pb, po, none⟩, pc, prog, av, rv, lv, nv, gv, dv, mv, ls, pC, ab, ac, all, next⟩) (a := a + 1) (m' := (m0.nexts w).reads w ⟨kd, l, v, w', od⟩ ⟨sid, sword, sview, stied⟩) (v := vi 0) rfl (by simpa using hov1) hoA ok.mc ?_) ?_
    · rw [RM.reads_eq (by simpa using hpA) hnx]
      simp only [readT, Int.toNat_natCast, hacq, if_true, Bool.false_eq_true, if_false]
    intro p2 ok2 vs2 e2 e3 e4
    have wf2 : p2.rm.Wf (B + 1) := e2 ▸ RM.reads_wf wf1 (by omega) hw1' _ _
    have hp2w : w < p2.pt.length := by rw [← RP.nthr, e2]; simpa [RM.reads, RM.setT] using hw1'
    have hls : ∀ l, (p2.ls l).length = (m0.lists l).length := fun l => by
      have := congrArg (fun m => (RM.lists m l).length) e2
      simpa [RP.rm, RM.nexts, RM.reads, RM.setT] using this
    refine Con.callA (ref_writeR_c p2 ok2 vs2 wf2 (by omega) hp2w ⟨kd, l, v, w', od⟩ ⟨o1, o2, o3, o4, o5⟩ h24 (k := k + 1) (by rw [hls]; exact hk) true k ⟨⟨sid, sword, sview, stied⟩, sb, sc⟩ inferInstance) (by exact List.perm_append_comm (l₁ := [_, _, _])) ?_
    rintro v1 M1 G1 hM1 ⟨p3, rfl, ok3, vs3, e5, e6, e7⟩
    simp only [push_cast, Int.cast_ofNat_Int, reduceIte, Nat.reduceEqDiff, reduceCtorEq, Nat.reduceAdd, Nat.reduceSub, Nat.reduceMul, Int.reduceToNat, Nat.reduceLeDiff]
    repeat' first
        | refine EV.seq ?_
        | (refine EV.reg ?_; (conv => (arg 2; whnf)); simp only [push_cast, Int.cast_ofNat_Int, reduceIte, Nat.reduceEqDiff, reduceCtorEq, Nat.reduceAdd, Nat.reduceSub, Nat.reduceMul, Int.reduceToNat, Nat.reduceLeDiff])
        | fail
    refine EV.drop1 (EV.drop1 (EV.drop1 ?_))
    refine EV.ret Q33_ok ?_
    simp only [push_cast, Int.cast_ofNat_Int, reduceIte, Nat.reduceEqDiff, reduceCtorEq, Nat.reduceAdd, Nat.reduceSub, Nat.reduceMul, Int.reduceToNat, Nat.reduceLeDiff, Q33]
    refine ⟨rfl, p3, rfl, ok3, vs3, ?_, by rw [e6, e3, hp2], by rw [e7, e4, hp3]⟩
    rw [e5, e2, hR]
    simp only [RM.does, if_neg h5, show ¬ ((k : Int) < 0) from by omega, if_true, if_false, Int.toNat_natCast, hsn]
  · have hacq : acqP od = false := by assumption
    subst h
    rw [er, el]
    refine EV.drop1 (EV.drop1 (EV.drop1 ?_))
    refine EV.ret Q33_ok ?_
    simp only [push_cast, Int.cast_ofNat_Int, reduceIte, Nat.reduceEqDiff, reduceCtorEq, Nat.reduceAdd, Nat.reduceSub, Nat.reduceMul, Int.reduceToNat, Nat.reduceLeDiff, Q33]
    refine ⟨rfl, ?_⟩
    have e : R = (m0.nexts w).reads w ⟨kd, l, v, w', od⟩ ⟨sid, sword, sview, stied⟩ := by
      rw [hR]
      simp only [RM.does, if_neg h5, show ¬ ((k : Int) < 0) from by omega, Bool.false_eq_true, if_false, Int.toNat_natCast, hsn]
    rw [e]
    refine Turned.as (v := vi 0) (p := ⟨some ⟨pb, po, none⟩, pc, prog, av, rv, lv, nv, gv, dv, mv, ls, pC, ab, ac, all, next⟩) hp2 hp3 (Turned.leaf (a := a + 1) rfl (by simpa using hov1) hoA ok.mc ?_)
    rw [RM.reads_eq (by simpa using hpA) hnx]
    simp only [readT, Int.toNat_natCast, hacq, if_true, Bool.false_eq_true, if_false]

end
end Go.EV

namespace Go.EV
open Go.Proofs

theorem EV.loop1 {P : Program} {C : Cx P} {V : List Nat} {k : List RItem} {ρ : Env} {M : PHeap} {G : Own} {c : RCode} (h : EV C V (.code c :: .inLoop c :: k) ρ M G) : EV C V (.code (.loop c) :: k) ρ M G :=
  EV.loop (fun _ : Unit => (ρ, M, G)) (fun _ => True) (fun _ => 0) () trivial (fun _ _ _ => h)

section
variable {M : PHeap} {mp : Nat} {B : Nat}

theorem view_none_q : ConQ Try.prog 28 #[] M (.agg (encV noV).toArray) := by
  refine Con.enter Q93_ok (args := []) (by simp [Q93]) fun w0 => ?_
  simp only [Q93, argE]
  repeat' first
      | refine EV.seq ?_
      | (refine EV.reg ?_; (conv => (arg 2; whnf)); simp only [push_cast, Int.cast_ofNat_Int, reduceIte, Nat.reduceEqDiff, reduceCtorEq, Nat.reduceAdd, Nat.reduceSub, Nat.reduceMul, Int.reduceToNat, Nat.reduceLeDiff])
      | (refine EV.ret Q93_ok ?_; simp only [push_cast, Int.cast_ofNat_Int, reduceIte, Nat.reduceEqDiff, reduceCtorEq, Nat.reduceAdd, Nat.reduceSub, Nat.reduceMul, Int.reduceToNat, Nat.reduceLeDiff, Q93])
      | ((first | with_reducible intro b | refine xr rfl (by simp only [List.length_cons, List.length_nil]; omega) ?_ | fail); try simp only [push_cast, Int.cast_ofNat_Int, reduceIte, Nat.reduceEqDiff, reduceCtorEq, Nat.reduceAdd, Nat.reduceSub, Nat.reduceMul, Int.reduceToNat, Nat.reduceLeDiff])
      | (refine xw ?_; simp only [push_cast, Int.cast_ofNat_Int, reduceIte, Nat.reduceEqDiff, reduceCtorEq, Nat.reduceAdd, Nat.reduceSub, Nat.reduceMul, Int.reduceToNat, Nat.reduceLeDiff])
      | fail
  rfl

def initM (j : Nat) : Msg := ⟨0, upd noV j j, false⟩
def initT : Thr := ⟨noV, noV, noV, [], 0⟩
def newL (lb : Nat → Nat) (k : Nat) : Nat → Value := fun j => if j < k then rowV (lb j) 1 1 else .slice none 0 0
def newR (lb : Nat → Nat) (k : Nat) : Own := (List.range k).map fun j => (lb j, Cl 3 [vi j])
def newC (k : Nat) : List Value := (List.range k).flatMap fun j => encMsg (initM j)
def newT (k : Nat) : List Value := (List.replicate k (initT, (none : Vec))).flatMap encPT

theorem hd_st_th {pg mh th v : Value} {lh : Nat → Value} {all : Vw} : (hdL pg mh lh th all).take 5 ++ (v :: (hdL pg mh lh th all).drop (5 + 1)) = hdL pg mh lh v all := rfl

theorem newL_upd (lb : Nat → Nat) (k b : Nat) : upd (newL lb k) k (rowV b 1 1) = newL (upd lb k b) (k + 1) := by
  funext j
  simp only [upd, newL]
  by_cases h : j = k
  · subst h; simp
  · have : j < k + 1 ↔ j < k := by omega
    simp [h, this]

theorem newR_upd (lb : Nat → Nat) (k b : Nat) : newR (upd lb k b) (k + 1) = newR lb k ++ [(b, Cl 3 [vi k])] := by
  simp only [newR, List.range_succ, List.map_append, List.map_cons, List.map_nil, upd, if_true]
  congr 1
  apply List.map_congr_left
  intro j hj
  have : j ≠ k := by have := List.mem_range.1 hj; omega
  simp [this]

theorem newC_upd (k : Nat) : newC (k + 1) = newC k ++ encMsg (initM k) := by simp [newC, List.range_succ]
theorem newT_upd (k : Nat) : newT (k + 1) = newT k ++ encPT (initT, none) := by simp [newT, List.replicate_succ']

set_option maxRecDepth 8000 in
set_option maxHeartbeats 8000000 in
theorem view_New_c (ts : List (List OpV)) (s : Value) (hs : SlSl M 5 encOp s ts) (hb : ts.flatten.length < 1000000) (hb' : ts.length < 1000000) :
    Con Try.prog 10 #[.agg #[s]] M [] fun v M' G' => (checkP ts ≠ 0 ∧ v = .tuple #[.pointer none, vi (checkP ts)]) ∨
      (checkP ts = 0 ∧ ∃ mp, ∃ p : PM, v = .tuple #[pv mp 0, vi 0] ∧ G' = p.G mp ∧ p.Ok ∧ p.vm = VM.new (ts.map expT) ∧ SlSl M' 5 encOp (.slice p.pg p.prog.length p.pc) p.prog) := by
  have hs0 := hs
  obtain ⟨a, c, vs, rfl, hl, hrd, hk⟩ := hs
  refine Con.enter Q88_ok (args := [.agg #[.slice a ts.length c]]) (by simp [Q88]) fun w0 => ?_
  simp only [Q88, argE]
  repeat' first
      | refine EV.seq ?_
      | (refine EV.reg ?_; (conv => (arg 2; whnf)); simp only [push_cast, Int.cast_ofNat_Int, reduceIte, Nat.reduceEqDiff, reduceCtorEq, Nat.reduceAdd, Nat.reduceSub, Nat.reduceMul, Int.reduceToNat, Nat.reduceLeDiff])
      | ((first | with_reducible intro b | refine xr rfl (by simp only [List.length_cons, List.length_nil]; omega) ?_ | fail); try simp only [push_cast, Int.cast_ofNat_Int, reduceIte, Nat.reduceEqDiff, reduceCtorEq, Nat.reduceAdd, Nat.reduceSub, Nat.reduceMul, Int.reduceToNat, Nat.reduceLeDiff])
      | fail
  refine Con.callA (G1 := []) (litmus_Expand_c ts _ hs0 hb hb') (List.Perm.refl _) ?_
  rintro v M1 G1 hM1 (⟨hne, rfl⟩ | ⟨hck, s', rfl, hs1⟩)
  · simp only [push_cast, Int.cast_ofNat_Int, reduceIte, Nat.reduceEqDiff, reduceCtorEq, Nat.reduceAdd, Nat.reduceSub, Nat.reduceMul, Int.reduceToNat, Nat.reduceLeDiff]
    repeat' first
        | refine EV.seq ?_
        | (refine EV.reg ?_; (conv => (arg 2; whnf)); simp only [push_cast, Int.cast_ofNat_Int, reduceIte, Nat.reduceEqDiff, reduceCtorEq, Nat.reduceAdd, Nat.reduceSub, Nat.reduceMul, Int.reduceToNat, Nat.reduceLeDiff])
        | ((refine EV.cond rfl (fun h => ?_) (fun h => ?_) <;> try simp only [reduceCtorEq, reduceIte, if_true, if_false, Bool.not_eq_true', Bool.not_eq_false', decide_eq_true_eq, decide_eq_false_iff_not, Bool.and_eq_true, Bool.or_eq_true, Bool.and_eq_false_iff, Bool.or_eq_false_iff] at h) <;> try (exfalso; first | exact h True.intro | (exact h; done) | omega | (simp only [not_true_eq_false, false_or, or_false] at h; omega)))
        | (refine EV.ret Q88_ok ?_; simp only [push_cast, Int.cast_ofNat_Int, reduceIte, Nat.reduceEqDiff, reduceCtorEq, Nat.reduceAdd, Nat.reduceSub, Nat.reduceMul, Int.reduceToNat, Nat.reduceLeDiff, Q88])
        | (with_reducible intro b; try simp only [push_cast, Int.cast_ofNat_Int, reduceIte, Nat.reduceEqDiff, reduceCtorEq, Nat.reduceAdd, Nat.reduceSub, Nat.reduceMul, Int.reduceToNat, Nat.reduceLeDiff])
        | (refine xw ?_; simp only [push_cast, Int.cast_ofNat_Int, reduceIte, Nat.reduceEqDiff, reduceCtorEq, Nat.reduceAdd, Nat.reduceSub, Nat.reduceMul, Int.reduceToNat, Nat.reduceLeDiff])
        | fail
    exact .inl h
  · have hs2 := hs1
    obtain ⟨a', c', vs', rfl, _⟩ := hs2
    simp only [push_cast, Int.cast_ofNat_Int, reduceIte, Nat.reduceEqDiff, reduceCtorEq, Nat.reduceAdd, Nat.reduceSub, Nat.reduceMul, Int.reduceToNat, Nat.reduceLeDiff]
    repeat' first
        | refine EV.seq ?_
        | refine EV.skip ?_
        | ((first | refine EV.reg ?_ | refine EV.any _ (List.Sublist.refl _) ?_ | fail); (conv => (arg 2; whnf)); simp only [push_cast, Int.cast_ofNat_Int, reduceIte, Nat.reduceEqDiff, reduceCtorEq, Nat.reduceAdd, Nat.reduceSub, Nat.reduceMul, Int.reduceToNat, Nat.reduceLeDiff])
        | (refine Exists.intro _ (And.intro (view_none_q) ?_); try simp only [push_cast, Int.cast_ofNat_Int, reduceIte, Nat.reduceEqDiff, reduceCtorEq, Nat.reduceAdd, Nat.reduceSub, Nat.reduceMul, Int.reduceToNat, Nat.reduceLeDiff])
        | ((refine EV.cond rfl (fun h => ?_) (fun h => ?_) <;> try simp only [reduceCtorEq, reduceIte, if_true, if_false, Bool.not_eq_true', Bool.not_eq_false', decide_eq_true_eq, decide_eq_false_iff_not, Bool.and_eq_true, Bool.or_eq_true, Bool.and_eq_false_iff, Bool.or_eq_false_iff] at h) <;> try (exfalso; first | exact h True.intro | (exact h; done) | omega | (simp only [not_true_eq_false, false_or, or_false] at h; omega)))
        | ((first | with_reducible intro b | refine xs rfl (by simp only [List.length_cons, List.length_nil]; omega) ?_ | fail); try simp only [push_cast, Int.cast_ofNat_Int, reduceIte, Nat.reduceEqDiff, reduceCtorEq, Nat.reduceAdd, Nat.reduceSub, Nat.reduceMul, Int.reduceToNat, Nat.reduceLeDiff])
        | (refine xw ?_; simp only [push_cast, Int.cast_ofNat_Int, reduceIte, Nat.reduceEqDiff, reduceCtorEq, Nat.reduceAdd, Nat.reduceSub, Nat.reduceMul, Int.reduceToNat, Nat.reduceLeDiff])
        | fail
    simp only [encV_len, if_true, onv_some]
    intro mp
    repeat' first
        | refine EV.seq ?_
        | refine EV.block ?_
        | (refine EV.reg ?_; (conv => (arg 2; whnf)); simp only [push_cast, Int.cast_ofNat_Int, reduceIte, Nat.reduceEqDiff, reduceCtorEq, Nat.reduceAdd, Nat.reduceSub, Nat.reduceMul, Int.reduceToNat, Nat.reduceLeDiff])
        | fail
    refine EV.permG ?_ (List.Perm.swap _ _ _)
    refine EV.freeze (G₁ := [_]) ?_
    generalize hN : M1.add [(b, Cl 24 [.slice a' (List.map expT ts).length c'])] = N
    have hMN : M1.le N := hN ▸ PHeap.le_add _ _
    have hb4 : rd N b 0 1 [.slice a' (List.map expT ts).length c'] := hN ▸ rd_own' 0 rfl rfl (by simp)
    clear hN
    refine EV.to (ρ' := [(4, pv b 0), (6, pv mp 0), (22, vi (0 : Nat))]) (G' := (mp, Cl 65 (hdL (.slice a' (List.map expT ts).length c') (osv none 0) (newL (fun _ => 0) 0) (.slice none 0 0) noV)) :: (osg 67 none (newC 0) ++ newR (fun _ => 0) 0)) ?_ ?env0 (List.Sublist.cons_cons _ (List.nil_sublist _))
    case env0 =>
      repeat' first
        | (refine List.forall_mem_cons.2 (And.intro ?_ ?_))
        | (intro _ hnil; cases hnil; done)
        | rfl
        | fail
    refine EV.loop (fun x : Nat × Vec × (Nat → Nat) => ([(4, pv b 0), (6, pv mp 0), (22, vi x.1)], N, (mp, Cl 65 (hdL (.slice a' (List.map expT ts).length c') (osv x.2.1 x.1) (newL x.2.2 x.1) (.slice none 0 0) noV)) :: (osg 67 x.2.1 (newC x.1) ++ newR x.2.2 x.1)))
      (fun x => x.1 ≤ 3 ∧ osok 5 x.2.1 x.1 (newC x.1)) (fun x => 3 - x.1) (0, none, fun _ => 0) ⟨by decide, rfl, rfl⟩ ?_
    rintro ⟨k, om, lb⟩ ⟨hk3, hom⟩ ih
    dsimp only at hk3 hom ih ⊢
    repeat' first
        | refine EV.seq ?_
        | refine EV.skip ?_
        | refine EV.block ?_
        | (refine EV.reg ?_; (conv => (arg 2; whnf)); simp only [push_cast, Int.cast_ofNat_Int, reduceIte, Nat.reduceEqDiff, reduceCtorEq, Nat.reduceAdd, Nat.reduceSub, Nat.reduceMul, Int.reduceToNat, Nat.reduceLeDiff, encV_len, ok1_encV])
        | (refine ConQ.call (view_none_q) ?_; try simp only [push_cast, Int.cast_ofNat_Int, reduceIte, Nat.reduceEqDiff, reduceCtorEq, Nat.reduceAdd, Nat.reduceSub, Nat.reduceMul, Int.reduceToNat, Nat.reduceLeDiff, encV_len, ok1_encV])
        | ((refine EV.cond rfl (fun h => ?_) (fun h => ?_) <;> try simp only [reduceCtorEq, reduceIte, if_true, if_false, Bool.not_eq_true', Bool.not_eq_false', decide_eq_true_eq, decide_eq_false_iff_not, Bool.and_eq_true, Bool.or_eq_true, Bool.and_eq_false_iff, Bool.or_eq_false_iff] at h) <;> try (exfalso; first | exact h True.intro | (exact h; done) | omega | (simp only [not_true_eq_false, false_or, or_false] at h; omega)))
        | (refine EV.exit rfl ?_)
        | (with_reducible intro b; try simp only [push_cast, Int.cast_ofNat_Int, reduceIte, Nat.reduceEqDiff, reduceCtorEq, Nat.reduceAdd, Nat.reduceSub, Nat.reduceMul, Int.reduceToNat, Nat.reduceLeDiff, encV_len, ok1_encV])
        | (refine And.intro (by omega) ?_)
        | (refine Exists.intro _ (Exists.intro _ (Exists.intro _ (And.intro (rd_M (by assumption)) ?_))); try simp only [push_cast, Int.cast_ofNat_Int, reduceIte, Nat.reduceEqDiff, reduceCtorEq, Nat.reduceAdd, Nat.reduceSub, Nat.reduceMul, Int.reduceToNat, Nat.reduceLeDiff, encV_len, ok1_encV])
        | (refine xw ?_; simp only [push_cast, Int.cast_ofNat_Int, reduceIte, Nat.reduceEqDiff, reduceCtorEq, Nat.reduceAdd, Nat.reduceSub, Nat.reduceMul, Int.reduceToNat, Nat.reduceLeDiff, encV_len, ok1_encV])
        | fail
    · have hk' : k < 3 := by omega
      simp only [enc_st_at hk']
      refine EV.any (t := Q88_10) _ (List.Sublist.cons_cons _ (List.Sublist.cons_cons _ (List.sublist_append_right _ _))) ?_
      simp only [push_cast, Int.cast_ofNat_Int, reduceIte, Nat.reduceEqDiff, reduceCtorEq, Nat.reduceAdd, Nat.reduceSub, Nat.reduceMul, Int.reduceToNat, Nat.reduceLeDiff, Q88_10]
      repeat' first
          | ((first | refine Exists.intro _ (Exists.intro _ (Exists.intro _ (And.intro (rd_hd_ms) ?_))) | with_reducible intro b | refine xr rfl (by simp only [List.length_cons, List.length_nil]; omega) ?_ | refine And.intro (PHeap.le_refl _) (And.intro (mem_of_sub ?_) ?_); focus ((repeat' first | exact List.Sublist.refl _ | exact List.nil_sublist _ | exact List.sublist_append_left _ _ | refine List.Sublist.cons_cons _ ?_ | refine List.Sublist.append_left ?_ _ | refine List.sublist_append_of_sublist_right ?_ | refine List.Sublist.cons _ ?_); done) | fail); try simp only [push_cast, Int.cast_ofNat_Int, reduceIte, Nat.reduceEqDiff, reduceCtorEq, Nat.reduceAdd, Nat.reduceSub, Nat.reduceMul, Int.reduceToNat, Nat.reduceLeDiff, encV, hd_len])
          | fail
      refine ⟨encMsg (initM k), Or.inr ⟨_, 0, rfl, rd_own' 0 rfl rfl (by simp [encV_len])⟩, by simp [encMsg, ok1_cons, ok1_nil, Value.oneCell'], Or.inl ⟨om, _, rfl, _, hom, _, cat_pull [[_, _, _], osg 67 om (newC k), newR lb k] 1 (by simp), ?_, ?_, ?_⟩⟩
      · simp only [maxLen]; omega
      · omega
      intro o1 ho1 _
      simp only [List.eraseIdx_cons_succ, List.eraseIdx_cons_zero, List.getElem_cons_succ, List.getElem_cons_zero, List.insertIdx_zero, List.insertIdx_succ_cons, cat_two, cat_one, cat_nil, List.nil_append, List.cons_append, List.append_assoc, List.append_nil]
      repeat' first
          | refine EV.inBlock ?_
          | (refine EV.reg ?_; (conv => (arg 2; whnf)); simp only [push_cast, Int.cast_ofNat_Int, reduceIte, Nat.reduceEqDiff, reduceCtorEq, Nat.reduceAdd, Nat.reduceSub, Nat.reduceMul, Int.reduceToNat, Nat.reduceLeDiff, encV_len, ok1_encV, hd_len, hd_st_ms, hd_st_line hk', newL_upd])
          | (with_reducible intro b; try simp only [push_cast, Int.cast_ofNat_Int, reduceIte, Nat.reduceEqDiff, reduceCtorEq, Nat.reduceAdd, Nat.reduceSub, Nat.reduceMul, Int.reduceToNat, Nat.reduceLeDiff, encV_len, ok1_encV, hd_len, hd_st_ms, hd_st_line hk', newL_upd])
          | (refine And.intro (by omega) ?_)
          | (refine xw ?_; simp only [push_cast, Int.cast_ofNat_Int, reduceIte, Nat.reduceEqDiff, reduceCtorEq, Nat.reduceAdd, Nat.reduceSub, Nat.reduceMul, Int.reduceToNat, Nat.reduceLeDiff, encV_len, ok1_encV, hd_len, hd_st_ms, hd_st_line hk', newL_upd])
          | (refine And.intro (PHeap.le_refl _) (And.intro (mem_of_sub ?_) ?_); focus ((repeat' first | exact List.Sublist.refl _ | exact List.nil_sublist _ | exact List.sublist_append_left _ _ | refine List.Sublist.cons_cons _ ?_ | refine List.Sublist.append_left ?_ _ | refine List.sublist_append_of_sublist_right ?_ | refine List.Sublist.cons _ ?_); done); try simp only [push_cast, Int.cast_ofNat_Int, reduceIte, Nat.reduceEqDiff, reduceCtorEq, Nat.reduceAdd, Nat.reduceSub, Nat.reduceMul, Int.reduceToNat, Nat.reduceLeDiff, encV_len, ok1_encV, hd_len, hd_st_ms, hd_st_line hk', newL_upd])
          | fail
      rename_i b8 bs
      refine EV.permG ?_ (cat_move [[_], [_, _, _], newR lb k, osg 67 o1 _] 0 3 (by simp) (by simp))
      simp only [List.eraseIdx_cons_succ, List.eraseIdx_cons_zero, List.getElem_cons_succ, List.getElem_cons_zero, List.insertIdx_zero, List.insertIdx_succ_cons, cat_two, cat_one, cat_nil, List.nil_append, List.cons_append, List.append_assoc, List.append_nil]
      refine EV.permG ?_ (cat_move [[_, _, _], newR lb k, osg 67 o1 _, [_]] 2 1 (by simp) (by simp))
      simp only [List.eraseIdx_cons_succ, List.eraseIdx_cons_zero, List.getElem_cons_succ, List.getElem_cons_zero, List.insertIdx_zero, List.insertIdx_succ_cons, cat_two, cat_one, cat_nil, List.nil_append, List.cons_append, List.append_assoc, List.append_nil]
      have ih3 := ih (k + 1, o1, upd lb k b) ⟨by dsimp only; omega, by dsimp only; rw [newC_upd]; exact ho1⟩ (by dsimp only; omega)
      simp only [newC_upd, newR_upd] at ih3
      refine EV.to ih3 ?_ (by (repeat' first | exact List.Sublist.refl _ | exact List.nil_sublist _ | exact List.sublist_append_left _ _ | refine List.Sublist.cons_cons _ ?_ | refine List.Sublist.append_left ?_ _ | refine List.sublist_append_of_sublist_right ?_ | refine List.Sublist.cons _ ?_))
      repeat' first
        | (refine List.forall_mem_cons.2 (And.intro ?_ ?_))
        | (intro _ hnil; cases hnil; done)
        | rfl
        | (refine env_w64 rfl (by first | rfl | (push_cast; first | rfl | omega)) (by omega) (by omega); done)
        | fail
    · have e : k = 3 := by omega
      subst e
      refine EV.to (ρ' := [(6, pv mp 0), (50, vi (List.map expT ts).length), (51, vi (0 : Nat))]) (G' := (mp, Cl 65 (hdL (.slice a' (List.map expT ts).length c') (osv om 3) (newL lb 3) (osv none 0) noV)) :: (osg 69 none (newT 0) ++ (osg 67 om (newC 3) ++ newR lb 3))) ?_ ?env1 (List.Sublist.refl _)
      case env1 =>
        repeat' first
          | (refine List.forall_mem_cons.2 (And.intro ?_ ?_))
          | (intro _ hnil; cases hnil; done)
          | rfl
          | fail
      refine EV.loop (fun x : Nat × Vec => ([(6, pv mp 0), (50, vi (List.map expT ts).length), (51, vi x.1)], N, (mp, Cl 65 (hdL (.slice a' (List.map expT ts).length c') (osv om 3) (newL lb 3) (osv x.2 x.1) noV)) :: (osg 69 x.2 (newT x.1) ++ (osg 67 om (newC 3) ++ newR lb 3))))
        (fun x => x.1 ≤ (List.map expT ts).length ∧ osok 11 x.2 x.1 (newT x.1)) (fun x => (List.map expT ts).length - x.1) (0, none) ⟨Nat.zero_le _, rfl, rfl⟩ ?_
      rintro ⟨i, ot⟩ ⟨hi, hot⟩ ih2
      dsimp only at hi hot ih2 ⊢
      repeat' first
          | refine EV.seq ?_
          | refine EV.skip ?_
          | refine EV.block ?_
          | (refine EV.reg ?_; (conv => (arg 2; whnf)); simp only [push_cast, Int.cast_ofNat_Int, reduceIte, Nat.reduceEqDiff, reduceCtorEq, Nat.reduceAdd, Nat.reduceSub, Nat.reduceMul, Int.reduceToNat, Nat.reduceLeDiff, encV_len, ok1_encV])
          | ((refine EV.cond rfl (fun h => ?_) (fun h => ?_) <;> try simp only [reduceCtorEq, reduceIte, if_true, if_false, Bool.not_eq_true', Bool.not_eq_false', decide_eq_true_eq, decide_eq_false_iff_not, Bool.and_eq_true, Bool.or_eq_true, Bool.and_eq_false_iff, Bool.or_eq_false_iff] at h) <;> try (exfalso; first | exact h True.intro | (exact h; done) | omega | (simp only [not_true_eq_false, false_or, or_false] at h; omega)))
          | (refine EV.exit rfl ?_)
          | fail
      · refine EV.any (t := Q88_15) _ (List.Sublist.cons_cons _ (List.sublist_append_right _ _)) ?_
        simp only [push_cast, Int.cast_ofNat_Int, reduceIte, Nat.reduceEqDiff, reduceCtorEq, Nat.reduceAdd, Nat.reduceSub, Nat.reduceMul, Int.reduceToNat, Nat.reduceLeDiff, Q88_15]
        repeat' first
            | ((first | refine Exists.intro _ (And.intro (view_none_q) ?_) | refine Exists.intro _ (Exists.intro _ (Exists.intro _ (And.intro (rd_hd_th) ?_))) | with_reducible intro b | refine And.intro (PHeap.le_refl _) (And.intro (mem_of_sub ?_) ?_); focus ((repeat' first | exact List.Sublist.refl _ | exact List.nil_sublist _ | exact List.sublist_append_left _ _ | refine List.Sublist.cons_cons _ ?_ | refine List.Sublist.append_left ?_ _ | refine List.sublist_append_of_sublist_right ?_ | refine List.Sublist.cons _ ?_); done) | fail); try simp only [push_cast, Int.cast_ofNat_Int, reduceIte, Nat.reduceEqDiff, reduceCtorEq, Nat.reduceAdd, Nat.reduceSub, Nat.reduceMul, Int.reduceToNat, Nat.reduceLeDiff, encV, hd_len])
            | fail
        refine ⟨encPT (initT, none), Or.inr ⟨_, 0, rfl, rd_own' 0 rfl rfl (by simp)⟩, by simp [encPT, encThr, ok1_cons, ok1_nil, Value.oneCell'], Or.inl ⟨ot, _, rfl, _, hot, _, cat_pull [[_, _], osg 69 ot (newT i), osg 67 om (newC 3), newR lb 3] 1 (by simp), ?_, ?_, ?_⟩⟩
        · simp only [maxLen, List.length_map] at hi ⊢; omega
        · simp only [List.length_map] at hi; omega
        intro o1 ho1 _
        simp only [List.eraseIdx_cons_succ, List.eraseIdx_cons_zero, List.getElem_cons_succ, List.getElem_cons_zero, List.insertIdx_zero, List.insertIdx_succ_cons, cat_two, cat_one, cat_nil, List.nil_append, List.cons_append, List.append_assoc, List.append_nil]
        repeat' first
            | refine EV.inBlock ?_
            | (refine EV.reg ?_; (conv => (arg 2; whnf)); simp only [push_cast, Int.cast_ofNat_Int, reduceIte, Nat.reduceEqDiff, reduceCtorEq, Nat.reduceAdd, Nat.reduceSub, Nat.reduceMul, Int.reduceToNat, Nat.reduceLeDiff, hd_len, hd_st_th])
            | (refine xw ?_; simp only [push_cast, Int.cast_ofNat_Int, reduceIte, Nat.reduceEqDiff, reduceCtorEq, Nat.reduceAdd, Nat.reduceSub, Nat.reduceMul, Int.reduceToNat, Nat.reduceLeDiff, hd_len, hd_st_th])
            | (refine And.intro (PHeap.le_refl _) (And.intro (mem_of_sub ?_) ?_); focus ((repeat' first | exact List.Sublist.refl _ | exact List.nil_sublist _ | exact List.sublist_append_left _ _ | refine List.Sublist.cons_cons _ ?_ | refine List.Sublist.append_left ?_ _ | refine List.sublist_append_of_sublist_right ?_ | refine List.Sublist.cons _ ?_); done); try simp only [push_cast, Int.cast_ofNat_Int, reduceIte, Nat.reduceEqDiff, reduceCtorEq, Nat.reduceAdd, Nat.reduceSub, Nat.reduceMul, Int.reduceToNat, Nat.reduceLeDiff, hd_len, hd_st_th])
            | fail
        refine EV.permG ?_ (cat_move [[_, _], osg 67 om (newC 3), newR lb 3, osg 69 o1 _] 3 1 (by simp) (by simp))
        simp only [List.eraseIdx_cons_succ, List.eraseIdx_cons_zero, List.getElem_cons_succ, List.getElem_cons_zero, List.insertIdx_zero, List.insertIdx_succ_cons, cat_two, cat_one, cat_nil, List.nil_append, List.cons_append, List.append_assoc, List.append_nil]
        simp only [List.length_map] at hi
        have hlt : i < (List.map expT ts).length := by simp only [List.length_map] at h ⊢; omega
        have ih3 := ih2 (i + 1, o1) ⟨by dsimp only; omega, by dsimp only; rw [newT_upd]; exact ho1⟩ (by dsimp only; omega)
        simp only [newT_upd] at ih3
        refine EV.to ih3 ?_ (by (repeat' first | exact List.Sublist.refl _ | exact List.nil_sublist _ | exact List.sublist_append_left _ _ | refine List.Sublist.cons_cons _ ?_ | refine List.Sublist.append_left ?_ _ | refine List.sublist_append_of_sublist_right ?_ | refine List.Sublist.cons _ ?_))
        repeat' first
          | (refine List.forall_mem_cons.2 (And.intro ?_ ?_))
          | (intro _ hnil; cases hnil; done)
          | rfl
          | (refine env_w64 rfl (by first | rfl | (push_cast; first | rfl | omega)) (by omega) (by omega); done)
          | fail
      · have e : i = (List.map expT ts).length := by omega
        subst e
        obtain ⟨_, hne, hall⟩ := checkP_zero hck
        have htl : (List.map expT ts).length = ts.length := by simp
        obtain ⟨⟨mb, mc, ms⟩, rfl⟩ : ∃ x, om = some x := by
          cases om with
          | none => exact absurd hom.1 (by omega)
          | some x => exact ⟨x, rfl⟩
        obtain ⟨⟨tb, tc, tsp⟩, rfl⟩ : ∃ x, ot = some x := by
          cases ot with
          | none => exact absurd hot.1 (by omega)
          | some x => exact ⟨x, rfl⟩
        refine EV.to (ρ' := [(2, pv mp 0), (3, vi 0)]) (G' := PM.G ⟨a', c', (mb, mc, ms), fun j => (lb j, 1, []), (tb, tc, tsp), List.map expT ts, (VM.new (List.map expT ts)).msgs, (VM.new (List.map expT ts)).line, noV, List.replicate (List.map expT ts).length (initT, none)⟩ mp) ?_ ?env2 ?_
        case env2 =>
          repeat' first
            | (refine List.forall_mem_cons.2 (And.intro ?_ ?_))
            | (intro _ hnil; cases hnil; done)
            | rfl
            | fail
        · refine EV.ret Q88_ok ?_
          simp only [push_cast, Int.cast_ofNat_Int, reduceIte, Nat.reduceEqDiff, reduceCtorEq, Nat.reduceAdd, Nat.reduceSub, Nat.reduceMul, Int.reduceToNat, Nat.reduceLeDiff, Q88]
          refine .inr ⟨hck, mp, rfl, _, rfl, ⟨?_, ?_, ?_, ?_⟩, ?_, hs1.mono hMN⟩
          · exact hom
          · intro l hl
            match l, hl with
            | 0, _ => exact ⟨rfl, rfl, Nat.le_refl _, by simp [maxLen]⟩
            | 1, _ => exact ⟨rfl, rfl, Nat.le_refl _, by simp [maxLen]⟩
            | 2, _ => exact ⟨rfl, rfl, Nat.le_refl _, by simp [maxLen]⟩
          · dsimp only
            rw [List.length_replicate]
            exact hot
          · intro q hq
            rw [List.eq_of_mem_replicate hq]
            exact ⟨rfl, rfl⟩
          · simp only [PM.vm, VM.new, List.map_replicate, List.length_map, List.map_const', initT]
        · have e1 : hdL (.slice a' (List.map expT ts).length c') (rowV mb (VM.new (List.map expT ts)).msgs.length mc) (lnH (VM.new (List.map expT ts)).line fun j => (lb j, 1, [])) (rowV tb (List.replicate (List.map expT ts).length (initT, (none : Vec))).length tc) noV =
              hdL (.slice a' (List.map expT ts).length c') (osv (some (mb, mc, ms)) 3) (newL lb 3) (osv (some (tb, tc, tsp)) (List.map expT ts).length) noV := by
            simp [hdL, lnH, newL, VM.new, oad, ocap]
          have e3 : List.flatMap encMsg (VM.new (List.map expT ts)).msgs = newC 3 := by simp [newC, VM.new, initM, List.range_succ]
          have e4 : (lnG (VM.new (List.map expT ts)).line fun j => (lb j, 1, [])) = newR lb 3 := by simp [lnG, newR, VM.new, List.range_succ]
          have e5 : rdsG (List.replicate (List.map expT ts).length (initT, (none : Vec))) = [] := by simp [rdsG, osg]
          simp only [PM.G]
          rw [e1, e3, e4, e5, List.append_nil]
          exact List.Sublist.refl _

end
end Go.EV

namespace Go.EV
open Go.Proofs

section
variable {P : Program} {C : Cx P} {f : FuncId} {args : Array Value} {M : PHeap} {G G2 G3 : Own} {K : Value → PHeap → Own → Prop}

theorem CallW.freeze (hG : G.Perm (G2 ++ G3)) (h : CallW C f args (M.add G2) G3 K) : CallW C f args M G K :=
  ⟨h.1, fun w hs cs => h.2 w (hs.perm hG).freeze cs⟩

end

def saneL : List (List OpV) := [[⟨1, 0, 1, 0, 0⟩, ⟨0, 0, 0, 0, 0⟩]]
theorem sane_ck : checkP saneL = 0 := by decide
def sane0 : VM := VM.new (saneL.map expT)
def sane1 : VM := (sane0.step 0 0).1
def sane2 : VM := (sane1.step 0 0).1
theorem sane_e0 : (sane0.step 0 0).2 = 0 := by rfl
theorem sane_c1 : sane1.choicesR 0 = (1, 0) := by rfl
theorem sane_e1 : (sane1.step 0 0).2 = 0 := by rfl
theorem sane_over : sane2.over = true := by rfl

section
variable {M : PHeap}

set_option maxRecDepth 8000 in
theorem sane_q : ConQ Try.prog 9 #[] M (vb true) := by
  have iv0 : sane0.Inv 10 := new_inv sane_ck (by decide) (by decide) (by decide)
  have iv1 : sane1.Inv 12 := (step_inv iv0 (by decide) 0 0).1
  have iv2 : sane2.Inv 14 := (step_inv iv1 (by decide) 0 0).1
  refine Con.enter Q16_ok (args := []) (by simp [Q16]) fun w0 => ?_
  simp only [Q16, argE]
  repeat' first
      | refine EV.seq ?_
      | (refine EV.reg ?_; (conv => (arg 2; whnf)); simp only [push_cast, Int.cast_ofNat_Int, reduceIte, Nat.reduceEqDiff, reduceCtorEq, Nat.reduceAdd, Nat.reduceSub, Nat.reduceMul, Int.reduceToNat, Nat.reduceLeDiff])
      | (with_reducible intro b; try simp only [push_cast, Int.cast_ofNat_Int, reduceIte, Nat.reduceEqDiff, reduceCtorEq, Nat.reduceAdd, Nat.reduceSub, Nat.reduceMul, Int.reduceToNat, Nat.reduceLeDiff])
      | fail
  rename_i b1
  have hs : SlSl (M.add [(b, Cl 53 [.slice (some ⟨b1, 0, none⟩) 2 2]), (b1, Cl 55 [vi 1, vi 0, vi 1, vi 0, vi 0, vi 0, vi 0, vi 0, vi 0, vi 0])]) 5 encOp (.slice (some ⟨b, 0, none⟩) 1 1) saneL := by
    refine ⟨_, _, [.slice (some ⟨b1, 0, none⟩) 2 2], rfl, rfl, Or.inr ⟨b, 0, rfl, rd_own' 0 rfl rfl (by simp [saneL])⟩, fun i h h' => ?_⟩
    match i, h' with
    | 0, _ => exact ⟨_, _, rfl, Or.inr ⟨b1, 0, rfl, rd_own' 1 rfl rfl (by simp [saneL])⟩⟩
  refine CallW.freeze (G3 := []) (by rw [List.append_nil]) ?_
  refine Con.callA (G1 := []) (view_New_c saneL _ hs (by decide) (by decide)) (List.Perm.refl _) ?_
  rintro v M1 G1 hM1 (⟨h, _⟩ | ⟨_, mp, p, rfl, rfl, ok, hvm, hpg⟩)
  · exact absurd sane_ck h
  have hv0 : p.vm = sane0 := hvm
  simp only [push_cast, Int.cast_ofNat_Int, reduceIte, Nat.reduceEqDiff, reduceCtorEq, Nat.reduceAdd, Nat.reduceSub, Nat.reduceMul, Int.reduceToNat, Nat.reduceLeDiff]
  repeat' first
      | refine EV.seq ?_
      | (refine EV.reg ?_; (conv => (arg 2; whnf)); simp only [push_cast, Int.cast_ofNat_Int, reduceIte, Nat.reduceEqDiff, reduceCtorEq, Nat.reduceAdd, Nat.reduceSub, Nat.reduceMul, Int.reduceToNat, Nat.reduceLeDiff])
      | (refine condW.intro (fun hc => ?_) (fun hc => ?_) <;> try simp only [ne_eq, Bool.not_true, Bool.not_false, not_true_eq_false, not_false_eq_true, reduceCtorEq] at hc <;> try (exfalso; first | exact hc | omega | (simp at hc; done)))
      | fail
  have wf0 : p.vm.Wf 10 := hv0 ▸ iv0.wf
  refine Con.callA (view_Step_c p ok hpg wf0 (by decide) 0 0) (by rw [List.append_nil]) ?_
  rintro v M2 G2 hM2 ⟨rfl, p2, rfl, ok2, hvm2, e1, e2⟩
  have hv1 : p2.vm = sane1 := by rw [hvm2, hv0]; rfl
  have hpg2 : SlSl M2 5 encOp (.slice p2.pg p2.prog.length p2.pc) p2.prog := by
    have : p2.prog = p.prog := (congrArg VM.prog hv1).trans (((step_inv iv0 (by decide) 0 0).2.pr).trans (congrArg VM.prog hv0).symm)
    rw [e1, e2, this]; exact hpg.mono hM2
  have wf1 : p2.vm.Wf 12 := hv1 ▸ iv1.wf
  rw [hv0, sane_e0]
  simp only [push_cast, Int.cast_ofNat_Int, reduceIte, Nat.reduceEqDiff, reduceCtorEq, Nat.reduceAdd, Nat.reduceSub, Nat.reduceMul, Int.reduceToNat, Nat.reduceLeDiff]
  repeat' first
      | refine EV.seq ?_
      | refine EV.skip ?_
      | (refine EV.reg ?_; (conv => (arg 2; whnf)); simp only [push_cast, Int.cast_ofNat_Int, reduceIte, Nat.reduceEqDiff, reduceCtorEq, Nat.reduceAdd, Nat.reduceSub, Nat.reduceMul, Int.reduceToNat, Nat.reduceLeDiff, hv1, sane_c1])
      | (refine ConQ.call (view_Choices_q (PM.rdM ok2 hpg2 (fun q hq => by simp [hq])) wf1 _) ?_; try simp only [push_cast, Int.cast_ofNat_Int, reduceIte, Nat.reduceEqDiff, reduceCtorEq, Nat.reduceAdd, Nat.reduceSub, Nat.reduceMul, Int.reduceToNat, Nat.reduceLeDiff, hv1, sane_c1])
      | (refine condW.intro (fun hc => ?_) (fun hc => ?_) <;> try simp only [ne_eq, Bool.not_true, Bool.not_false, not_true_eq_false, not_false_eq_true, reduceCtorEq] at hc <;> try (exfalso; first | exact hc | omega | (simp at hc; done)))
      | ((refine EV.cond rfl (fun h => ?_) (fun h => ?_) <;> try simp only [reduceCtorEq, reduceIte, if_true, if_false, Bool.not_eq_true', Bool.not_eq_false', decide_eq_true_eq, decide_eq_false_iff_not, Bool.and_eq_true, Bool.or_eq_true, Bool.and_eq_false_iff, Bool.or_eq_false_iff] at h) <;> try (exfalso; first | exact h True.intro | (exact h; done) | omega | (simp only [not_true_eq_false, false_or, or_false] at h; omega)))
      | fail
  refine Con.callA (view_Step_c p2 ok2 hpg2 wf1 (by decide) 0 0) (by rw [List.append_nil]) ?_
  rintro v M3 G3 hM3 ⟨rfl, p3, rfl, ok3, hvm3, e3, e4⟩
  have hv2 : p3.vm = sane2 := by rw [hvm3, hv1]; rfl
  have hpg3 : SlSl M3 5 encOp (.slice p3.pg p3.prog.length p3.pc) p3.prog := by
    have : p3.prog = p2.prog := (congrArg VM.prog hv2).trans (((step_inv iv1 (by decide) 0 0).2.pr).trans (congrArg VM.prog hv1).symm)
    rw [e3, e4, this]; exact hpg2.mono hM3
  have wf2 : p3.vm.Wf 14 := hv2 ▸ iv2.wf
  rw [hv1, sane_e1]
  simp only [push_cast, Int.cast_ofNat_Int, reduceIte, Nat.reduceEqDiff, reduceCtorEq, Nat.reduceAdd, Nat.reduceSub, Nat.reduceMul, Int.reduceToNat, Nat.reduceLeDiff]
  repeat' first
      | (refine ConQ.call (view_Over_q (PM.rdM ok3 hpg3 (fun q hq => by simp [hq])) wf2) ?_; try simp only [push_cast, Int.cast_ofNat_Int, reduceIte, Nat.reduceEqDiff, reduceCtorEq, Nat.reduceAdd, Nat.reduceSub, Nat.reduceMul, Int.reduceToNat, Nat.reduceLeDiff, hv2, sane_over])
      | (refine condW.intro (fun hc => ?_) (fun hc => ?_) <;> try simp only [ne_eq, Bool.not_true, Bool.not_false, not_true_eq_false, not_false_eq_true, reduceCtorEq] at hc <;> try (exfalso; first | exact hc | omega | (simp at hc; done)))
      | (refine EV.ret Q16_ok ?_; simp only [push_cast, Int.cast_ofNat_Int, reduceIte, Nat.reduceEqDiff, reduceCtorEq, Nat.reduceAdd, Nat.reduceSub, Nat.reduceMul, Int.reduceToNat, Nat.reduceLeDiff, hv2, sane_over, Q16])
      | fail

end
end Go.EV

namespace Go.EV
open Go.Proofs

def largeGo : Nat → List (List OpV) → Bool
  | n, [] => decide (60 ≤ n)
  | n, t :: ts => if 60 ≤ n then true else largeGo (n + t.length) ts
def largeP (ts : List (List OpV)) : Bool := largeGo ts.length ts

theorem largeGo_small : ∀ (ts : List (List OpV)) (n : Nat), largeGo n ts = false → n + ts.flatten.length < 60
  | [], n, h => by simp [largeGo] at h; simpa using h
  | t :: ts, n, h => by
    simp only [largeGo] at h
    split at h
    · cases h
    · have := largeGo_small ts _ h
      rw [List.flatten_cons, List.length_append]; omega

theorem largeP_small {ts : List (List OpV)} (h : largeP ts = false) : ts.length + ts.flatten.length < 60 := largeGo_small ts _ h

section
variable {M : PHeap} {mp : Nat} {B : Nat}

set_option maxHeartbeats 4000000 in
theorem large_q (ts : List (List OpV)) (s : Value) (hs : SlSl M 5 encOp s ts) (hb : ts.length ≤ 140737488355328) (hb2 : ∀ t ∈ ts, t.length ≤ 140737488355328) : ConQ Try.prog 8 #[.agg #[s]] M (vb (largeP ts)) := by
  obtain ⟨a, c, vs, rfl, hl, hrd, hk⟩ := hs
  refine Con.enter Q15_ok (args := [.agg #[.slice a ts.length c]]) (by simp [Q15]) fun w0 => ?_
  simp only [Q15, argE]
  repeat' first
      | refine EV.seq ?_
      | refine EV.block ?_
      | (refine EV.reg ?_; (conv => (arg 2; whnf)); simp only [push_cast, Int.cast_ofNat_Int, reduceIte, Nat.reduceEqDiff, reduceCtorEq, Nat.reduceAdd, Nat.reduceSub, Nat.reduceMul, Int.reduceToNat, Nat.reduceLeDiff])
      | ((first | with_reducible intro b | refine xs rfl (by simp only [List.length_cons, List.length_nil]; omega) ?_ | fail); try simp only [push_cast, Int.cast_ofNat_Int, reduceIte, Nat.reduceEqDiff, reduceCtorEq, Nat.reduceAdd, Nat.reduceSub, Nat.reduceMul, Int.reduceToNat, Nat.reduceLeDiff])
      | fail
  refine EV.to (ρ' := [(1, pv b 0), (3, vi ts.length), (4, vi (0 : Nat))]) (G' := [(b, Cl 24 [.slice a ts.length c])]) ?_ ?env0 (by (repeat' first | exact List.Sublist.refl _ | exact List.nil_sublist _ | exact List.sublist_append_left _ _ | refine List.Sublist.cons_cons _ ?_ | refine List.Sublist.append_left ?_ _ | refine List.sublist_append_of_sublist_right ?_ | refine List.Sublist.cons _ ?_))
  case env0 =>
    repeat' first
      | (refine List.forall_mem_cons.2 (And.intro ?_ ?_))
      | (intro _ hnil; cases hnil; done)
      | rfl
      | fail
  refine EV.loop (fun x : Nat × Nat => ([(1, pv b 0), (3, vi x.2), (4, vi x.1)], M, [(b, Cl 24 [.slice a ts.length c])])) (fun x => x.1 ≤ ts.length ∧ (x.1 ≠ 0 → x.1 ≤ 60) ∧ ts.length ≤ x.2 ∧ x.2 ≤ 9223372036854775000 ∧ largeP ts = largeGo x.2 (ts.drop x.1)) (fun x => ts.length - x.1) (0, ts.length) ⟨Nat.zero_le _, by simp, Nat.le_refl _, by dsimp only; omega, rfl⟩ ?_
  rintro ⟨i, n⟩ ⟨hi, hi60, hn0, hn, hlg⟩ ih
  dsimp only at hi hi60 hn0 hn hlg ih ⊢
  repeat' first
      | refine EV.seq ?_
      | refine EV.skip ?_
      | refine EV.block ?_
      | (refine EV.reg ?_; (conv => (arg 2; whnf)); simp only [push_cast, Int.cast_ofNat_Int, reduceIte, Nat.reduceEqDiff, reduceCtorEq, Nat.reduceAdd, Nat.reduceSub, Nat.reduceMul, Int.reduceToNat, Nat.reduceLeDiff])
      | assumption
      | (refine condW.merge ?_ (fun hc K' hK => ?_) ?_; rotate_left)
      | ((refine EV.cond rfl (fun h => ?_) (fun h => ?_) <;> try simp only [reduceCtorEq, reduceIte, if_true, if_false, Bool.not_eq_true', Bool.not_eq_false', decide_eq_true_eq, decide_eq_false_iff_not, Bool.and_eq_true, Bool.or_eq_true, Bool.and_eq_false_iff, Bool.or_eq_false_iff] at h) <;> try (exfalso; first | exact h True.intro | (exact h; done) | omega | (simp only [not_true_eq_false, false_or, or_false] at h; omega)))
      | (refine EV.exit rfl ?_)
      | (refine xs rfl (by simp only [List.length_cons, List.length_nil]; omega) ?_; try simp only [push_cast, Int.cast_ofNat_Int, reduceIte, Nat.reduceEqDiff, reduceCtorEq, Nat.reduceAdd, Nat.reduceSub, Nat.reduceMul, Int.reduceToNat, Nat.reduceLeDiff])
      | fail
  · obtain ⟨h1, h2⟩ := h
    have hi' : i < ts.length := by omega
    obtain ⟨pb, po, rfl, hat⟩ := SlSl.at hrd hl hk (by omega)
    obtain ⟨a', c', hr1, hr2⟩ := hat i hi'
    simp only [Nat.mul_one] at hr1
    have hbi := hb2 ts[i] (List.getElem_mem hi')
    repeat' first
        | refine EV.inBlock ?_
        | (refine EV.reg ?_; (conv => (arg 2; whnf)); simp only [push_cast, Int.cast_ofNat_Int, reduceIte, Nat.reduceEqDiff, reduceCtorEq, Nat.reduceAdd, Nat.reduceSub, Nat.reduceMul, Int.reduceToNat, Nat.reduceLeDiff])
        | (refine And.intro (by omega) ?_)
        | (refine Exists.intro _ (Exists.intro _ (Exists.intro _ (And.intro (rd_M (by assumption)) ?_))); try simp only [push_cast, Int.cast_ofNat_Int, reduceIte, Nat.reduceEqDiff, reduceCtorEq, Nat.reduceAdd, Nat.reduceSub, Nat.reduceMul, Int.reduceToNat, Nat.reduceLeDiff])
        | fail
    have e : ts.drop i = ts[i] :: ts.drop (i + 1) := List.drop_eq_getElem_cons hi'
    refine EV.to (ih (i + 1, n + ts[i].length) ⟨by dsimp only; omega, by dsimp only; omega, by dsimp only; omega, by dsimp only; omega, ?_⟩ (by dsimp only; omega)) ?_ (by (repeat' first | exact List.Sublist.refl _ | exact List.nil_sublist _ | exact List.sublist_append_left _ _ | refine List.Sublist.cons_cons _ ?_ | refine List.Sublist.append_left ?_ _ | refine List.sublist_append_of_sublist_right ?_ | refine List.Sublist.cons _ ?_))
    · dsimp only
      rw [hlg, e, largeGo, if_neg (by omega)]
    · repeat' first
        | (refine List.forall_mem_cons.2 (And.intro ?_ ?_))
        | (intro _ hnil; cases hnil; done)
        | rfl
        | (refine env_w64 rfl (by first | rfl | (push_cast; first | rfl | omega)) (by omega) (by omega); done)
        | fail
  · refine EV.ret Q15_ok ?_
    simp only [push_cast, Int.cast_ofNat_Int, reduceIte, Nat.reduceEqDiff, reduceCtorEq, Nat.reduceAdd, Nat.reduceSub, Nat.reduceMul, Int.reduceToNat, Nat.reduceLeDiff, Q15]
    rw [hlg]
    have : decide ((60 : Int) ≤ (n : Int)) = decide (60 ≤ n) := by simp only [decide_eq_decide]; omega
    rw [this]
    cases hd : ts.drop i with
    | nil => simp only [largeGo]
    | cons t r =>
      have : ¬ i ≥ ts.length := fun hge => by rw [List.drop_eq_nil_of_le hge] at hd; cases hd
      have h60 : 60 ≤ n := by omega
      simp only [largeGo, h60, if_true, decide_true]

theorem rd_ints {G : Own} {b : Nat} {T : TypeId} {xs : List Int} {i : Nat} (hi : i < xs.length) [h : At G b T (xs.map vi)] : rd (M.add G) b i 1 [vi xs[i]!] := rd_at h.mem (map_part vi xs hi) (by rw [List.length_map]; omega)

theorem ints_st (xs : List Int) {i : Nat} (hi : i < xs.length) (x : Int) : (xs.map vi).take i ++ (vi x :: (xs.map vi).drop (i + 1)) = (xs.set i x).map vi := by
  rw [List.map_set, List.set_eq_take_append_cons_drop, if_pos (by rw [List.length_map]; exact hi)]

/-- What is noted of what was seen is not behind it. -/
def Seen (n : Nat) (seen : List Int) (m : VM) : Prop := ∀ t, t < n → ∀ l, l < 3 → seen[t * 3 + l]! ≤ (place m.line l (m.thr[t]!.now l) : Int)

theorem set_get' (xs : List Int) (i j : Nat) (x : Int) (hi : i < xs.length) : (xs.set i x)[j]! = if j = i then x else xs[j]! := set_get xs i j x hi

theorem reach_ok {m : VM} {t l : Nat} (ht : t < m.thr.length) (hl : l < 3) : m.reachR t l = ((place m.line l (m.thr[t]!.now l) : Int), 0) := by
  have h : (m.bad t || decide ((l : Int) < 0) || decide (3 ≤ (l : Int))) = false := by
    rw [bad_ok ht]; simp; omega
  simp only [VM.reachR, h, Int.toNat_natCast, Bool.false_eq_true, if_false]

set_option maxRecDepth 8000 in
set_option maxHeartbeats 8000000 in
theorem ViewReaches_q (ts : List (List OpV)) (s : Value) (hs : SlSl M 5 encOp s ts) (hb : ts.length ≤ 140737488355328) (hb2 : ∀ t ∈ ts, t.length ≤ 140737488355328) (turns : List (Int × Int)) (tv : Value) (htv : Sl M 2 encTurn tv turns) (hbt : turns.length ≤ 140737488355328) :
    ConQ Try.prog 3 #[.agg #[s], tv] M (vb true) := by
  have hs0 := hs
  obtain ⟨a, c, vs, rfl, _⟩ := hs
  obtain ⟨ta, tc, rfl, hrt⟩ := htv
  refine Con.enter Q12_ok (args := [.agg #[.slice a ts.length c], .slice ta turns.length tc]) (by simp [Q12]) fun w0 => ?_
  simp only [Q12, argE]
  repeat' first
      | refine EV.seq ?_
      | refine EV.skip ?_
      | (refine EV.reg ?_; (conv => (arg 2; whnf)); simp only [push_cast, Int.cast_ofNat_Int, reduceIte, Nat.reduceEqDiff, reduceCtorEq, Nat.reduceAdd, Nat.reduceSub, Nat.reduceMul, Int.reduceToNat, Nat.reduceLeDiff])
      | ((first | refine ConQ.call (sane_q) ?_ | refine ConQ.call (large_q ts _ (hs0.mono (PHeap.le_add _ _)) hb hb2) ?_ | fail); try simp only [push_cast, Int.cast_ofNat_Int, reduceIte, Nat.reduceEqDiff, reduceCtorEq, Nat.reduceAdd, Nat.reduceSub, Nat.reduceMul, Int.reduceToNat, Nat.reduceLeDiff])
      | assumption
      | (refine condW.merge ?_ (fun hc K' hK => ?_) ?_; rotate_left)
      | ((refine EV.cond rfl (fun h => ?_) (fun h => ?_) <;> try simp only [reduceCtorEq, reduceIte, if_true, if_false, Bool.not_eq_true', Bool.not_eq_false', decide_eq_true_eq, decide_eq_false_iff_not, Bool.and_eq_true, Bool.or_eq_true, Bool.and_eq_false_iff, Bool.or_eq_false_iff] at h) <;> try (exfalso; first | exact h True.intro | (exact h; done) | omega | (simp only [not_true_eq_false, false_or, or_false] at h; omega)))
      | (refine EV.ret Q12_ok ?_; simp only [push_cast, Int.cast_ofNat_Int, reduceIte, Nat.reduceEqDiff, reduceCtorEq, Nat.reduceAdd, Nat.reduceSub, Nat.reduceMul, Int.reduceToNat, Nat.reduceLeDiff, Q12])
      | ((first | with_reducible intro b | refine xr rfl (by simp only [List.length_cons, List.length_nil]; omega) ?_ | fail); try simp only [push_cast, Int.cast_ofNat_Int, reduceIte, Nat.reduceEqDiff, reduceCtorEq, Nat.reduceAdd, Nat.reduceSub, Nat.reduceMul, Int.reduceToNat, Nat.reduceLeDiff])
      | fail
  · obtain ⟨hl1, hl2⟩ := h
    have hsm := largeP_small hl1
    refine Con.callA (G1 := []) (view_New_c ts _ hs0 (by omega) (by omega)) (List.Perm.refl _) ?_
    rintro v M1 G1 hM1 (⟨hne, rfl⟩ | ⟨hck, mp, p, rfl, rfl, ok, hvm, hpg⟩)
    · simp only [push_cast, Int.cast_ofNat_Int, reduceIte, Nat.reduceEqDiff, reduceCtorEq, Nat.reduceAdd, Nat.reduceSub, Nat.reduceMul, Int.reduceToNat, Nat.reduceLeDiff]
      repeat' first
          | refine EV.seq ?_
          | (refine EV.reg ?_; (conv => (arg 2; whnf)); simp only [push_cast, Int.cast_ofNat_Int, reduceIte, Nat.reduceEqDiff, reduceCtorEq, Nat.reduceAdd, Nat.reduceSub, Nat.reduceMul, Int.reduceToNat, Nat.reduceLeDiff])
          | (refine ConQ.call (sane_q) ?_; try simp only [push_cast, Int.cast_ofNat_Int, reduceIte, Nat.reduceEqDiff, reduceCtorEq, Nat.reduceAdd, Nat.reduceSub, Nat.reduceMul, Int.reduceToNat, Nat.reduceLeDiff])
          | assumption
          | (refine condW.merge ?_ (fun hc K' hK => ?_) ?_; rotate_left)
          | ((refine EV.cond rfl (fun h => ?_) (fun h => ?_) <;> try simp only [reduceCtorEq, reduceIte, if_true, if_false, Bool.not_eq_true', Bool.not_eq_false', decide_eq_true_eq, decide_eq_false_iff_not, Bool.and_eq_true, Bool.or_eq_true, Bool.and_eq_false_iff, Bool.or_eq_false_iff] at h) <;> try (exfalso; first | exact h True.intro | (exact h; done) | omega | (simp only [not_true_eq_false, false_or, or_false] at h; omega)))
          | (refine EV.ret Q12_ok ?_; simp only [push_cast, Int.cast_ofNat_Int, reduceIte, Nat.reduceEqDiff, reduceCtorEq, Nat.reduceAdd, Nat.reduceSub, Nat.reduceMul, Int.reduceToNat, Nat.reduceLeDiff, Q12])
          | fail
    · simp only [push_cast, Int.cast_ofNat_Int, reduceIte, Nat.reduceEqDiff, reduceCtorEq, Nat.reduceAdd, Nat.reduceSub, Nat.reduceMul, Int.reduceToNat, Nat.reduceLeDiff]
      repeat' first
          | refine EV.seq ?_
          | refine EV.skip ?_
          | refine EV.block ?_
          | (refine EV.reg ?_; (conv => (arg 2; whnf)); simp only [push_cast, Int.cast_ofNat_Int, reduceIte, Nat.reduceEqDiff, reduceCtorEq, Nat.reduceAdd, Nat.reduceSub, Nat.reduceMul, Int.reduceToNat, Nat.reduceLeDiff])
          | (refine ConQ.call (sane_q) ?_; try simp only [push_cast, Int.cast_ofNat_Int, reduceIte, Nat.reduceEqDiff, reduceCtorEq, Nat.reduceAdd, Nat.reduceSub, Nat.reduceMul, Int.reduceToNat, Nat.reduceLeDiff])
          | assumption
          | (refine condW.merge ?_ (fun hc K' hK => ?_) ?_; rotate_left)
          | ((refine EV.cond rfl (fun h => ?_) (fun h => ?_) <;> try simp only [reduceCtorEq, reduceIte, if_true, if_false, Bool.not_eq_true', Bool.not_eq_false', decide_eq_true_eq, decide_eq_false_iff_not, Bool.and_eq_true, Bool.or_eq_true, Bool.and_eq_false_iff, Bool.or_eq_false_iff] at h) <;> try (exfalso; first | exact h True.intro | (exact h; done) | omega | (simp only [not_true_eq_false, false_or, or_false] at h; omega)))
          | (with_reducible intro b; try simp only [push_cast, Int.cast_ofNat_Int, reduceIte, Nat.reduceEqDiff, reduceCtorEq, Nat.reduceAdd, Nat.reduceSub, Nat.reduceMul, Int.reduceToNat, Nat.reduceLeDiff])
          | (refine And.intro (by omega) ?_)
          | fail
      all_goals try (exfalso; simp at h; done)
      have iv0 := new_inv hck (by omega) (show 10 < 1000000 by decide) (by decide)
      rw [← hvm] at iv0
      have htl : p.vm.thr.length = ts.length := by rw [hvm]; simp [VM.new]
      have hn3 : ts.length ≤ 3 := htl ▸ iv0.wf.t3
      rename_i b2
      refine EV.permG ?_ (List.Perm.swap _ _ _)
      refine EV.freeze (G₁ := [_]) ?_
      generalize hN : M1.add [(b2, Cl 24 [.slice a ts.length c])] = N
      have hMN : M1.le N := hN ▸ PHeap.le_add _ _
      have hb2r : rd N b2 0 1 [.slice a ts.length c] := hN ▸ rd_own' 0 rfl rfl (by simp)
      have hpgN := hpg.mono hMN
      have hrtN := (hrt.mono hM1).mono hMN
      clear hN
      refine EV.to (ρ' := [(1, .slice ta turns.length tc), (2, pv b2 0), (5, pv mp 0), (7, rowV b 9 9), (8, vi (0 : Nat))]) (G' := (b, Cl 3 ((List.replicate 9 (0 : Int)).map vi)) :: p.G mp) ?_ ?env0 (List.Sublist.refl _)
      case env0 =>
        repeat' first
          | (refine List.forall_mem_cons.2 (And.intro ?_ ?_))
          | (intro _ hnil; cases hnil; done)
          | rfl
          | fail
      refine EV.loop (fun x : Nat × PM × List Int => ([(1, .slice ta turns.length tc), (2, pv b2 0), (5, pv mp 0), (7, rowV b 9 9), (8, vi x.1)], N, (b, Cl 3 (x.2.2.map vi)) :: x.2.1.G mp))
        (fun x => x.1 ≤ turns.length ∧ x.2.1.Ok ∧ SlSl N 5 encOp (.slice x.2.1.pg x.2.1.prog.length x.2.1.pc) x.2.1.prog ∧ x.2.1.vm.Inv (10 + 2 * x.1) ∧ x.2.1.vm.thr.length = ts.length ∧ x.2.2.length = 9 ∧ Seen ts.length x.2.2 x.2.1.vm)
        (fun x => turns.length - x.1) (0, p, List.replicate 9 0) ⟨Nat.zero_le _, ok, hpgN, iv0, htl, by simp, fun t ht l hl => ?_⟩ ?_
      · dsimp only
        have e : (List.replicate 9 (0 : Int))[t * 3 + l]! = 0 := by rw [getB (by simp; omega), List.getElem_replicate]
        rw [e]; omega
      rintro ⟨i, p, seen⟩ ⟨hi, ok, hpg, iv, htl, hsl, hseen⟩ ih
      dsimp only at hi ok hpg iv htl hsl hseen ih ⊢
      repeat' first
          | refine EV.seq ?_
          | refine EV.skip ?_
          | refine EV.block ?_
          | (refine EV.reg ?_; (conv => (arg 2; whnf)); simp only [push_cast, Int.cast_ofNat_Int, reduceIte, Nat.reduceEqDiff, reduceCtorEq, Nat.reduceAdd, Nat.reduceSub, Nat.reduceMul, Int.reduceToNat, Nat.reduceLeDiff, List.length_map, hsl])
          | (refine ConQ.call (sane_q) ?_; try simp only [push_cast, Int.cast_ofNat_Int, reduceIte, Nat.reduceEqDiff, reduceCtorEq, Nat.reduceAdd, Nat.reduceSub, Nat.reduceMul, Int.reduceToNat, Nat.reduceLeDiff, List.length_map, hsl])
          | ((refine EV.cond rfl (fun h => ?_) (fun h => ?_) <;> try simp only [reduceCtorEq, reduceIte, if_true, if_false, Bool.not_eq_true', Bool.not_eq_false', decide_eq_true_eq, decide_eq_false_iff_not, Bool.and_eq_true, Bool.or_eq_true, Bool.and_eq_false_iff, Bool.or_eq_false_iff] at h) <;> try (exfalso; first | exact h True.intro | (exact h; done) | omega | (simp only [not_true_eq_false, false_or, or_false] at h; omega)))
          | (refine EV.exit rfl ?_)
          | fail
      · have hi' : i < turns.length := by omega
        obtain ⟨tb, to, rfl, hat⟩ := Sl.at (enc := encTurn) (fun _ => rfl) (by omega) hrtN (by omega)
        have hr0 := (hat i hi').part' 0 1 (by omega) rfl
        have hr1 := (hat i hi').part' 1 1 (by omega) rfl
        refine EV.any (t := Q12_9) _ (List.Sublist.refl _) ?_
        simp only [push_cast, Int.cast_ofNat_Int, reduceIte, Nat.reduceEqDiff, reduceCtorEq, Nat.reduceAdd, Nat.reduceSub, Nat.reduceMul, Int.reduceToNat, Nat.reduceLeDiff, Q12_9]
        repeat' first
            | (refine And.intro (by omega) ?_)
            | (refine Exists.intro _ (And.intro (rd_M (by assumption)) ?_); try simp only [push_cast, Int.cast_ofNat_Int, reduceIte, Nat.reduceEqDiff, reduceCtorEq, Nat.reduceAdd, Nat.reduceSub, Nat.reduceMul, Int.reduceToNat, Nat.reduceLeDiff])
            | fail
        refine Con.callB (Mr := N) (view_Step_c p ok hpg iv.wf (by omega) _ _) (PHeap.le_add _ _) (List.perm_append_comm (l₁ := [_]) (l₂ := p.G mp)) ?_
        rintro v M2 G2 ⟨rfl, p2, rfl, ok2, hvm2, e1, e2⟩
        obtain ⟨iv2, le2⟩ := step_inv iv (by omega) turns[i].1 turns[i].2
        rw [← hvm2] at iv2 le2
        have hpg2 : SlSl N 5 encOp (.slice p2.pg p2.prog.length p2.pc) p2.prog := by
          have : p2.prog = p.prog := le2.pr
          rw [e1, e2, this]; exact hpg
        have htl2 : p2.vm.thr.length = ts.length := le2.tl.trans htl
        have hseen2 : Seen ts.length seen p2.vm := fun t ht l hl => by
          have h1 := hseen t ht l hl
          have h2 := le2.mono t (by omega) l hl
          omega
        simp only [push_cast, Int.cast_ofNat_Int, reduceIte, Nat.reduceEqDiff, reduceCtorEq, Nat.reduceAdd, Nat.reduceSub, Nat.reduceMul, Int.reduceToNat, Nat.reduceLeDiff]
        repeat' first
            | refine EV.seq ?_
            | refine EV.block ?_
            | (refine EV.reg ?_; (conv => (arg 2; whnf)); simp only [push_cast, Int.cast_ofNat_Int, reduceIte, Nat.reduceEqDiff, reduceCtorEq, Nat.reduceAdd, Nat.reduceSub, Nat.reduceMul, Int.reduceToNat, Nat.reduceLeDiff])
            | fail
        refine EV.to (ρ' := [(1, .slice (some ⟨tb, to, none⟩) turns.length tc), (2, pv b2 0), (5, pv mp 0), (7, rowV b 9 9), (8, vi i), (9, vi (0 : Nat))]) (G' := (b, Cl 3 (seen.map vi)) :: p2.G mp) ?_ ?env1 (List.Sublist.refl _)
        case env1 =>
          repeat' first
            | (refine List.forall_mem_cons.2 (And.intro ?_ ?_))
            | (intro _ hnil; cases hnil; done)
            | rfl
            | fail
        refine EV.loop (fun x : Nat × List Int => ([(1, .slice (some ⟨tb, to, none⟩) turns.length tc), (2, pv b2 0), (5, pv mp 0), (7, rowV b 9 9), (8, vi i), (9, vi x.1)], N, (b, Cl 3 (x.2.map vi)) :: p2.G mp))
          (fun x => x.1 ≤ ts.length ∧ x.2.length = 9 ∧ Seen ts.length x.2 p2.vm) (fun x => ts.length - x.1) (0, seen) ⟨Nat.zero_le _, hsl, hseen2⟩ ?_
        rintro ⟨t, seen⟩ ⟨ht, hsl, hseen⟩ ih2
        dsimp only at ht hsl hseen ih2 ⊢
        repeat' first
            | refine EV.seq ?_
            | refine EV.skip ?_
            | refine EV.block ?_
            | refine EV.inBlock ?_
            | (refine EV.reg ?_; (conv => (arg 2; whnf)); simp only [push_cast, Int.cast_ofNat_Int, reduceIte, Nat.reduceEqDiff, reduceCtorEq, Nat.reduceAdd, Nat.reduceSub, Nat.reduceMul, Int.reduceToNat, Nat.reduceLeDiff])
            | ((refine EV.cond rfl (fun h => ?_) (fun h => ?_) <;> try simp only [reduceCtorEq, reduceIte, if_true, if_false, Bool.not_eq_true', Bool.not_eq_false', decide_eq_true_eq, decide_eq_false_iff_not, Bool.and_eq_true, Bool.or_eq_true, Bool.and_eq_false_iff, Bool.or_eq_false_iff] at h) <;> try (exfalso; first | exact h True.intro | (exact h; done) | omega | (simp only [not_true_eq_false, false_or, or_false] at h; omega)))
            | (refine EV.exit rfl ?_)
            | (refine Exists.intro _ (Exists.intro _ (Exists.intro _ (And.intro (rd_M (by assumption)) ?_))); try simp only [push_cast, Int.cast_ofNat_Int, reduceIte, Nat.reduceEqDiff, reduceCtorEq, Nat.reduceAdd, Nat.reduceSub, Nat.reduceMul, Int.reduceToNat, Nat.reduceLeDiff])
            | fail
        · have ht' : t < ts.length := by omega
          refine EV.to (ρ' := [(1, .slice (some ⟨tb, to, none⟩) turns.length tc), (2, pv b2 0), (5, pv mp 0), (7, rowV b 9 9), (8, vi i), (9, vi t), (10, vi (0 : Nat))]) (G' := (b, Cl 3 (seen.map vi)) :: p2.G mp) ?_ ?env2 (List.Sublist.refl _)
          case env2 =>
            repeat' first
              | (refine List.forall_mem_cons.2 (And.intro ?_ ?_))
              | (intro _ hnil; cases hnil; done)
              | rfl
              | fail
          refine EV.loop (fun x : Nat × List Int => ([(1, .slice (some ⟨tb, to, none⟩) turns.length tc), (2, pv b2 0), (5, pv mp 0), (7, rowV b 9 9), (8, vi i), (9, vi t), (10, vi x.1)], N, (b, Cl 3 (x.2.map vi)) :: p2.G mp))
            (fun x => x.1 ≤ 3 ∧ x.2.length = 9 ∧ Seen ts.length x.2 p2.vm) (fun x => 3 - x.1) (0, seen) ⟨Nat.zero_le _, hsl, hseen⟩ ?_
          rintro ⟨l, seen⟩ ⟨hl, hsl, hseen⟩ ih3
          dsimp only at hl hsl hseen ih3 ⊢
          repeat' first
              | refine EV.seq ?_
              | refine EV.skip ?_
              | refine EV.block ?_
              | refine EV.inBlock ?_
              | (refine EV.reg ?_; (conv => (arg 2; whnf)); simp only [push_cast, Int.cast_ofNat_Int, reduceIte, Nat.reduceEqDiff, reduceCtorEq, Nat.reduceAdd, Nat.reduceSub, Nat.reduceMul, Int.reduceToNat, Nat.reduceLeDiff])
              | ((refine EV.cond rfl (fun h => ?_) (fun h => ?_) <;> try simp only [reduceCtorEq, reduceIte, if_true, if_false, Bool.not_eq_true', Bool.not_eq_false', decide_eq_true_eq, decide_eq_false_iff_not, Bool.and_eq_true, Bool.or_eq_true, Bool.and_eq_false_iff, Bool.or_eq_false_iff] at h) <;> try (exfalso; first | exact h True.intro | (exact h; done) | omega | (simp only [not_true_eq_false, false_or, or_false] at h; omega)))
              | (refine EV.exit rfl ?_)
              | fail
          · have hl' : l < 3 := by omega
            have hw1 : IntKind.i64.wrap ((t : Int) * 3) = (t : Int) * 3 := w64 (by omega) (by omega)
            have hw2 : IntKind.i64.wrap ((t : Int) * 3 + (l : Int)) = (t : Int) * 3 + l := w64 (by omega) (by omega)
            have hw3 : ((t : Int) * 3 + (l : Int)).toNat = t * 3 + l := by omega
            have hre := reach_ok (m := p2.vm) (t := t) (l := l) (by omega) hl'
            have hix : t * 3 + l < seen.length := by omega
            have hix9 : ((t * 3 + l : Nat) : Int) < 9 := by omega
            have hq := hseen t ht' l hl'
            repeat' first
                | refine EV.seq ?_
                | refine EV.skip ?_
                | refine EV.inBlock ?_
                | (refine EV.reg ?_; (conv => (arg 2; whnf)); simp only [push_cast, Int.cast_ofNat_Int, reduceIte, Nat.reduceEqDiff, reduceCtorEq, Nat.reduceAdd, Nat.reduceSub, Nat.reduceMul, Int.reduceToNat, Nat.reduceLeDiff, hre, hw1, hw2, hw3, List.length_map, hsl, ints_st seen hix])
                | ((first | refine Exists.intro _ (And.intro (rd_ints hix) ?_) | refine ConQ.call (view_Reach_q (PM.rdM ok2 hpg2 (fun q hq => by simp [hq])) iv2.wf _ _) ?_ | fail); try simp only [push_cast, Int.cast_ofNat_Int, reduceIte, Nat.reduceEqDiff, reduceCtorEq, Nat.reduceAdd, Nat.reduceSub, Nat.reduceMul, Int.reduceToNat, Nat.reduceLeDiff, hre, hw1, hw2, hw3, List.length_map, hsl, ints_st seen hix])
                | assumption
                | (refine condW.merge ?_ (fun hc K' hK => ?_) ?_; rotate_left)
                | ((refine EV.cond rfl (fun h => ?_) (fun h => ?_) <;> try simp only [reduceCtorEq, reduceIte, if_true, if_false, Bool.not_eq_true', Bool.not_eq_false', decide_eq_true_eq, decide_eq_false_iff_not, Bool.and_eq_true, Bool.or_eq_true, Bool.and_eq_false_iff, Bool.or_eq_false_iff] at h) <;> try (exfalso; first | exact h True.intro | (exact h; done) | omega | (simp only [not_true_eq_false, false_or, or_false] at h; omega)))
                | (refine And.intro (by omega) ?_)
                | (refine xw ?_; simp only [push_cast, Int.cast_ofNat_Int, reduceIte, Nat.reduceEqDiff, reduceCtorEq, Nat.reduceAdd, Nat.reduceSub, Nat.reduceMul, Int.reduceToNat, Nat.reduceLeDiff, hre, hw1, hw2, hw3, List.length_map, hsl, ints_st seen hix])
                | fail
            have hq2 : (seen.set (t * 3 + l) (place p2.vm.line l (p2.vm.thr[t]!.now l) : Int)).length = 9 := by rw [List.length_set]; exact hsl
            refine EV.to (ih3 (l + 1, seen.set (t * 3 + l) (place p2.vm.line l (p2.vm.thr[t]!.now l) : Int)) ⟨by dsimp only; omega, hq2, fun t2 ht2 l2 hl2 => ?_⟩ (by dsimp only; omega)) ?_ (by (repeat' first | exact List.Sublist.refl _ | exact List.nil_sublist _ | exact List.sublist_append_left _ _ | refine List.Sublist.cons_cons _ ?_ | refine List.Sublist.append_left ?_ _ | refine List.sublist_append_of_sublist_right ?_ | refine List.Sublist.cons _ ?_))
            · dsimp only
              rw [set_get' _ _ _ _ hix]
              by_cases e : t2 * 3 + l2 = t * 3 + l
              · rw [if_pos e]
                have : t2 = t := by omega
                have : l2 = l := by omega
                subst t2 l2
                exact Int.le_refl _
              · rw [if_neg e]; exact hseen t2 ht2 l2 hl2
            · repeat' first
                | (refine List.forall_mem_cons.2 (And.intro ?_ ?_))
                | (intro _ hnil; cases hnil; done)
                | rfl
                | (refine env_w64 rfl (by first | rfl | (push_cast; first | rfl | omega)) (by omega) (by omega); done)
                | fail
          · refine EV.to (ih2 (t + 1, seen) ⟨by dsimp only; omega, hsl, hseen⟩ (by dsimp only; omega)) ?_ (by (repeat' first | exact List.Sublist.refl _ | exact List.nil_sublist _ | exact List.sublist_append_left _ _ | refine List.Sublist.cons_cons _ ?_ | refine List.Sublist.append_left ?_ _ | refine List.sublist_append_of_sublist_right ?_ | refine List.Sublist.cons _ ?_))
            repeat' first
              | (refine List.forall_mem_cons.2 (And.intro ?_ ?_))
              | (intro _ hnil; cases hnil; done)
              | rfl
              | (refine env_w64 rfl (by first | rfl | (push_cast; first | rfl | omega)) (by omega) (by omega); done)
              | fail
        · refine EV.to (ih (i + 1, p2, seen) ⟨by dsimp only; omega, ok2, hpg2, by dsimp only; have : 10 + 2 * (i + 1) = 10 + 2 * i + 2 := by omega
                                                                                  rw [this]; exact iv2, htl2, hsl, hseen⟩ (by dsimp only; omega)) ?_ (by (repeat' first | exact List.Sublist.refl _ | exact List.nil_sublist _ | exact List.sublist_append_left _ _ | refine List.Sublist.cons_cons _ ?_ | refine List.Sublist.append_left ?_ _ | refine List.sublist_append_of_sublist_right ?_ | refine List.Sublist.cons _ ?_))
          repeat' first
            | (refine List.forall_mem_cons.2 (And.intro ?_ ?_))
            | (intro _ hnil; cases hnil; done)
            | rfl
            | (refine env_w64 rfl (by first | rfl | (push_cast; first | rfl | omega)) (by omega) (by omega); done)
            | fail
      · refine EV.ret Q12_ok ?_
        simp only [push_cast, Int.cast_ofNat_Int, reduceIte, Nat.reduceEqDiff, reduceCtorEq, Nat.reduceAdd, Nat.reduceSub, Nat.reduceMul, Int.reduceToNat, Nat.reduceLeDiff, Q12]

end
end Go.EV

namespace Go.EV
open Go.Proofs

section
variable {M : PHeap} {mp xp : Nat} {B : Nat}

/-- What both machines are, and may be read. -/
structure Both (M : PHeap) (mp xp : Nat) (p : PM) (q : RP) (B : Nat) : Prop where
  ok : p.Ok
  pg : SlSl M 5 encOp (.slice p.pg p.prog.length p.pc) p.prog
  iv : p.vm.Inv B
  ok2 : q.Ok
  vs : q.Vs M
  s : Sim p.vm q.rm

theorem Both.mono {p : PM} {q : RP} (b : Both M mp xp p q B) {M' : PHeap} (h : M.le M') : Both M' mp xp p q B := ⟨b.ok, b.pg.mono h, b.iv, b.ok2, b.vs.mono h, b.s⟩
theorem Both.rm {p : PM} {q : RP} (b : Both M mp xp p q B) : q.rm.Wf B := b.s.wf b.iv.wf
theorem Both.alike {p : PM} {q : RP} (b : Both M mp xp p q B) {G : Own} (h1 : ∀ x ∈ p.G mp, x ∈ G) (h2 : ∀ x ∈ q.G xp, x ∈ G) : ConQ Try.prog 19 #[pv mp 0, pv xp 0] (M.add G) (vb true) :=
  alike_q (PM.rdM b.ok b.pg h1) (RP.rdX b.ok2 b.vs h2) b.iv b.rm b.s

set_option maxRecDepth 8000 in
set_option maxHeartbeats 8000000 in
theorem ViewSteps_q (ts : List (List OpV)) (s : Value) (hs : SlSl M 5 encOp s ts) (hb : ts.length ≤ 140737488355328) (hb2 : ∀ t ∈ ts, t.length ≤ 140737488355328) (turns : List (Int × Int)) (tv : Value) (htv : Sl M 2 encTurn tv turns) (hbt : turns.length ≤ 140737488355328) :
    ConQ Try.prog 5 #[.agg #[s], tv] M (vb true) := by
  have hs0 := hs
  obtain ⟨a, c, vs, rfl, _⟩ := hs
  obtain ⟨ta, tc, rfl, hrt⟩ := htv
  refine Con.enter Q13_ok (args := [.agg #[.slice a ts.length c], .slice ta turns.length tc]) (by simp [Q13]) fun w0 => ?_
  simp only [Q13, argE]
  repeat' first
      | refine EV.seq ?_
      | refine EV.skip ?_
      | (refine EV.reg ?_; (conv => (arg 2; whnf)); simp only [push_cast, Int.cast_ofNat_Int, reduceIte, Nat.reduceEqDiff, reduceCtorEq, Nat.reduceAdd, Nat.reduceSub, Nat.reduceMul, Int.reduceToNat, Nat.reduceLeDiff])
      | ((first | refine ConQ.call (sane_q) ?_ | refine ConQ.call (large_q ts _ (hs0.mono (PHeap.le_add _ _)) hb hb2) ?_ | fail); try simp only [push_cast, Int.cast_ofNat_Int, reduceIte, Nat.reduceEqDiff, reduceCtorEq, Nat.reduceAdd, Nat.reduceSub, Nat.reduceMul, Int.reduceToNat, Nat.reduceLeDiff])
      | assumption
      | (refine condW.merge ?_ (fun hc K' hK => ?_) ?_; rotate_left)
      | ((refine EV.cond rfl (fun h => ?_) (fun h => ?_) <;> try simp only [reduceCtorEq, reduceIte, if_true, if_false, Bool.not_eq_true', Bool.not_eq_false', decide_eq_true_eq, decide_eq_false_iff_not, Bool.and_eq_true, Bool.or_eq_true, Bool.and_eq_false_iff, Bool.or_eq_false_iff] at h) <;> try (exfalso; first | exact h True.intro | (exact h; done) | omega | (simp only [not_true_eq_false, false_or, or_false] at h; omega)))
      | (refine EV.ret Q13_ok ?_; simp only [push_cast, Int.cast_ofNat_Int, reduceIte, Nat.reduceEqDiff, reduceCtorEq, Nat.reduceAdd, Nat.reduceSub, Nat.reduceMul, Int.reduceToNat, Nat.reduceLeDiff, Q13])
      | ((first | with_reducible intro b | refine xr rfl (by simp only [List.length_cons, List.length_nil]; omega) ?_ | fail); try simp only [push_cast, Int.cast_ofNat_Int, reduceIte, Nat.reduceEqDiff, reduceCtorEq, Nat.reduceAdd, Nat.reduceSub, Nat.reduceMul, Int.reduceToNat, Nat.reduceLeDiff])
      | fail
  · obtain ⟨hl1, hl2⟩ := h
    have hsm := largeP_small hl1
    refine Con.callA (G1 := []) (view_New_c ts _ hs0 (by omega) (by omega)) (List.Perm.refl _) ?_
    rintro v M1 G1 hM1 h1
    rcases h1 with ⟨hne, rfl⟩ | ⟨hck, mp, p, rfl, rfl, ok, hvm, hpg⟩
    · simp only [push_cast, Int.cast_ofNat_Int, reduceIte, Nat.reduceEqDiff, reduceCtorEq, Nat.reduceAdd, Nat.reduceSub, Nat.reduceMul, Int.reduceToNat, Nat.reduceLeDiff]
      repeat' first
          | refine EV.seq ?_
          | (refine EV.reg ?_; (conv => (arg 2; whnf)); simp only [push_cast, Int.cast_ofNat_Int, reduceIte, Nat.reduceEqDiff, reduceCtorEq, Nat.reduceAdd, Nat.reduceSub, Nat.reduceMul, Int.reduceToNat, Nat.reduceLeDiff])
          | (refine xr rfl (by simp only [List.length_cons, List.length_nil]; omega) ?_; try simp only [push_cast, Int.cast_ofNat_Int, reduceIte, Nat.reduceEqDiff, reduceCtorEq, Nat.reduceAdd, Nat.reduceSub, Nat.reduceMul, Int.reduceToNat, Nat.reduceLeDiff])
          | fail
      refine Con.callA (G1 := []) (ref_New_c ts _ (hs0.mono hM1) (by omega) (by omega)) (List.Perm.refl _) ?_
      rintro v M2 G2 hM2 h2
      rcases h2 with ⟨_, rfl⟩ | ⟨hck, _⟩
      · simp only [push_cast, Int.cast_ofNat_Int, reduceIte, Nat.reduceEqDiff, reduceCtorEq, Nat.reduceAdd, Nat.reduceSub, Nat.reduceMul, Int.reduceToNat, Nat.reduceLeDiff]
        repeat' first
            | refine EV.seq ?_
            | refine EV.skip ?_
            | (refine EV.reg ?_; (conv => (arg 2; whnf)); simp only [push_cast, Int.cast_ofNat_Int, reduceIte, Nat.reduceEqDiff, reduceCtorEq, Nat.reduceAdd, Nat.reduceSub, Nat.reduceMul, Int.reduceToNat, Nat.reduceLeDiff, ne_eq, not_true_eq_false, decide_false, Bool.or_self, beq_self_eq_true])
            | (refine ConQ.call (sane_q) ?_; try simp only [push_cast, Int.cast_ofNat_Int, reduceIte, Nat.reduceEqDiff, reduceCtorEq, Nat.reduceAdd, Nat.reduceSub, Nat.reduceMul, Int.reduceToNat, Nat.reduceLeDiff, ne_eq, not_true_eq_false, decide_false, Bool.or_self, beq_self_eq_true])
            | assumption
            | (refine condW.merge ?_ (fun hc K' hK => ?_) ?_; rotate_left)
            | ((refine EV.cond rfl (fun h => ?_) (fun h => ?_) <;> try simp only [reduceCtorEq, reduceIte, if_true, if_false, Bool.not_eq_true', Bool.not_eq_false', decide_eq_true_eq, decide_eq_false_iff_not, Bool.and_eq_true, Bool.or_eq_true, Bool.and_eq_false_iff, Bool.or_eq_false_iff] at h) <;> try (exfalso; first | exact h True.intro | (exact h; done) | omega | (simp only [not_true_eq_false, false_or, or_false] at h; omega)))
            | (refine EV.ret Q13_ok ?_; simp only [push_cast, Int.cast_ofNat_Int, reduceIte, Nat.reduceEqDiff, reduceCtorEq, Nat.reduceAdd, Nat.reduceSub, Nat.reduceMul, Int.reduceToNat, Nat.reduceLeDiff, ne_eq, not_true_eq_false, decide_false, Bool.or_self, beq_self_eq_true, Q13])
            | fail
        all_goals (exfalso; simp at h; done)
      · exact absurd hck hne
    · simp only [push_cast, Int.cast_ofNat_Int, reduceIte, Nat.reduceEqDiff, reduceCtorEq, Nat.reduceAdd, Nat.reduceSub, Nat.reduceMul, Int.reduceToNat, Nat.reduceLeDiff]
      repeat' first
          | refine EV.seq ?_
          | (refine EV.reg ?_; (conv => (arg 2; whnf)); simp only [push_cast, Int.cast_ofNat_Int, reduceIte, Nat.reduceEqDiff, reduceCtorEq, Nat.reduceAdd, Nat.reduceSub, Nat.reduceMul, Int.reduceToNat, Nat.reduceLeDiff])
          | (refine xr rfl (by simp only [List.length_cons, List.length_nil]; omega) ?_; try simp only [push_cast, Int.cast_ofNat_Int, reduceIte, Nat.reduceEqDiff, reduceCtorEq, Nat.reduceAdd, Nat.reduceSub, Nat.reduceMul, Int.reduceToNat, Nat.reduceLeDiff])
          | fail
      refine Con.callA (G1 := []) (ref_New_c ts _ (hs0.mono hM1) (by omega) (by omega)) (List.Perm.refl _) ?_
      rintro v M2 G2 hM2 h2
      rcases h2 with ⟨hne, _⟩ | ⟨_, xp, q, rfl, rfl, ok2, vs2, hrm⟩
      · exact absurd hck hne
      have iv0 := new_inv hck (by omega) (show 10 < 1000000 by decide) (by decide)
      rw [← hvm] at iv0
      have sim0 : Sim p.vm q.rm := by rw [hvm, hrm]; exact Sim.new _
      have bt : Both M2 mp xp p q 10 := ⟨ok, hpg.mono hM2, iv0, ok2, vs2, sim0⟩
      simp only [push_cast, Int.cast_ofNat_Int, reduceIte, Nat.reduceEqDiff, reduceCtorEq, Nat.reduceAdd, Nat.reduceSub, Nat.reduceMul, Int.reduceToNat, Nat.reduceLeDiff]
      obtain ⟨lb, hlb⟩ : ∃ x, x = b := ⟨_, rfl⟩
      subst hlb
      refine EV.permG ?_ (by exact List.Perm.refl ([(lb, _)] ++ (p.G mp ++ q.G xp)))
      refine EV.freeze ?_
      generalize hN : M2.add [(lb, Cl 24 [.slice a ts.length c])] = N
      have hMN : M2.le N := hN ▸ PHeap.le_add _ _
      have hrtN := ((hrt.mono hM1).mono hM2).mono hMN
      have btN := bt.mono hMN
      clear hN bt
      repeat' first
          | refine EV.seq ?_
          | refine EV.skip ?_
          | refine EV.block ?_
          | (refine EV.reg ?_; (conv => (arg 2; whnf)); simp only [push_cast, Int.cast_ofNat_Int, reduceIte, Nat.reduceEqDiff, reduceCtorEq, Nat.reduceAdd, Nat.reduceSub, Nat.reduceMul, Int.reduceToNat, Nat.reduceLeDiff, ne_eq, not_true_eq_false, decide_false, decide_true, Bool.or_self, beq_self_eq_true, Option.isNone_some])
          | (refine ConQ.call (btN.alike (fun x hx => List.mem_append_left _ hx) (fun x hx => List.mem_append_right _ hx)) ?_; try simp only [push_cast, Int.cast_ofNat_Int, reduceIte, Nat.reduceEqDiff, reduceCtorEq, Nat.reduceAdd, Nat.reduceSub, Nat.reduceMul, Int.reduceToNat, Nat.reduceLeDiff, ne_eq, not_true_eq_false, decide_false, decide_true, Bool.or_self, beq_self_eq_true, Option.isNone_some])
          | (refine condW.intro (fun hc => ?_) (fun hc => ?_) <;> try simp only [ne_eq, Bool.not_true, Bool.not_false, not_true_eq_false, not_false_eq_true, reduceCtorEq] at hc <;> try (exfalso; first | exact hc | omega | (simp at hc; done)))
          | ((refine EV.cond rfl (fun h => ?_) (fun h => ?_) <;> try simp only [reduceCtorEq, reduceIte, if_true, if_false, Bool.not_eq_true', Bool.not_eq_false', decide_eq_true_eq, decide_eq_false_iff_not, Bool.and_eq_true, Bool.or_eq_true, Bool.and_eq_false_iff, Bool.or_eq_false_iff] at h) <;> try (exfalso; first | exact h True.intro | (exact h; done) | omega | (simp only [not_true_eq_false, false_or, or_false] at h; omega)))
          | fail
      refine EV.to (ρ' := [(1, .slice ta turns.length tc), (5, pv mp 0), (7, pv xp 0), (9, vi (0 : Nat))]) (G' := p.G mp ++ q.G xp) ?_ ?env0 (List.Sublist.refl _)
      case env0 =>
        repeat' first
          | (refine List.forall_mem_cons.2 (And.intro ?_ ?_))
          | (intro _ hnil; cases hnil; done)
          | rfl
          | fail
      refine EV.loop (fun x : Nat × PHeap × PM × RP => ([(1, .slice ta turns.length tc), (5, pv mp 0), (7, pv xp 0), (9, vi x.1)], x.2.1, x.2.2.1.G mp ++ x.2.2.2.G xp))
        (fun x => x.1 ≤ turns.length ∧ N.le x.2.1 ∧ Both x.2.1 mp xp x.2.2.1 x.2.2.2 (10 + 2 * x.1)) (fun x => turns.length - x.1) (0, N, p, q) ⟨Nat.zero_le _, PHeap.le_refl _, btN⟩ ?_
      rintro ⟨i, Ni, p, q⟩ ⟨hi, hNi, bt⟩ ih
      dsimp only at hi hNi bt ih ⊢
      repeat' first
          | refine EV.seq ?_
          | refine EV.skip ?_
          | refine EV.block ?_
          | (refine EV.reg ?_; (conv => (arg 2; whnf)); simp only [push_cast, Int.cast_ofNat_Int, reduceIte, Nat.reduceEqDiff, reduceCtorEq, Nat.reduceAdd, Nat.reduceSub, Nat.reduceMul, Int.reduceToNat, Nat.reduceLeDiff])
          | (refine ConQ.call (sane_q) ?_; try simp only [push_cast, Int.cast_ofNat_Int, reduceIte, Nat.reduceEqDiff, reduceCtorEq, Nat.reduceAdd, Nat.reduceSub, Nat.reduceMul, Int.reduceToNat, Nat.reduceLeDiff])
          | ((refine EV.cond rfl (fun h => ?_) (fun h => ?_) <;> try simp only [reduceCtorEq, reduceIte, if_true, if_false, Bool.not_eq_true', Bool.not_eq_false', decide_eq_true_eq, decide_eq_false_iff_not, Bool.and_eq_true, Bool.or_eq_true, Bool.and_eq_false_iff, Bool.or_eq_false_iff] at h) <;> try (exfalso; first | exact h True.intro | (exact h; done) | omega | (simp only [not_true_eq_false, false_or, or_false] at h; omega)))
          | (refine EV.exit rfl ?_)
          | fail
      · have hi' : i < turns.length := by omega
        obtain ⟨tb, to, rfl, hat⟩ := Sl.at (enc := encTurn) (fun _ => rfl) (by omega) (hrtN.mono hNi) (by omega)
        have hr0 := (hat i hi').part' 0 1 (by omega) rfl
        have hr1 := (hat i hi').part' 1 1 (by omega) rfl
        refine EV.any (t := Q13_13) _ (List.nil_sublist _) ?_
        simp only [push_cast, Int.cast_ofNat_Int, reduceIte, Nat.reduceEqDiff, reduceCtorEq, Nat.reduceAdd, Nat.reduceSub, Nat.reduceMul, Int.reduceToNat, Nat.reduceLeDiff, Q13_13]
        repeat' first
            | (refine And.intro (by omega) ?_)
            | (refine Exists.intro _ (And.intro (rd_M (by assumption)) ?_); try simp only [push_cast, Int.cast_ofNat_Int, reduceIte, Nat.reduceEqDiff, reduceCtorEq, Nat.reduceAdd, Nat.reduceSub, Nat.reduceMul, Int.reduceToNat, Nat.reduceLeDiff])
            | fail
        refine Con.callB (Mr := Ni) (view_Step_c p bt.ok bt.pg bt.iv.wf (by omega) _ _) (PHeap.le_add _ _) (List.Perm.refl _) ?_
        rintro v M3 G3 ⟨rfl, p2, rfl, ok3, hvm3, e1, e2⟩
        refine And.intro (PHeap.le_refl _) (And.intro (fun _ h => absurd h List.not_mem_nil) ?_)
        obtain ⟨s2, he⟩ := bt.s.step bt.iv turns[i].1 turns[i].2
        obtain ⟨iv2, le2⟩ := step_inv bt.iv (by omega) turns[i].1 turns[i].2
        refine Con.callA (ref_Step_c q bt.ok2 bt.vs bt.rm (by omega) turns[i].1 turns[i].2) (List.Perm.refl _) ?_
        rintro v M4 G4 hM4 ⟨rfl, q2, rfl, ok4, vs4, hrm4, e3, e4⟩
        rw [← hvm3] at iv2 le2 s2
        rw [← hrm4] at s2
        have hpg2 : SlSl M4 5 encOp (.slice p2.pg p2.prog.length p2.pc) p2.prog := by
          have : p2.prog = p.prog := le2.pr
          rw [e1, e2, this]; exact bt.pg.mono hM4
        have iv3 : p2.vm.Inv (10 + 2 * (i + 1)) := by
          have : 10 + 2 * (i + 1) = 10 + 2 * i + 2 := by omega
          rw [this]; exact iv2
        have bt2 : Both M4 mp xp p2 q2 (10 + 2 * (i + 1)) := ⟨ok3, hpg2, iv3, ok4, vs4, s2⟩
        rw [he]
        simp only [push_cast, Int.cast_ofNat_Int, reduceIte, Nat.reduceEqDiff, reduceCtorEq, Nat.reduceAdd, Nat.reduceSub, Nat.reduceMul, Int.reduceToNat, Nat.reduceLeDiff]
        repeat' first
            | refine EV.seq ?_
            | refine EV.skip ?_
            | refine EV.inBlock ?_
            | (refine EV.reg ?_; (conv => (arg 2; whnf)); simp only [push_cast, Int.cast_ofNat_Int, reduceIte, Nat.reduceEqDiff, reduceCtorEq, Nat.reduceAdd, Nat.reduceSub, Nat.reduceMul, Int.reduceToNat, Nat.reduceLeDiff, ne_eq, not_true_eq_false, decide_false, decide_true, Bool.or_self, beq_self_eq_true, Bool.not_true])
            | (refine Exists.intro _ (And.intro (bt2.alike (fun x hx => List.mem_append_left _ hx) (fun x hx => List.mem_append_right _ hx)) ?_); try simp only [push_cast, Int.cast_ofNat_Int, reduceIte, Nat.reduceEqDiff, reduceCtorEq, Nat.reduceAdd, Nat.reduceSub, Nat.reduceMul, Int.reduceToNat, Nat.reduceLeDiff, ne_eq, not_true_eq_false, decide_false, decide_true, Bool.or_self, beq_self_eq_true, Bool.not_true])
            | (refine condQ.mk ?_ (fun hc => ?_) ?_; rotate_left; (try simp only [decide_eq_true_eq, decide_eq_false_iff_not, Bool.not_eq_true', Bool.not_eq_false', Bool.and_eq_true, Bool.or_eq_true, Bool.and_eq_false_iff, Bool.or_eq_false_iff] at hc))
            | (with_reducible rfl)
            | ((refine EV.cond rfl (fun h => ?_) (fun h => ?_) <;> try simp only [reduceCtorEq, reduceIte, if_true, if_false, Bool.not_eq_true', Bool.not_eq_false', decide_eq_true_eq, decide_eq_false_iff_not, Bool.and_eq_true, Bool.or_eq_true, Bool.and_eq_false_iff, Bool.or_eq_false_iff] at h) <;> try (exfalso; first | exact h True.intro | (exact h; done) | omega | (simp only [not_true_eq_false, false_or, or_false] at h; omega)))
            | fail
        · exfalso; simp at h
        refine EV.to (ih (i + 1, M4, p2, q2) ⟨by dsimp only; omega, PHeap.le_trans hNi hM4, bt2⟩ (by dsimp only; omega)) ?_ (by (repeat' first | exact List.Sublist.refl _ | exact List.nil_sublist _ | exact List.sublist_append_left _ _ | refine List.Sublist.cons_cons _ ?_ | refine List.Sublist.append_left ?_ _ | refine List.sublist_append_of_sublist_right ?_ | refine List.Sublist.cons _ ?_))
        repeat' first
          | (refine List.forall_mem_cons.2 (And.intro ?_ ?_))
          | (intro _ hnil; cases hnil; done)
          | rfl
          | (refine env_w64 rfl (by first | rfl | (push_cast; first | rfl | omega)) (by omega) (by omega); done)
          | fail
      · refine EV.ret Q13_ok ?_
        simp only [push_cast, Int.cast_ofNat_Int, reduceIte, Nat.reduceEqDiff, reduceCtorEq, Nat.reduceAdd, Nat.reduceSub, Nat.reduceMul, Int.reduceToNat, Nat.reduceLeDiff, Q13]

end
end Go.EV

namespace Go.EV
open Go.Proofs Go.ChangeShapes
theorem flatMap_one {α β : Type} (f : α → β) : ∀ zs : List α, zs.flatMap (fun z => [f z]) = zs.map f
  | [] => rfl
  | z :: zs => by rw [List.flatMap_cons, flatMap_one f zs]; rfl

section
variable {H : Type} {enc : TypeId × Value → H} {W : World} {sp : Nat → Bool} {held : Bool}

theorem cells_int : (Try.prog).cellsOf 3 = 1 := by kernel_rfl
theorem cells_op : (Try.prog).cellsOf 55 = 5 := by kernel_rfl
theorem cells_ops : (Try.prog).cellsOf 53 = 1 := by kernel_rfl
theorem cells_thr : (Try.prog).cellsOf 22 = 1 := by kernel_rfl
theorem cells_lit : (Try.prog).cellsOf 24 = 1 := by kernel_rfl
theorem cells_two : (Try.prog).cellsOf 34 = 2 := by kernel_rfl
theorem bytes_op : 0 < (Try.prog).bytesOf 55 := of_decide_eq_true (by kernel_rfl)
theorem bytes_ops : 0 < (Try.prog).bytesOf 53 := of_decide_eq_true (by kernel_rfl)
theorem bytes_two : 0 < (Try.prog).bytesOf 34 := of_decide_eq_true (by kernel_rfl)

set_option maxRecDepth 100000 in
theorem op_in {m : Nat} {cs : List Value} {y : DataW H × List MemPlace} (h : DataW.trod enc Try.prog W 0 sp held m 55 cs = some y) : ∃ o : OpV, cs = encOp o ∧ True := by
  obtain ⟨xs, n, _, _, hl, hxl, hf⟩ := DataW.trod_struct Try.underlying55 h
  rw [cells_op] at hl
  have hxl5 : xs.length = 5 := hxl
  have key : ∀ i : Nat, ∀ f : Field, i < 5 → (show Array Field from _)[i]? = some f → f.type = 3 → ∃ k, ((cs.drop f.offset).take 1) = [vi k] := fun i f hi e ht => by
    have h1 := hf i f e
    rw [ht, cells_int] at h1
    obtain ⟨y, hy⟩ : ∃ y, xs[i]? = some y := ⟨xs[i], List.getElem?_eq_getElem (by omega)⟩
    rw [hy] at h1
    exact int_in Try.underlying3 h1
  obtain ⟨k0, e0⟩ := key 0 _ (by decide) rfl rfl
  obtain ⟨k1, e1⟩ := key 1 _ (by decide) rfl rfl
  obtain ⟨k2, e2⟩ := key 2 _ (by decide) rfl rfl
  obtain ⟨k3, e3⟩ := key 3 _ (by decide) rfl rfl
  obtain ⟨k4, e4⟩ := key 4 _ (by decide) rfl rfl
  match cs, hl with
  | [c0, c1, c2, c3, c4], _ =>
    refine ⟨⟨k0, k1, k2, k3, k4⟩, ?_, trivial⟩
    simp at e0 e1 e2 e3 e4
    simp [e0, e1, e2, e3, e4]

set_option maxRecDepth 100000 in
theorem turn_in {m : Nat} {cs : List Value} {y : DataW H × List MemPlace} (h : DataW.trod enc Try.prog W 0 sp held m 34 cs = some y) : ∃ t : Int × Int, cs = encTurn t ∧ True := by
  obtain ⟨xs, n, _, _, hl, hxl, hf⟩ := DataW.trod_array Try.underlying34 h
  rw [cells_two] at hl
  have key : ∀ i, i < 2 → ∃ k, ((cs.drop i).take 1) = [vi k] := fun i hi => by
    have h1 := hf i hi
    rw [cells_int, Nat.mul_one] at h1
    obtain ⟨y, hy⟩ : ∃ y, xs[i]? = some y := ⟨xs[i], List.getElem?_eq_getElem (by omega)⟩
    rw [hy] at h1
    exact int_in Try.underlying3 h1
  obtain ⟨k0, e0⟩ := key 0 (by decide)
  obtain ⟨k1, e1⟩ := key 1 (by decide)
  match cs, hl with
  | [c0, c1], _ =>
    refine ⟨(k0, k1), ?_, trivial⟩
    simp at e0 e1
    simp [e0, e1]

set_option maxRecDepth 100000 in
theorem ops_in {m : Nat} {cs : List Value} {y : DataW H × List MemPlace} (hl : cs.length = 1) (h : DataW.trod enc Try.prog W 0 sp held m 53 cs = some y) (hw : (y.1.weights Try.prog 53).all (· ≤ reachBytes) = true) :
    ∃ z : Value × List OpV, cs = [z.1] ∧ Sl (heapOf W) 5 encOp z.1 z.2 ∧ z.2.length ≤ reachBytes := by
  match cs, hl with
  | [v], _ =>
    obtain ⟨zs, a, c, rfl, h1, h2, _⟩ := slice_in (e' := encOp) (Q := fun _ => True) Try.underlying53 cells_op (by decide) bytes_op (fun _ => rfl) h hw (fun m cs y hy _ => op_in hy)
    exact ⟨(_, zs), rfl, ⟨a, c, rfl, h1⟩, h2⟩

theorem cells_len {a : Addr} {n : Nat} {cs : List Value} (h : W.cells? 0 a n = some cs) : cs.length = n := by
  unfold World.cells? at h
  split at h
  · have := (mapM_some h).1; simpa using this
  · cases h

set_option maxRecDepth 100000 in
theorem trod_slice_len {t e : TypeId} {m : Nat} {cs : List Value} {y : DataW H × List MemPlace} (ht : (Try.prog).underlying t = some (.slice e)) (h : DataW.trod enc Try.prog W 0 sp held m t cs = some y) : cs.length = 1 := by
  cases m with
  | zero => simp [DataW.trod] at h
  | succ m =>
    unfold DataW.trod at h
    rw [ht] at h
    split at h <;> (try (cases h; done)) <;> (try (rename_i hu _ _; cases hu; done)) <;> (try (rename_i hu _; cases hu; done)) <;> (try (rename_i hu; cases hu; done)) <;> rfl

set_option maxRecDepth 100000 in
theorem litmus_in {m : Nat} {cs : List Value} {y : DataW H × List MemPlace} (h : DataW.trod enc Try.prog W 0 sp held m 24 cs = some y) (hw : (y.1.weights Try.prog 24).all (· ≤ reachBytes) = true) :
    ∃ s ts, cs = [s] ∧ SlSl (heapOf W) 5 encOp s ts ∧ ts.length ≤ reachBytes ∧ ∀ t ∈ ts, t.length ≤ reachBytes := by
  obtain ⟨y0, n, rfl, hl, h0⟩ := ChangeShapes.trod_struct1 Try.underlying24 h
  rw [cells_lit] at hl
  match cs, hl with
  | [s], _ =>
    unfold DataW.weights at hw
    rw [Try.underlying24] at hw
    simp only [List.map_cons, List.map_nil, DataW.weightsEach, List.append_nil] at hw
    have h1 : DataW.trod enc Try.prog W 0 sp held n 22 [s] = some y0 := by
      have := h0
      rw [show (Try.prog).cellsOf (Field.type _) = 1 from cells_thr] at this
      exact this
    obtain ⟨zs, a, c, rfl, h2, h3, h4⟩ := slice_in (e' := fun z : Value × List OpV => [z.1]) (Q := fun z => Sl (heapOf W) 5 encOp z.1 z.2 ∧ z.2.length ≤ reachBytes) Try.underlying22 cells_ops (by decide) bytes_ops (fun _ => rfl) h1 hw (fun m cs y hy hyw => ops_in (trod_slice_len Try.underlying53 hy) hy hyw)
    refine ⟨_, zs.map (·.2), rfl, ⟨a, c, zs.map (·.1), by simp, by simp, ?_, ?_⟩, by simpa using h3, ?_⟩
    · have e : zs.flatMap (fun z : Value × List OpV => [z.1]) = zs.map (·.1) := flatMap_one _ zs
      rw [e] at h2
      rw [List.length_map]
      exact h2
    · intro i hi hi'
      simp only [List.getElem_map]
      exact (h4 _ (List.getElem_mem _)).1
    · intro t ht
      obtain ⟨z, hz, rfl⟩ := List.mem_map.1 ht
      exact (h4 z hz).2

end
end Go.EV

namespace Go.EV
open Go.Proofs

set_option maxRecDepth 100000 in
theorem kids : Kids Try.prog (· < (Try.prog).types.size) := kids_rows (by kernel_rfl) (by kernel_rfl)

set_option maxRecDepth 100000 in
theorem rows_pos : ((List.range (Try.prog).types.size).all fun t => match (Try.prog).underlying t with | some (.slice e) => decide (0 < (Try.prog).cellsOf e) | _ => true) = true := by kernel_rfl

theorem rows_pos' {t e : TypeId} (ht : t < (Try.prog).types.size) (h : (Try.prog).underlying t = some (.slice e)) : 0 < (Try.prog).cellsOf e := by
  have := List.all_eq_true.1 rows_pos t (List.mem_range.2 ht)
  rw [h] at this
  simpa using this

end Go.EV
