/- The machine of views keeps its shape, and what a thread has seen never falls. A write. A step's doing. A step. A new machine. A new machine is in shape. A thread sees what it stored itself. From a contract to a statement. What comes in, as it is read. -/
import Derived.Test.YtlcpcmdgpchgbaaReachesPac
import Derived.Test.YtlcpcmdgpchgbaaReachesPad
import Derived.WalkKit
import Derived.ProofKit
import Derived.OpenShut
import Derived.ChangeStays
import Derived.ChangeBears
import Derived.HandedShaped
import Derived.Test.YtlcpcmdgpchgbaaReachesPab
set_option linter.unusedSimpArgs false
set_option linter.unusedVariables false
namespace Go.EV

theorem set_get {α : Type} [Inhabited α] (l : List α) (w i : Nat) (x : α) (hw : w < l.length) : (l.set w x)[i]! = if i = w then x else l[i]! := by
  by_cases hi : i < l.length
  · rw [getB (by simpa using hi), List.getElem_set, getB hi]
    by_cases h : w = i
    · rw [if_pos h, if_pos h.symm]
    · rw [if_neg h, if_neg (fun e => h e.symm)]
  · rw [getElem!_neg (l.set w x) i (by simpa using hi), getElem!_neg l i hi, if_neg (by omega)]

section
variable {m : VM} {B B' : Nat} {w : Nat}

theorem VM.Wf.up (wf : m.Wf B) (h : B ≤ B') (h0 : B' < 1000000) : m.Wf B' :=
  ⟨h0, wf.pl, wf.tp, wf.t3, wf.nx, wf.po, wf.pb, wf.lp, fun l hl => Nat.le_trans (wf.ll l hl) h, Nat.le_trans wf.ml h, wf.le, fun t ht => Nat.le_trans (wf.rb t ht) h⟩

theorem VM.Wf.set (wf : m.Wf B) (hw : w < m.thr.length) (t' : Thr) (hn : t'.next ≤ m.prog[w]!.length) (hr : t'.read.length ≤ B) (all' : Vw) : VM.Wf { m with thr := m.thr.set w t', all := all' } B := by
  refine ⟨wf.b0, by simpa using wf.pl, by simpa using wf.tp, by simpa using wf.t3, ?_, wf.po, wf.pb, wf.lp, wf.ll, wf.ml, wf.le, ?_⟩
  · intro i hi
    dsimp only
    rw [set_get _ _ _ _ hw]
    by_cases h : i = w
    · subst h; rw [if_pos rfl]; exact hn
    · rw [if_neg h]; exact wf.nx i (by simpa using hi)
  · intro t ht
    rcases List.mem_or_eq_of_mem_set ht with h | h
    · exact wf.rb t h
    · rw [h]; exact hr

theorem rb_at (wf : m.Wf B) (hw : w < m.thr.length) : m.thr[w]!.read.length ≤ B := wf.rb _ (by rw [getB hw]; exact List.getElem_mem _)

/-- No message stands twice in a line. -/
def VM.Nd (m : VM) : Prop := ∀ l, l < 3 → (m.line l).Nodup

theorem reads_wf (wf : m.Wf B) (hB : B + 1 < 1000000) (hw : w < m.thr.length) (n : Int) (o : OpV) : (m.reads w n o).Wf (B + 1) := by
  have h1 := (wf.up (Nat.le_succ B) hB)
  unfold VM.reads VM.setThr
  refine h1.set hw _ ?_ ?_ m.all
  · exact wf.nx w hw
  · have := rb_at wf hw
    simp only [List.length_append, List.length_singleton]; omega

theorem fenced_wf (wf : m.Wf B) (hw : w < m.thr.length) (o : OpV) : (m.fenced w o).Wf B :=
  by
  unfold VM.fenced
  refine wf.set hw _ ?_ ?_ _
  · exact wf.nx w hw
  · exact rb_at wf hw

theorem nexts_wf (wf : m.Wf B) (hw : w < m.thr.length) (hn : m.thr[w]!.next ≠ m.prog[w]!.length) : (m.nexts w).Wf B := by
  unfold VM.nexts VM.setThr
  refine wf.set hw _ ?_ ?_ m.all
  · have := wf.nx w hw
    dsimp only; omega
  · exact rb_at wf hw

theorem ins_mem {l : List Int} {k : Nat} {x y : Int} : y ∈ l.take k ++ x :: l.drop k ↔ y = x ∨ y ∈ l := by
  have : y ∈ l ↔ y ∈ l.take k ∨ y ∈ l.drop k := by rw [← List.mem_append, List.take_append_drop]
  simp [this]; grind

theorem ins_len {l : List Int} {k : Nat} {x : Int} : (l.take k ++ x :: l.drop k).length = l.length + 1 := by
  simp; omega

theorem writes_wf (wf : m.Wf B) (hB : B + 1 < 1000000) (hw : w < m.thr.length) (a : Nat) (word : Int) (o : OpV) (tied : Bool) : (m.writes w a word o tied).Wf (B + 1) := by
  have h1 := (wf.up (Nat.le_succ B) hB).set hw { m.thr[w]! with now := upd m.thr[w]!.now o.loc.toNat (m.msgs.length : Int), gained := joinV (upd m.line o.loc.toNat ((m.line o.loc.toNat).take (a + 1) ++ (m.msgs.length : Int) :: (m.line o.loc.toNat).drop (a + 1))) m.thr[w]!.gained (upd m.thr[w]!.now o.loc.toNat (m.msgs.length : Int)) } (wf.nx w hw) (by have := rb_at wf hw; dsimp only; omega) m.all
  refine ⟨h1.b0, h1.pl, h1.tp, h1.t3, h1.nx, h1.po, h1.pb, ?_, ?_, ?_, ?_, h1.rb⟩
  · intro l hl
    simp only [VM.writes, upd]
    split
    · rw [ins_len]; omega
    · exact wf.lp l hl
  · intro l hl
    simp only [VM.writes, upd]
    split
    · rename_i e; subst e; rw [ins_len]; have := wf.ll _ hl; omega
    · have := wf.ll l hl; omega
  · simp only [VM.writes, List.length_append, List.length_singleton]; have := wf.ml; omega
  · intro l hl n hn
    simp only [VM.writes, upd, List.length_append, List.length_singleton] at hn ⊢
    split at hn
    · rename_i e; subst e
      rcases ins_mem.1 hn with rfl | hn
      · omega
      · have := wf.le _ hl n hn; omega
    · have := wf.le l hl n hn; omega

theorem ins_nodup {l : List Int} {k : Nat} {x : Int} (h : l.Nodup) (hx : x ∉ l) : (l.take k ++ x :: l.drop k).Nodup := by
  have hp : (l.take k ++ x :: l.drop k).Perm (x :: l) := by
    refine List.perm_middle.trans ?_
    rw [List.take_append_drop]
  exact hp.nodup_iff.2 (List.nodup_cons.2 ⟨hx, h⟩)

theorem fresh (wf : m.Wf B) {l : Nat} (hl : l < 3) : (m.msgs.length : Int) ∉ m.line l := fun h => by
  have := wf.le l hl _ h; omega

theorem writes_nd (wf : m.Wf B) (nd : m.Nd) (a : Nat) (word : Int) (o : OpV) (tied : Bool) : (m.writes w a word o tied).Nd := by
  intro l hl
  simp only [VM.writes, upd]
  split
  · rename_i e; subst e; exact ins_nodup (nd _ hl) (fresh wf hl)
  · exact nd l hl

/-! ### Places -/

theorem idxOf_ins {l : List Int} {k : Nat} {x y : Int} (hy : y ∈ l) (hne : y ≠ x) : l.idxOf y ≤ (l.take k ++ x :: l.drop k).idxOf y := by
  rw [List.idxOf_append]
  have h2 : l.idxOf y = if y ∈ l.take k then (l.take k).idxOf y else (l.drop k).idxOf y + (l.take k).length := by
    rw [← List.idxOf_append, List.take_append_drop]
  rw [h2]
  split
  · exact Nat.le_refl _
  · rw [List.idxOf_cons, show (x == y) = false from beq_eq_false_iff_ne.2 (fun e => hne e.symm)]; simp only [cond_false]; omega

theorem place_ins {line : Nat → List Int} {l0 k : Nat} {x : Int} (hx : x ∉ line l0) (l : Nat) (n : Int) : place line l n ≤ place (upd line l0 ((line l0).take k ++ x :: (line l0).drop k)) l n := by
  unfold place
  simp only [upd]
  by_cases h : l = l0
  · subst h
    simp only [if_true]
    by_cases hm : n ∈ line l
    · rw [if_pos hm, if_pos (ins_mem.2 (.inr hm))]
      exact idxOf_ins hm (fun e => hx (e ▸ hm))
    · rw [if_neg hm]; exact Nat.zero_le _
  · simp only [if_neg h]; exact Nat.le_refl _

theorem place_new {line : Nat → List Int} {l k : Nat} {x : Int} (hx : x ∉ line l) (hk : k ≤ (line l).length) : place (upd line l ((line l).take k ++ x :: (line l).drop k)) l x = k := by
  unfold place
  simp only [upd, if_true]
  rw [if_pos (ins_mem.2 (.inl rfl)), List.idxOf_append, if_neg (fun h => hx (List.mem_of_mem_take h)), List.idxOf_cons_self]
  simp; omega

theorem place_at {line : Nat → List Int} {l a : Nat} (nd : (line l).Nodup) (ha : a < (line l).length) : place line l (line l)[a]! = a := by
  unfold place
  rw [getB ha, if_pos (List.getElem_mem _)]
  exact nd.idxOf_getElem a ha

theorem place_neg {line : Nat → List Int} {l : Nat} {n : Int} (hle : ∀ n ∈ line l, 0 ≤ n) (hn : n < 0) : place line l n = 0 := by
  unfold place
  rw [if_neg (fun h => by have := hle n h; omega)]

theorem place_join {line : Nat → List Int} {l : Nat} (hle : ∀ n ∈ line l, 0 ≤ n) (x y : Vw) : place line l (joinV line x y l) = max (place line l (x l)) (place line l (y l)) := by
  unfold joinV
  split
  · rename_i h
    rcases h.2 with h2 | h2
    · rw [place_neg hle h2]; omega
    · omega
  · rename_i h
    by_cases hy : 0 ≤ y l
    · have : ¬ (x l < 0 ∨ place line l (x l) < place line l (y l)) := fun h2 => h ⟨hy, h2⟩
      omega
    · rw [place_neg hle (n := y l) (by omega)]; omega

/-! ### A step -/

structure VM.Le (m m' : VM) : Prop where
  tl : m'.thr.length = m.thr.length
  pr : m'.prog = m.prog
  mono : ∀ t, t < m.thr.length → ∀ l, l < 3 → place m.line l (m.thr[t]!.now l) ≤ place m'.line l (m'.thr[t]!.now l)

theorem VM.Le.refl (m : VM) : m.Le m := ⟨rfl, rfl, fun _ _ _ _ => Nat.le_refl _⟩
theorem VM.Le.trans {a b c : VM} (h : a.Le b) (k : b.Le c) : a.Le c :=
  ⟨k.tl.trans h.tl, k.pr.trans h.pr, fun t ht l hl => Nat.le_trans (h.mono t ht l hl) (k.mono t (by rw [h.tl]; exact ht) l hl)⟩

theorem VM.Le.set {t' : Thr} {all' : Vw} (hw : w < m.thr.length) (h : ∀ l, l < 3 → place m.line l (m.thr[w]!.now l) ≤ place m.line l (t'.now l)) : m.Le { m with thr := m.thr.set w t', all := all' } := by
  refine ⟨by simp, rfl, fun t ht l hl => ?_⟩
  dsimp only
  rw [set_get _ _ _ _ hw]
  by_cases e : t = w
  · subst e; rw [if_pos rfl]; exact h l hl
  · rw [if_neg e]; exact Nat.le_refl _

def VM.Own (m : VM) : Prop := ∀ l, l < 3 → ∀ n ∈ m.line l, m.msgs[n.toNat]!.view l = n

theorem hle (wf : m.Wf B) {l : Nat} (hl : l < 3) : ∀ n ∈ m.line l, 0 ≤ n := fun n hn => (wf.le l hl n hn).1

theorem nexts_le (hw : w < m.thr.length) : m.Le (m.nexts w) := by
  unfold VM.nexts VM.setThr
  exact VM.Le.set (all' := m.all) hw fun _ _ => Nat.le_refl _

theorem fenced_le (wf : m.Wf B) (hw : w < m.thr.length) (o : OpV) : m.Le (m.fenced w o) := by
  unfold VM.fenced
  refine VM.Le.set hw fun l hl => ?_
  have h0 := hle wf hl
  dsimp only
  split <;> split <;> (try rw [place_join h0]) <;> (try rw [place_join h0]) <;> omega

theorem reads_le (wf : m.Wf B) (nd : m.Nd) (hw : w < m.thr.length) (o : OpV) (ho : o.loc.toNat < 3) {a : Nat} (ha : a < (m.line o.loc.toNat).length) (hlo : place m.line o.loc.toNat (m.thr[w]!.now o.loc.toNat) ≤ a) :
    m.Le (m.reads w (m.line o.loc.toNat)[a]! o) := by
  unfold VM.reads VM.setThr
  refine VM.Le.set (all' := m.all) hw fun l hl => ?_
  have h0 := hle wf hl
  have h1 : place m.line l (m.thr[w]!.now l) ≤ place m.line l (upd m.thr[w]!.now o.loc.toNat (m.line o.loc.toNat)[a]! l) := by
    simp only [upd]
    split
    · rename_i e; subst e; rw [place_at (nd _ hl) ha]; exact hlo
    · exact Nat.le_refl _
  dsimp only
  split
  · rw [place_join h0]; omega
  · exact h1

theorem writes_le (wf : m.Wf B) (hw : w < m.thr.length) (o : OpV) (ho : o.loc.toNat < 3) {a : Nat} (ha : a < (m.line o.loc.toNat).length) (hlo : place m.line o.loc.toNat (m.thr[w]!.now o.loc.toNat) ≤ a) (word : Int) (tied : Bool) :
    m.Le (m.writes w a word o tied) := by
  have hf := fresh wf ho
  refine ⟨by simp [VM.writes], rfl, fun t ht l hl => ?_⟩
  simp only [VM.writes]
  rw [set_get _ _ _ _ hw]
  by_cases e : t = w
  · subst e
    rw [if_pos rfl]
    dsimp only
    by_cases e2 : l = o.loc.toNat
    · subst e2
      have h3 : upd m.thr[t]!.now o.loc.toNat (m.msgs.length : Int) o.loc.toNat = m.msgs.length := by simp only [upd, if_true]
      rw [h3, place_new hf (by omega)]; omega
    · have h3 : upd m.thr[t]!.now o.loc.toNat (m.msgs.length : Int) l = m.thr[t]!.now l := by simp only [upd, if_neg e2]
      rw [h3]; exact place_ins hf l _
  · rw [if_neg e]; exact place_ins hf l _

theorem writes_own (wf : m.Wf B) (ow : m.Own) (a : Nat) (word : Int) (o : OpV) (tied : Bool) : (m.writes w a word o tied).Own := by
  intro l hl n hn
  simp only [VM.writes] at hn ⊢
  have hold : n ∈ m.line l → (m.msgs ++ [(⟨word, upd (if tied then joinV (upd m.line o.loc.toNat ((m.line o.loc.toNat).take (a + 1) ++ (m.msgs.length : Int) :: (m.line o.loc.toNat).drop (a + 1))) (if relP o.ord then upd m.thr[w]!.now o.loc.toNat (m.msgs.length : Int) else m.thr[w]!.given) (m.msgs[((m.line o.loc.toNat)[a]!).toNat]!).view else (if relP o.ord then upd m.thr[w]!.now o.loc.toNat (m.msgs.length : Int) else m.thr[w]!.given)) o.loc.toNat (m.msgs.length : Int), tied⟩ : Msg)])[n.toNat]!.view l = n := fun h => by
    have h2 := wf.le l hl n h
    rw [getB (by simp; omega), List.getElem_append_left (by omega), ← getB]
    exact ow l hl n h
  simp only [upd] at hn
  split at hn
  · rename_i e; subst e
    rcases ins_mem.1 hn with rfl | hn
    · rw [getB (by simp), List.getElem_append_right (by simp)]
      simp [upd]
    · exact hold hn
  · exact hold hn

theorem reads_own (ow : m.Own) (n : Int) (o : OpV) : (m.reads w n o).Own := ow
theorem reads_nd (nd : m.Nd) (n : Int) (o : OpV) : (m.reads w n o).Nd := nd

theorem choices_mem {o : OpV} (h5 : o.kind ≠ 5) {c : Nat × Bool} (hc : c ∈ m.choices w o) : m.low w o ≤ c.1 ∧ c.1 < (m.line o.loc.toNat).length := by
  simp only [VM.choices, if_neg h5, VM.choicesFrom, List.mem_flatMap, List.mem_range] at hc
  obtain ⟨k, hk, hc⟩ := hc
  have : c.1 = m.low w o + k := by
    simp only [VM.choicesAt, List.mem_append] at hc
    rcases hc with hc | hc <;> (split at hc <;> simp at hc; subst hc; rfl)
  omega

/-- All that holds of a machine, and what a step leaves. -/
structure VM.Inv (m : VM) (B : Nat) : Prop where
  wf : m.Wf B
  nd : m.Nd
  ow : m.Own

theorem does_inv (iv : m.Inv B) (hB : B + 2 < 1000000) (hw : w < m.thr.length) (hn : m.thr[w]!.next ≠ m.prog[w]!.length) (o : OpV) (ho : okOpE o) {c : Nat × Bool} (hc : c ∈ m.choices w o) :
    (m.does w o c).Inv (B + 2) ∧ m.Le (m.does w o c) := by
  obtain ⟨wf, nd, ow⟩ := iv
  have hl : o.loc.toNat < 3 := by have := ho.2.2.1; have := ho.2.2.2.1; omega
  have w1 := nexts_wf wf hw hn
  have l1 : m.Le (m.nexts w) := nexts_le hw
  have hw1 : w < (m.nexts w).thr.length := by rw [l1.tl]; exact hw
  have ht1 : (m.nexts w).thr[w]!.now = m.thr[w]!.now := by simp only [VM.nexts, VM.setThr]; rw [set_get _ _ _ _ hw, if_pos rfl]
  simp only [VM.does]
  by_cases h5 : o.kind = 5
  · rw [if_pos h5]
    exact ⟨⟨(fenced_wf w1 hw1 o).up (by omega) hB, nd, ow⟩, l1.trans (fenced_le w1 hw1 o)⟩
  · rw [if_neg h5]
    obtain ⟨hlo, ha⟩ := choices_mem h5 hc
    have hlo' : place (m.nexts w).line o.loc.toNat ((m.nexts w).thr[w]!.now o.loc.toNat) ≤ c.1 := by rw [ht1]; exact hlo
    by_cases h1 : o.kind = 1
    · rw [if_pos h1]
      split
      · exact ⟨⟨(writes_wf w1 (by omega) hw1 _ _ _ _).up (by omega) hB, writes_nd w1 nd _ _ _ _, writes_own w1 ow _ _ _ _⟩, l1.trans (writes_le w1 hw1 o hl ha hlo' _ _)⟩
      · exact ⟨⟨w1.up (by omega) hB, nd, ow⟩, l1⟩
    · rw [if_neg h1]
      have w2 := reads_wf w1 (by omega) hw1 ((m.nexts w).line o.loc.toNat)[c.1]! o
      have l2 := l1.trans (reads_le w1 nd hw1 o hl ha hlo')
      have hw2 : w < ((m.nexts w).reads w ((m.nexts w).line o.loc.toNat)[c.1]! o).thr.length := by rw [l2.tl]; exact hw
      split
      · refine ⟨⟨(writes_wf w2 (by omega) hw2 _ _ _ _), writes_nd w2 nd _ _ _ _, writes_own w2 ow _ _ _ _⟩, l2.trans (writes_le w2 hw2 o hl ha ?_ _ _)⟩
        have h0 := hle w1 hl
        have e1 : place (m.nexts w).line o.loc.toNat ((m.nexts w).line o.loc.toNat)[c.1]! = c.1 := place_at (nd _ hl) ha
        have hmem : ((m.nexts w).line o.loc.toNat)[c.1]! ∈ (m.nexts w).line o.loc.toNat := by
          show (m.line o.loc.toNat)[c.1]! ∈ m.line o.loc.toNat
          rw [getB ha]; exact List.getElem_mem _
        have e2 : ((m.nexts w).msgs[((m.nexts w).line o.loc.toNat)[c.1]!.toNat]!).view o.loc.toNat = ((m.nexts w).line o.loc.toNat)[c.1]! := ow _ hl _ hmem
        have e3 : ∀ v : Vw, (upd v o.loc.toNat ((m.nexts w).line o.loc.toNat)[c.1]!) o.loc.toNat = ((m.nexts w).line o.loc.toNat)[c.1]! := fun v => by simp only [upd, if_true]
        simp only [VM.reads, VM.setThr]
        rw [set_get _ _ _ _ hw1, if_pos rfl]
        dsimp only
        split
        · rw [place_join h0, e3, e2, e1]; omega
        · rw [e3, e1]; exact Nat.le_refl _
      · exact ⟨⟨w2.up (by omega) hB, nd, ow⟩, l2⟩

theorem turn_cases (m : VM) (who : Int) : (m.turn who).2 ≠ 0 ∨ ((m.turn who).2 = 0 ∧ ∃ w : Nat, who = w ∧ w < m.thr.length ∧ m.thr[w]!.next ≠ m.prog[w]!.length ∧ (m.turn who).1 = m.prog[w]![m.thr[w]!.next]!) := by
  unfold VM.turn
  split
  · exact .inl (by simp)
  · split
    · exact .inl (by simp)
    · rename_i h1 h2
      refine .inr ⟨rfl, who.toNat, by omega, by omega, h2, rfl⟩

theorem op_ok (wf : m.Wf B) {w : Nat} (hw : w < m.thr.length) (h2 : m.thr[w]!.next ≠ m.prog[w]!.length) : okOpE (m.prog[w]![m.thr[w]!.next]!) := by
  have hpl := wf.pl
  have hnl := wf.nx w hw
  have hlt : m.thr[w]!.next < m.prog[w]!.length := by omega
  rw [getB hlt]
  exact wf.po _ (by rw [getB (show w < m.prog.length by omega)]; exact List.getElem_mem _) _ (List.getElem_mem _)

theorem step_inv (iv : m.Inv B) (hB : B + 2 < 1000000) (who number : Int) : (m.step who number).1.Inv (B + 2) ∧ m.Le (m.step who number).1 := by
  have hup : m.Inv (B + 2) := ⟨iv.wf.up (by omega) hB, iv.nd, iv.ow⟩
  unfold VM.step
  rcases turn_cases m who with h | ⟨h, w, rfl, hw, h2, e⟩
  · rw [if_pos h]; exact ⟨hup, .refl m⟩
  · rw [if_neg (by simpa using h)]
    split
    · exact ⟨hup, .refl m⟩
    · rename_i hn
      rw [Int.toNat_natCast] at hn ⊢
      have hlt : number.toNat < (m.choices w (m.turn w).1).length := by omega
      refine does_inv iv hB hw h2 _ (e ▸ op_ok iv.wf hw h2) ?_
      rw [getB hlt]; exact List.getElem_mem _

end
end Go.EV

namespace Go.EV
open Go.Proofs

def lnRow (line : Nat → List Int) (lv : Nat → Nat × Nat × List Value) (l : Nat) : Nat × Obj := ((lv l).1, Cl 3 ((line l).map vi ++ (lv l).2.2))
def lnRest (line : Nat → List Int) (lv : Nat → Nat × Nat × List Value) (l : Nat) : Own :=
  match l with
  | 0 => [lnRow line lv 1, lnRow line lv 2]
  | 1 => [lnRow line lv 0, lnRow line lv 2]
  | _ => [lnRow line lv 0, lnRow line lv 1]

theorem lnG_split (line : Nat → List Int) (lv : Nat → Nat × Nat × List Value) {l : Nat} (hl : l < 3) : (lnG line lv).Perm (lnRow line lv l :: lnRest line lv l) := by
  match l, hl with
  | 0, _ => exact List.Perm.refl _
  | 1, _ => exact List.Perm.swap _ _ _
  | 2, _ => exact (List.Perm.swap _ _ _).cons _ |>.trans (List.Perm.swap _ _ _)

theorem lnRest_upd (line : Nat → List Int) (lv : Nat → Nat × Nat × List Value) {l : Nat} (hl : l < 3) (L : List Int) (o : Nat × Nat × List Value) : lnRest (upd line l L) (upd lv l o) l = lnRest line lv l := by
  match l, hl with
  | 0, _ => rfl
  | 1, _ => rfl
  | 2, _ => rfl

theorem lnRest_sub (line : Nat → List Int) (lv : Nat → Nat × Nat × List Value) {l : Nat} (hl : l < 3) : (lnRest line lv l).Sublist (lnG line lv) := by
  match l, hl with
  | 0, _ => exact List.Sublist.cons _ (List.Sublist.refl _)
  | 1, _ => exact List.Sublist.cons_cons _ (List.Sublist.cons _ (List.Sublist.refl _))
  | 2, _ => exact List.Sublist.cons_cons _ (List.Sublist.cons_cons _ (List.Sublist.cons _ (List.Sublist.refl _)))

theorem lnG_upd (line : Nat → List Int) (lv : Nat → Nat × Nat × List Value) {l : Nat} (hl : l < 3) (L : List Int) (o : Nat × Nat × List Value) : ((o.1, Cl 3 (L.map vi ++ o.2.2)) :: lnRest line lv l).Perm (lnG (upd line l L) (upd lv l o)) := by
  have h := lnG_split (upd line l L) (upd lv l o) hl
  rw [lnRest_upd _ _ hl] at h
  have e : lnRow (upd line l L) (upd lv l o) l = (o.1, Cl 3 (L.map vi ++ o.2.2)) := by simp [lnRow, upd]
  rw [e] at h
  exact h.symm

theorem lnH_upd (line : Nat → List Int) (lv : Nat → Nat × Nat × List Value) (l : Nat) (L : List Int) (o : Nat × Nat × List Value) : upd (lnH line lv) l (rowV o.1 L.length o.2.1) = lnH (upd line l L) (upd lv l o) := by
  funext j
  simp only [upd, lnH]
  by_cases h : j = l
  · subst h; simp
  · simp [h]

theorem ins_perm {α : Type} {v r o h t m : α} {ln rest rd : List α} (hl : ln.Perm (r :: rest)) : (v :: o :: h :: t :: m :: (ln ++ rd)).Perm ([r, v] ++ (o :: h :: t :: m :: (rest ++ rd))) := by
  have h1 : (ln ++ rd).Perm (r :: (rest ++ rd)) := hl.append_right rd
  refine (((((h1.cons m).cons t).cons h).cons o).cons v).trans ?_
  exact List.perm_middle (l₁ := [v, o, h, t, m])

theorem ins_perm' {α : Type} {r o h t m : α} {ln rest rd : List α} (hl : (r :: rest).Perm ln) : (o :: h :: t :: m :: (rest ++ (rd ++ [r]))).Perm (o :: h :: t :: m :: (ln ++ rd)) := by
  refine List.Perm.cons _ (List.Perm.cons _ (List.Perm.cons _ (List.Perm.cons _ ?_)))
  rw [← List.append_assoc]
  exact (List.perm_append_comm (l₁ := rest ++ rd) (l₂ := [r])).trans (hl.append_right rd)

section
variable {M : PHeap} {G : Own} {mp : Nat} {B : Nat}

theorem rd_hd_lnH {line : Nat → List Int} {lv : Nat → Nat × Nat × List Value} {b : Nat} {T : TypeId} {pg mh th : Value} {all : Vw} {l : Nat} (hl : l < 3) [h : At G b T (hdL pg mh (lnH line lv) th all)] : rd (M.add G) b (2 + l) 1 [rowV (lv l).1 (line l).length (lv l).2.1] :=
  rd_hd_line (T := T) (lh := lnH line lv) hl

theorem rd_ln {line : Nat → List Int} {lv : Nat → Nat × Nat × List Value} {l i : Nat} (hl : l < 3) (hi : i < (line l).length) (h : ∀ q ∈ lnG line lv, q ∈ G) : rd (M.add G) (lv l).1 i 1 [vi (line l)[i]!] := by
  have hm : lnRow line lv l ∈ G := h _ ((lnG_split line lv hl).symm.subset (List.mem_cons_self ..))
  have := rd_mem (M := M) (off := i) (n := 1) hm (by simp; omega)
  rw [List.drop_append_of_le_length (by simp; omega), List.take_append_of_le_length (by simp; omega), map_part vi _ hi] at this
  exact this

theorem enc_st_at {l : Nat} (hl : l < 3) (v : Vw) (x : Int) : (encV v).take l ++ (vi x :: (encV v).drop (l + 1)) = encV (upd v l x) := by
  match l, hl with
  | 0, _ => rfl
  | 1, _ => rfl
  | 2, _ => rfl

theorem enc_drop (v : Vw) : (encV v).drop 3 = [] := rfl

theorem mc_st {X : List Value} {n : Nat} (hX : X.length = n * 5) (w c0 c1 c2 t : Value) (sp : List Value) (v : Vw) :
    (X ++ (w :: c0 :: c1 :: c2 :: t :: sp)).take (n * 5 + 1) ++ (encV v ++ (X ++ (w :: c0 :: c1 :: c2 :: t :: sp)).drop (n * 5 + 1 + 3)) = X ++ (w :: (encV v ++ (t :: sp))) := by
  rw [← hX, List.take_length_add_append, Nat.add_assoc, List.drop_length_add_append]
  simp [encV]

/-- What a write leaves of a thread, of the lines, and which message it makes. -/
def writesThr (line : Nat → List Int) (t : Thr) (l : Nat) (number : Int) : Thr :=
  ⟨upd t.now l number, joinV line t.gained (upd t.now l number), t.given, t.read, t.next⟩
def writesView (line : Nat → List Int) (t : Thr) (l : Nat) (number : Int) (od : Int) (tied : Bool) (s : Vw) : Vw :=
  let v1 := if relP od then upd t.now l number else t.given
  upd (if tied then joinV line v1 s else v1) l number

/-- What a function that turns a machine leaves. -/
def Wrote (mp : Nat) (p : PM) (m' : VM) (_ : Value) (_ : PHeap) (G' : Own) : Prop :=
  ∃ p' : PM, G' = p'.G mp ∧ p'.Ok ∧ p'.vm = m' ∧ p'.pg = p.pg ∧ p'.pc = p.pc

set_option maxRecDepth 8000 in
set_option maxHeartbeats 8000000 in
theorem view_writes_c (p : PM) (ok : p.Ok) (wf : p.vm.Wf B) (hB1 : B + 1 < 1000000) {w : Nat} (hw : w < p.pt.length) (a : Nat) (word : Int) (o : OpV) (ho : okOpE o) (ha : a < (p.line o.loc.toNat).length) (tied : Bool) :
    Con Try.prog 68 #[pv mp 0, vi w, vi a, vi word, vop o, vb tied] M (p.G mp) (Wrote mp p (p.vm.writes w a word o tied)) := by
  have hb : ∀ l, l < 3 → (p.line l).length ≤ B := fun l hl => wf.ll l hl
  have hml : p.msgs.length ≤ B := wf.ml
  have hB := wf.b0
  have hle := wf.le
  obtain ⟨kd, lo, v, w', od⟩ := o
  obtain ⟨o1, o2, o3, o4, o5⟩ := ho
  dsimp only at o1 o2 o3 o4 o5
  obtain ⟨l, rfl⟩ : ∃ l : Nat, lo = l := ⟨lo.toNat, by omega⟩
  have hl : l < 3 := by omega
  obtain ⟨pg, pc, ⟨mb, mc, ms⟩, lv, tv, prog, msgs, line, all, pt⟩ := p
  obtain ⟨pA, ⟨t, ov⟩, pC, rfl, hpA⟩ := PM.split pt w hw
  have hA : (pA.flatMap encPT).length = w * 11 := by rw [encPT_len, hpA]
  simp only [Int.toNat_natCast] at ha
  dsimp only at hb hw hml hle
  have hbl := hb l hl
  have hbb : ∀ j, j < 3 → (line j).length < 1000000 := fun j hj => by have := hb j hj; omega
  have hmem : (line l)[a]! ∈ line l := by rw [getB ha]; exact List.getElem_mem _
  have hfr : 0 ≤ (line l)[a]! ∧ (line l)[a]! < msgs.length := hle l hl _ hmem
  have hfn : (line l)[a]!.toNat < msgs.length := by omega
  have hX : (msgs.flatMap encMsg).length = msgs.length * 5 := flatMap_length (enc := encMsg) (fun _ => rfl) msgs
  have hw1 : IntKind.i64.wrap ((a : Int) + 1) = ((a + 1 : Nat) : Int) := by rw [w64 (by omega) (by omega)]; omega
  have hcast : ((a : Int) + 1) = ((a + 1 : Nat) : Int) := by omega
  refine Con.enter R_view_Machine_writes_ok (args := [pv mp 0, vi w, vi a, vi word, vop ⟨kd, l, v, w', od⟩, vb tied]) (by simp [R_view_Machine_writes]) fun w0 => ?_
  simp only [R_view_Machine_writes, argE, PM.G]
  rw [tc_of]
  repeat' first
      | refine EV.seq ?_
      | refine EV.skip ?_
      | refine EV.block ?_
      | refine EV.inBlock ?_
      | (refine EV.reg ?_; (conv => (arg 2; whnf)); simp only [push_cast, Int.cast_ofNat_Int, reduceIte, Nat.reduceEqDiff, reduceCtorEq, Nat.reduceAdd, Nat.reduceSub, Nat.reduceMul, Int.reduceToNat, Nat.reduceLeDiff, tc_len hA, hd_len, encV_len, ok1_encV])
      | assumption
      | (refine Exists.intro _ (Exists.intro _ (Exists.intro _ (And.intro (rd_hd_ms) ?_))); try simp only [push_cast, Int.cast_ofNat_Int, reduceIte, Nat.reduceEqDiff, reduceCtorEq, Nat.reduceAdd, Nat.reduceSub, Nat.reduceMul, Int.reduceToNat, Nat.reduceLeDiff, tc_len hA, hd_len, encV_len, ok1_encV])
      | (refine Exists.intro _ (And.intro (rd_hd_ms) ?_); try simp only [push_cast, Int.cast_ofNat_Int, reduceIte, Nat.reduceEqDiff, reduceCtorEq, Nat.reduceAdd, Nat.reduceSub, Nat.reduceMul, Int.reduceToNat, Nat.reduceLeDiff, tc_len hA, hd_len, encV_len, ok1_encV])
      | (refine Exists.intro _ (Exists.intro _ (Exists.intro _ (And.intro (rd_hd_th) ?_))); try simp only [push_cast, Int.cast_ofNat_Int, reduceIte, Nat.reduceEqDiff, reduceCtorEq, Nat.reduceAdd, Nat.reduceSub, Nat.reduceMul, Int.reduceToNat, Nat.reduceLeDiff, tc_len hA, hd_len, encV_len, ok1_encV])
      | (refine Exists.intro _ (And.intro (rd_hd_th) ?_); try simp only [push_cast, Int.cast_ofNat_Int, reduceIte, Nat.reduceEqDiff, reduceCtorEq, Nat.reduceAdd, Nat.reduceSub, Nat.reduceMul, Int.reduceToNat, Nat.reduceLeDiff, tc_len hA, hd_len, encV_len, ok1_encV])
      | (refine condW.merge ?_ (fun hc K' hK => ?_) ?_; rotate_left)
      | (refine condQ.mk ?_ (fun hc => ?_) ?_; rotate_left; (try simp only [decide_eq_true_eq, decide_eq_false_iff_not, Bool.not_eq_true', Bool.not_eq_false', Bool.and_eq_true, Bool.or_eq_true, Bool.and_eq_false_iff, Bool.or_eq_false_iff] at hc))
      | (with_reducible rfl)
      | ((refine EV.cond rfl (fun h => ?_) (fun h => ?_) <;> try simp only [reduceCtorEq, reduceIte, if_true, if_false, Bool.not_eq_true', Bool.not_eq_false', decide_eq_true_eq, decide_eq_false_iff_not, Bool.and_eq_true, Bool.or_eq_true, Bool.and_eq_false_iff, Bool.or_eq_false_iff] at h) <;> try (exfalso; first | exact h True.intro | (exact h; done) | omega))
      | (refine EV.exit rfl ?_)
      | (with_reducible intro b; try simp only [push_cast, Int.cast_ofNat_Int, reduceIte, Nat.reduceEqDiff, reduceCtorEq, Nat.reduceAdd, Nat.reduceSub, Nat.reduceMul, Int.reduceToNat, Nat.reduceLeDiff, tc_len hA, hd_len, encV_len, ok1_encV])
      | with_reducible intro b
      | (refine And.intro (by omega) ?_)
      | (refine Exists.intro _ (And.intro (rd_M (by assumption)) ?_); try simp only [push_cast, Int.cast_ofNat_Int, reduceIte, Nat.reduceEqDiff, reduceCtorEq, Nat.reduceAdd, Nat.reduceSub, Nat.reduceMul, Int.reduceToNat, Nat.reduceLeDiff, tc_len hA, hd_len, encV_len, ok1_encV])
      | (refine Exists.intro _ (Exists.intro _ (Exists.intro _ (And.intro (rd_M (by assumption)) ?_))); try simp only [push_cast, Int.cast_ofNat_Int, reduceIte, Nat.reduceEqDiff, reduceCtorEq, Nat.reduceAdd, Nat.reduceSub, Nat.reduceMul, Int.reduceToNat, Nat.reduceLeDiff, tc_len hA, hd_len, encV_len, ok1_encV])
      | (refine Exists.intro _ (And.intro (by assumption) ?_); try simp only [push_cast, Int.cast_ofNat_Int, reduceIte, Nat.reduceEqDiff, reduceCtorEq, Nat.reduceAdd, Nat.reduceSub, Nat.reduceMul, Int.reduceToNat, Nat.reduceLeDiff, tc_len hA, hd_len, encV_len, ok1_encV])
      | (refine Exists.intro _ (Exists.intro _ (Exists.intro _ (And.intro (by assumption) ?_))); try simp only [push_cast, Int.cast_ofNat_Int, reduceIte, Nat.reduceEqDiff, reduceCtorEq, Nat.reduceAdd, Nat.reduceSub, Nat.reduceMul, Int.reduceToNat, Nat.reduceLeDiff, tc_len hA, hd_len, encV_len, ok1_encV])
      | (refine xr rfl (by simp only [List.length_cons, List.length_nil]; omega) ?_; try simp only [push_cast, Int.cast_ofNat_Int, reduceIte, Nat.reduceEqDiff, reduceCtorEq, Nat.reduceAdd, Nat.reduceSub, Nat.reduceMul, Int.reduceToNat, Nat.reduceLeDiff, tc_len hA, hd_len, encV_len, ok1_encV])
      | (refine xi rfl (by simp only [List.length_cons, List.length_nil]; omega) ?_; try simp only [push_cast, Int.cast_ofNat_Int, reduceIte, Nat.reduceEqDiff, reduceCtorEq, Nat.reduceAdd, Nat.reduceSub, Nat.reduceMul, Int.reduceToNat, Nat.reduceLeDiff, tc_len hA, hd_len, encV_len, ok1_encV])
      | (refine xs rfl (by simp only [List.length_cons, List.length_nil]; omega) ?_; try simp only [push_cast, Int.cast_ofNat_Int, reduceIte, Nat.reduceEqDiff, reduceCtorEq, Nat.reduceAdd, Nat.reduceSub, Nat.reduceMul, Int.reduceToNat, Nat.reduceLeDiff, tc_len hA, hd_len, encV_len, ok1_encV])
      | (refine xw ?_; simp only [push_cast, Int.cast_ofNat_Int, reduceIte, Nat.reduceEqDiff, reduceCtorEq, Nat.reduceAdd, Nat.reduceSub, Nat.reduceMul, Int.reduceToNat, Nat.reduceLeDiff, tc_len hA, hd_len, encV_len, ok1_encV])
      | (refine And.intro (PHeap.le_refl _) (And.intro (fun p hp => hp) ?_))
      | (refine And.intro (PHeap.le_refl _) (And.intro (fun p hp => List.mem_cons_of_mem _ hp) ?_))
      | (refine And.intro (PHeap.le_refl _) (And.intro (fun p hp => List.mem_cons_of_mem _ (List.mem_cons_of_mem _ hp)) ?_))
      | (refine And.intro (PHeap.le_refl _) (And.intro (mem_of_sub ?_) ?_); focus ((repeat' first | exact List.Sublist.refl _ | exact List.nil_sublist _ | exact List.sublist_append_left _ _ | refine List.Sublist.cons_cons _ ?_ | refine List.Sublist.append_left ?_ _ | refine List.sublist_append_of_sublist_right ?_ | refine List.Sublist.cons _ ?_); done); try simp only [push_cast, Int.cast_ofNat_Int, reduceIte, Nat.reduceEqDiff, reduceCtorEq, Nat.reduceAdd, Nat.reduceSub, Nat.reduceMul, Int.reduceToNat, Nat.reduceLeDiff, tc_len hA, hd_len, encV_len, ok1_encV])
      | (exfalso; simp at hc; done)
      | (exfalso; omega)
      | exact false
      | fail "stuck"
  refine EV.any (t := R_view_Machine_writes_3) _ (List.Sublist.refl _) ?_
  simp only [push_cast, Int.cast_ofNat_Int, reduceIte, Nat.reduceEqDiff, reduceCtorEq, Nat.reduceAdd, Nat.reduceSub, Nat.reduceMul, Int.reduceToNat, Nat.reduceLeDiff, R_view_Machine_writes_3]
  repeat' first
      | refine EV.seq ?_
      | refine EV.skip ?_
      | refine EV.block ?_
      | refine EV.inBlock ?_
      | (refine EV.reg ?_; (conv => (arg 2; whnf)); simp only [push_cast, Int.cast_ofNat_Int, reduceIte, Nat.reduceEqDiff, reduceCtorEq, Nat.reduceAdd, Nat.reduceSub, Nat.reduceMul, Int.reduceToNat, Nat.reduceLeDiff, tc_len hA, hd_len, encV_len, ok1_encV])
      | assumption
      | (refine Exists.intro _ (Exists.intro _ (Exists.intro _ (And.intro (rd_ln hl ha (fun q hq => by simp [hq])) ?_))); try simp only [push_cast, Int.cast_ofNat_Int, reduceIte, Nat.reduceEqDiff, reduceCtorEq, Nat.reduceAdd, Nat.reduceSub, Nat.reduceMul, Int.reduceToNat, Nat.reduceLeDiff, tc_len hA, hd_len, encV_len, ok1_encV])
      | (refine Exists.intro _ (And.intro (rd_ln hl ha (fun q hq => by simp [hq])) ?_); try simp only [push_cast, Int.cast_ofNat_Int, reduceIte, Nat.reduceEqDiff, reduceCtorEq, Nat.reduceAdd, Nat.reduceSub, Nat.reduceMul, Int.reduceToNat, Nat.reduceLeDiff, tc_len hA, hd_len, encV_len, ok1_encV])
      | (refine Exists.intro _ (Exists.intro _ (Exists.intro _ (And.intro (rd_hd_lnH (line := line) (lv := lv) hl) ?_))); try simp only [push_cast, Int.cast_ofNat_Int, reduceIte, Nat.reduceEqDiff, reduceCtorEq, Nat.reduceAdd, Nat.reduceSub, Nat.reduceMul, Int.reduceToNat, Nat.reduceLeDiff, tc_len hA, hd_len, encV_len, ok1_encV])
      | (refine Exists.intro _ (And.intro (rd_hd_lnH (line := line) (lv := lv) hl) ?_); try simp only [push_cast, Int.cast_ofNat_Int, reduceIte, Nat.reduceEqDiff, reduceCtorEq, Nat.reduceAdd, Nat.reduceSub, Nat.reduceMul, Int.reduceToNat, Nat.reduceLeDiff, tc_len hA, hd_len, encV_len, ok1_encV])
      | (refine condW.merge ?_ (fun hc K' hK => ?_) ?_; rotate_left)
      | (refine condQ.mk ?_ (fun hc => ?_) ?_; rotate_left; (try simp only [decide_eq_true_eq, decide_eq_false_iff_not, Bool.not_eq_true', Bool.not_eq_false', Bool.and_eq_true, Bool.or_eq_true, Bool.and_eq_false_iff, Bool.or_eq_false_iff] at hc))
      | (with_reducible rfl)
      | ((refine EV.cond rfl (fun h => ?_) (fun h => ?_) <;> try simp only [reduceCtorEq, reduceIte, if_true, if_false, Bool.not_eq_true', Bool.not_eq_false', decide_eq_true_eq, decide_eq_false_iff_not, Bool.and_eq_true, Bool.or_eq_true, Bool.and_eq_false_iff, Bool.or_eq_false_iff] at h) <;> try (exfalso; first | exact h True.intro | (exact h; done) | omega))
      | (refine EV.exit rfl ?_)
      | (with_reducible intro b; try simp only [push_cast, Int.cast_ofNat_Int, reduceIte, Nat.reduceEqDiff, reduceCtorEq, Nat.reduceAdd, Nat.reduceSub, Nat.reduceMul, Int.reduceToNat, Nat.reduceLeDiff, tc_len hA, hd_len, encV_len, ok1_encV])
      | with_reducible intro b
      | (refine And.intro (by omega) ?_)
      | (refine Exists.intro _ (And.intro (rd_M (by assumption)) ?_); try simp only [push_cast, Int.cast_ofNat_Int, reduceIte, Nat.reduceEqDiff, reduceCtorEq, Nat.reduceAdd, Nat.reduceSub, Nat.reduceMul, Int.reduceToNat, Nat.reduceLeDiff, tc_len hA, hd_len, encV_len, ok1_encV])
      | (refine Exists.intro _ (Exists.intro _ (Exists.intro _ (And.intro (rd_M (by assumption)) ?_))); try simp only [push_cast, Int.cast_ofNat_Int, reduceIte, Nat.reduceEqDiff, reduceCtorEq, Nat.reduceAdd, Nat.reduceSub, Nat.reduceMul, Int.reduceToNat, Nat.reduceLeDiff, tc_len hA, hd_len, encV_len, ok1_encV])
      | (refine Exists.intro _ (And.intro (by assumption) ?_); try simp only [push_cast, Int.cast_ofNat_Int, reduceIte, Nat.reduceEqDiff, reduceCtorEq, Nat.reduceAdd, Nat.reduceSub, Nat.reduceMul, Int.reduceToNat, Nat.reduceLeDiff, tc_len hA, hd_len, encV_len, ok1_encV])
      | (refine Exists.intro _ (Exists.intro _ (Exists.intro _ (And.intro (by assumption) ?_))); try simp only [push_cast, Int.cast_ofNat_Int, reduceIte, Nat.reduceEqDiff, reduceCtorEq, Nat.reduceAdd, Nat.reduceSub, Nat.reduceMul, Int.reduceToNat, Nat.reduceLeDiff, tc_len hA, hd_len, encV_len, ok1_encV])
      | (refine xr rfl (by simp only [List.length_cons, List.length_nil]; omega) ?_; try simp only [push_cast, Int.cast_ofNat_Int, reduceIte, Nat.reduceEqDiff, reduceCtorEq, Nat.reduceAdd, Nat.reduceSub, Nat.reduceMul, Int.reduceToNat, Nat.reduceLeDiff, tc_len hA, hd_len, encV_len, ok1_encV])
      | (refine xi rfl (by simp only [List.length_cons, List.length_nil]; omega) ?_; try simp only [push_cast, Int.cast_ofNat_Int, reduceIte, Nat.reduceEqDiff, reduceCtorEq, Nat.reduceAdd, Nat.reduceSub, Nat.reduceMul, Int.reduceToNat, Nat.reduceLeDiff, tc_len hA, hd_len, encV_len, ok1_encV])
      | (refine xs rfl (by simp only [List.length_cons, List.length_nil]; omega) ?_; try simp only [push_cast, Int.cast_ofNat_Int, reduceIte, Nat.reduceEqDiff, reduceCtorEq, Nat.reduceAdd, Nat.reduceSub, Nat.reduceMul, Int.reduceToNat, Nat.reduceLeDiff, tc_len hA, hd_len, encV_len, ok1_encV])
      | (refine xw ?_; simp only [push_cast, Int.cast_ofNat_Int, reduceIte, Nat.reduceEqDiff, reduceCtorEq, Nat.reduceAdd, Nat.reduceSub, Nat.reduceMul, Int.reduceToNat, Nat.reduceLeDiff, tc_len hA, hd_len, encV_len, ok1_encV])
      | (refine And.intro (PHeap.le_refl _) (And.intro (fun p hp => hp) ?_))
      | (refine And.intro (PHeap.le_refl _) (And.intro (fun p hp => List.mem_cons_of_mem _ hp) ?_))
      | (refine And.intro (PHeap.le_refl _) (And.intro (fun p hp => List.mem_cons_of_mem _ (List.mem_cons_of_mem _ hp)) ?_))
      | (refine And.intro (PHeap.le_refl _) (And.intro (mem_of_sub ?_) ?_); focus ((repeat' first | exact List.Sublist.refl _ | exact List.nil_sublist _ | exact List.sublist_append_left _ _ | refine List.Sublist.cons_cons _ ?_ | refine List.Sublist.append_left ?_ _ | refine List.sublist_append_of_sublist_right ?_ | refine List.Sublist.cons _ ?_); done); try simp only [push_cast, Int.cast_ofNat_Int, reduceIte, Nat.reduceEqDiff, reduceCtorEq, Nat.reduceAdd, Nat.reduceSub, Nat.reduceMul, Int.reduceToNat, Nat.reduceLeDiff, tc_len hA, hd_len, encV_len, ok1_encV])
      | (exfalso; simp at hc; done)
      | (exfalso; omega)
      | exact false
      | fail "stuck"
  refine EV.any (t := R_view_Machine_writes_4) _ (sub4 (List.Sublist.append_right (lnRest_sub line lv hl) _)) ?_
  simp only [push_cast, Int.cast_ofNat_Int, reduceIte, Nat.reduceEqDiff, reduceCtorEq, Nat.reduceAdd, Nat.reduceSub, Nat.reduceMul, Int.reduceToNat, Nat.reduceLeDiff, R_view_Machine_writes_4]
  repeat' first
      | refine EV.seq ?_
      | refine EV.skip ?_
      | refine EV.block ?_
      | refine EV.inBlock ?_
      | (refine EV.reg ?_; (conv => (arg 2; whnf)); simp only [push_cast, Int.cast_ofNat_Int, reduceIte, Nat.reduceEqDiff, reduceCtorEq, Nat.reduceAdd, Nat.reduceSub, Nat.reduceMul, Int.reduceToNat, Nat.reduceLeDiff, tc_len hA, hd_len, encV_len, ok1_encV, hw1])
      | assumption
      | (refine Exists.intro _ (Exists.intro _ (Exists.intro _ (And.intro (rd_hd_lnH (line := line) (lv := lv) hl) ?_))); try simp only [push_cast, Int.cast_ofNat_Int, reduceIte, Nat.reduceEqDiff, reduceCtorEq, Nat.reduceAdd, Nat.reduceSub, Nat.reduceMul, Int.reduceToNat, Nat.reduceLeDiff, tc_len hA, hd_len, encV_len, ok1_encV, hw1])
      | (refine Exists.intro _ (And.intro (rd_hd_lnH (line := line) (lv := lv) hl) ?_); try simp only [push_cast, Int.cast_ofNat_Int, reduceIte, Nat.reduceEqDiff, reduceCtorEq, Nat.reduceAdd, Nat.reduceSub, Nat.reduceMul, Int.reduceToNat, Nat.reduceLeDiff, tc_len hA, hd_len, encV_len, ok1_encV, hw1])
      | (refine condW.merge ?_ (fun hc K' hK => ?_) ?_; rotate_left)
      | (refine condQ.mk ?_ (fun hc => ?_) ?_; rotate_left; (try simp only [decide_eq_true_eq, decide_eq_false_iff_not, Bool.not_eq_true', Bool.not_eq_false', Bool.and_eq_true, Bool.or_eq_true, Bool.and_eq_false_iff, Bool.or_eq_false_iff] at hc))
      | (with_reducible rfl)
      | ((refine EV.cond rfl (fun h => ?_) (fun h => ?_) <;> try simp only [reduceCtorEq, reduceIte, if_true, if_false, Bool.not_eq_true', Bool.not_eq_false', decide_eq_true_eq, decide_eq_false_iff_not, Bool.and_eq_true, Bool.or_eq_true, Bool.and_eq_false_iff, Bool.or_eq_false_iff] at h) <;> try (exfalso; first | exact h True.intro | (exact h; done) | omega))
      | (refine EV.exit rfl ?_)
      | (with_reducible intro b; try simp only [push_cast, Int.cast_ofNat_Int, reduceIte, Nat.reduceEqDiff, reduceCtorEq, Nat.reduceAdd, Nat.reduceSub, Nat.reduceMul, Int.reduceToNat, Nat.reduceLeDiff, tc_len hA, hd_len, encV_len, ok1_encV, hw1])
      | with_reducible intro b
      | (refine And.intro (by omega) ?_)
      | (refine Exists.intro _ (And.intro (rd_M (by assumption)) ?_); try simp only [push_cast, Int.cast_ofNat_Int, reduceIte, Nat.reduceEqDiff, reduceCtorEq, Nat.reduceAdd, Nat.reduceSub, Nat.reduceMul, Int.reduceToNat, Nat.reduceLeDiff, tc_len hA, hd_len, encV_len, ok1_encV, hw1])
      | (refine Exists.intro _ (Exists.intro _ (Exists.intro _ (And.intro (rd_M (by assumption)) ?_))); try simp only [push_cast, Int.cast_ofNat_Int, reduceIte, Nat.reduceEqDiff, reduceCtorEq, Nat.reduceAdd, Nat.reduceSub, Nat.reduceMul, Int.reduceToNat, Nat.reduceLeDiff, tc_len hA, hd_len, encV_len, ok1_encV, hw1])
      | (refine Exists.intro _ (And.intro (by assumption) ?_); try simp only [push_cast, Int.cast_ofNat_Int, reduceIte, Nat.reduceEqDiff, reduceCtorEq, Nat.reduceAdd, Nat.reduceSub, Nat.reduceMul, Int.reduceToNat, Nat.reduceLeDiff, tc_len hA, hd_len, encV_len, ok1_encV, hw1])
      | (refine Exists.intro _ (Exists.intro _ (Exists.intro _ (And.intro (by assumption) ?_))); try simp only [push_cast, Int.cast_ofNat_Int, reduceIte, Nat.reduceEqDiff, reduceCtorEq, Nat.reduceAdd, Nat.reduceSub, Nat.reduceMul, Int.reduceToNat, Nat.reduceLeDiff, tc_len hA, hd_len, encV_len, ok1_encV, hw1])
      | (refine xr rfl (by simp only [List.length_cons, List.length_nil]; omega) ?_; try simp only [push_cast, Int.cast_ofNat_Int, reduceIte, Nat.reduceEqDiff, reduceCtorEq, Nat.reduceAdd, Nat.reduceSub, Nat.reduceMul, Int.reduceToNat, Nat.reduceLeDiff, tc_len hA, hd_len, encV_len, ok1_encV, hw1])
      | (refine xi rfl (by simp only [List.length_cons, List.length_nil]; omega) ?_; try simp only [push_cast, Int.cast_ofNat_Int, reduceIte, Nat.reduceEqDiff, reduceCtorEq, Nat.reduceAdd, Nat.reduceSub, Nat.reduceMul, Int.reduceToNat, Nat.reduceLeDiff, tc_len hA, hd_len, encV_len, ok1_encV, hw1])
      | (refine xs rfl (by simp only [List.length_cons, List.length_nil]; omega) ?_; try simp only [push_cast, Int.cast_ofNat_Int, reduceIte, Nat.reduceEqDiff, reduceCtorEq, Nat.reduceAdd, Nat.reduceSub, Nat.reduceMul, Int.reduceToNat, Nat.reduceLeDiff, tc_len hA, hd_len, encV_len, ok1_encV, hw1])
      | (refine xw ?_; simp only [push_cast, Int.cast_ofNat_Int, reduceIte, Nat.reduceEqDiff, reduceCtorEq, Nat.reduceAdd, Nat.reduceSub, Nat.reduceMul, Int.reduceToNat, Nat.reduceLeDiff, tc_len hA, hd_len, encV_len, ok1_encV, hw1])
      | (refine And.intro (PHeap.le_refl _) (And.intro (fun p hp => hp) ?_))
      | (refine And.intro (PHeap.le_refl _) (And.intro (fun p hp => List.mem_cons_of_mem _ hp) ?_))
      | (refine And.intro (PHeap.le_refl _) (And.intro (fun p hp => List.mem_cons_of_mem _ (List.mem_cons_of_mem _ hp)) ?_))
      | (refine And.intro (PHeap.le_refl _) (And.intro (mem_of_sub ?_) ?_); focus ((repeat' first | exact List.Sublist.refl _ | exact List.nil_sublist _ | exact List.sublist_append_left _ _ | refine List.Sublist.cons_cons _ ?_ | refine List.Sublist.append_left ?_ _ | refine List.sublist_append_of_sublist_right ?_ | refine List.Sublist.cons _ ?_); done); try simp only [push_cast, Int.cast_ofNat_Int, reduceIte, Nat.reduceEqDiff, reduceCtorEq, Nat.reduceAdd, Nat.reduceSub, Nat.reduceMul, Int.reduceToNat, Nat.reduceLeDiff, tc_len hA, hd_len, encV_len, ok1_encV, hw1])
      | (exfalso; simp at hc; done)
      | (exfalso; omega)
      | exact false
      | fail "stuck"
  refine And.intro (PHeap.le_refl _) (And.intro (mem_of_sub (List.Sublist.cons _ (sub4 (List.Sublist.append_right (lnRest_sub line lv hl) _)))) ?_)
  rw [hcast]
  refine Con.callB (Mr := M) (slices_Insert_c (line l) (lv l).1 (lv l).2.1 (lv l).2.2 (ok.lk l hl) (i := a + 1) (by omega) (by omega) msgs.length b) (PHeap.le_add _ _) (ins_perm (lnG_split line lv hl)) ?_
  rintro v1 M1 G1 ⟨o, rfl, hoo, rfl⟩
  simp only [push_cast, Int.cast_ofNat_Int, reduceIte, Nat.reduceEqDiff, reduceCtorEq, Nat.reduceAdd, Nat.reduceSub, Nat.reduceMul, Int.reduceToNat, Nat.reduceLeDiff]
  refine And.intro (PHeap.le_refl _) (And.intro (mem_of_sub (by (repeat' first | exact List.Sublist.refl _ | exact List.nil_sublist _ | exact List.sublist_append_left _ _ | refine List.Sublist.cons_cons _ ?_ | refine List.Sublist.append_left ?_ _ | refine List.sublist_append_of_sublist_right ?_ | refine List.Sublist.cons _ ?_))) ?_)
  refine And.intro (by omega) (And.intro (by omega) ?_)
  refine ⟨_, _, [_], _, rfl, ?_, ?_⟩
  · rw [hd_len]; omega
  simp only [push_cast, Int.cast_ofNat_Int, reduceIte, Nat.reduceEqDiff, reduceCtorEq, Nat.reduceAdd, Nat.reduceSub, Nat.reduceMul, Int.reduceToNat, Nat.reduceLeDiff, hd_st_line hl]
  refine EV.permG ?_ (ins_perm' (lnG_upd line lv hl (insL (line l) (a + 1) msgs.length) o))
  rw [← insL_len (line l) (a + 1) msgs.length, lnH_upd]
  have hbb' : ∀ j, j < 3 → (upd line l (insL (line l) (a + 1) msgs.length) j).length < 1000000 := fun j hj => by
    simp only [upd]
    split
    · rw [insL_len]; omega
    · exact hbb j hj
  have hlk' : ∀ j, j < 3 → osok 1 (some (upd lv l o j)) (upd line l (insL (line l) (a + 1) msgs.length) j).length ((upd line l (insL (line l) (a + 1) msgs.length) j).map vi) := fun j hj => by
    simp only [upd]
    by_cases e : j = l
    · simp only [if_pos e]; rw [insL_len]; exact hoo
    · simp only [if_neg e]; exact ok.lk j hj
  obtain ⟨line', hline'⟩ : ∃ line', line' = upd line l (insL (line l) (a + 1) msgs.length) := ⟨_, rfl⟩
  obtain ⟨lv', hlv'⟩ : ∃ lv', lv' = upd lv l o := ⟨_, rfl⟩
  simp only [← hline', ← hlv'] at hbb' hlk' ⊢
  repeat' first
      | refine EV.seq ?_
      | refine EV.skip ?_
      | refine EV.block ?_
      | refine EV.inBlock ?_
      | (refine EV.reg ?_; (conv => (arg 2; whnf)); simp only [push_cast, Int.cast_ofNat_Int, reduceIte, Nat.reduceEqDiff, reduceCtorEq, Nat.reduceAdd, Nat.reduceSub, Nat.reduceMul, Int.reduceToNat, Nat.reduceLeDiff, tc_len hA, hd_len, encV_len, ok1_encV])
      | assumption
      | (refine Exists.intro _ (Exists.intro _ (Exists.intro _ (And.intro (rd_hd_ms) ?_))); try simp only [push_cast, Int.cast_ofNat_Int, reduceIte, Nat.reduceEqDiff, reduceCtorEq, Nat.reduceAdd, Nat.reduceSub, Nat.reduceMul, Int.reduceToNat, Nat.reduceLeDiff, tc_len hA, hd_len, encV_len, ok1_encV])
      | (refine Exists.intro _ (And.intro (rd_hd_ms) ?_); try simp only [push_cast, Int.cast_ofNat_Int, reduceIte, Nat.reduceEqDiff, reduceCtorEq, Nat.reduceAdd, Nat.reduceSub, Nat.reduceMul, Int.reduceToNat, Nat.reduceLeDiff, tc_len hA, hd_len, encV_len, ok1_encV])
      | (refine condW.merge ?_ (fun hc K' hK => ?_) ?_; rotate_left)
      | (refine condQ.mk ?_ (fun hc => ?_) ?_; rotate_left; (try simp only [decide_eq_true_eq, decide_eq_false_iff_not, Bool.not_eq_true', Bool.not_eq_false', Bool.and_eq_true, Bool.or_eq_true, Bool.and_eq_false_iff, Bool.or_eq_false_iff] at hc))
      | (with_reducible rfl)
      | ((refine EV.cond rfl (fun h => ?_) (fun h => ?_) <;> try simp only [reduceCtorEq, reduceIte, if_true, if_false, Bool.not_eq_true', Bool.not_eq_false', decide_eq_true_eq, decide_eq_false_iff_not, Bool.and_eq_true, Bool.or_eq_true, Bool.and_eq_false_iff, Bool.or_eq_false_iff] at h) <;> try (exfalso; first | exact h True.intro | (exact h; done) | omega))
      | (refine EV.exit rfl ?_)
      | (with_reducible intro b; try simp only [push_cast, Int.cast_ofNat_Int, reduceIte, Nat.reduceEqDiff, reduceCtorEq, Nat.reduceAdd, Nat.reduceSub, Nat.reduceMul, Int.reduceToNat, Nat.reduceLeDiff, tc_len hA, hd_len, encV_len, ok1_encV])
      | with_reducible intro b
      | (refine And.intro (by omega) ?_)
      | (refine Exists.intro _ (And.intro (rd_M (by assumption)) ?_); try simp only [push_cast, Int.cast_ofNat_Int, reduceIte, Nat.reduceEqDiff, reduceCtorEq, Nat.reduceAdd, Nat.reduceSub, Nat.reduceMul, Int.reduceToNat, Nat.reduceLeDiff, tc_len hA, hd_len, encV_len, ok1_encV])
      | (refine Exists.intro _ (Exists.intro _ (Exists.intro _ (And.intro (rd_M (by assumption)) ?_))); try simp only [push_cast, Int.cast_ofNat_Int, reduceIte, Nat.reduceEqDiff, reduceCtorEq, Nat.reduceAdd, Nat.reduceSub, Nat.reduceMul, Int.reduceToNat, Nat.reduceLeDiff, tc_len hA, hd_len, encV_len, ok1_encV])
      | (refine Exists.intro _ (And.intro (by assumption) ?_); try simp only [push_cast, Int.cast_ofNat_Int, reduceIte, Nat.reduceEqDiff, reduceCtorEq, Nat.reduceAdd, Nat.reduceSub, Nat.reduceMul, Int.reduceToNat, Nat.reduceLeDiff, tc_len hA, hd_len, encV_len, ok1_encV])
      | (refine Exists.intro _ (Exists.intro _ (Exists.intro _ (And.intro (by assumption) ?_))); try simp only [push_cast, Int.cast_ofNat_Int, reduceIte, Nat.reduceEqDiff, reduceCtorEq, Nat.reduceAdd, Nat.reduceSub, Nat.reduceMul, Int.reduceToNat, Nat.reduceLeDiff, tc_len hA, hd_len, encV_len, ok1_encV])
      | (refine xr rfl (by simp only [List.length_cons, List.length_nil]; omega) ?_; try simp only [push_cast, Int.cast_ofNat_Int, reduceIte, Nat.reduceEqDiff, reduceCtorEq, Nat.reduceAdd, Nat.reduceSub, Nat.reduceMul, Int.reduceToNat, Nat.reduceLeDiff, tc_len hA, hd_len, encV_len, ok1_encV])
      | (refine xi rfl (by simp only [List.length_cons, List.length_nil]; omega) ?_; try simp only [push_cast, Int.cast_ofNat_Int, reduceIte, Nat.reduceEqDiff, reduceCtorEq, Nat.reduceAdd, Nat.reduceSub, Nat.reduceMul, Int.reduceToNat, Nat.reduceLeDiff, tc_len hA, hd_len, encV_len, ok1_encV])
      | (refine xs rfl (by simp only [List.length_cons, List.length_nil]; omega) ?_; try simp only [push_cast, Int.cast_ofNat_Int, reduceIte, Nat.reduceEqDiff, reduceCtorEq, Nat.reduceAdd, Nat.reduceSub, Nat.reduceMul, Int.reduceToNat, Nat.reduceLeDiff, tc_len hA, hd_len, encV_len, ok1_encV])
      | (refine xw ?_; simp only [push_cast, Int.cast_ofNat_Int, reduceIte, Nat.reduceEqDiff, reduceCtorEq, Nat.reduceAdd, Nat.reduceSub, Nat.reduceMul, Int.reduceToNat, Nat.reduceLeDiff, tc_len hA, hd_len, encV_len, ok1_encV])
      | (refine And.intro (PHeap.le_refl _) (And.intro (fun p hp => hp) ?_))
      | (refine And.intro (PHeap.le_refl _) (And.intro (fun p hp => List.mem_cons_of_mem _ hp) ?_))
      | (refine And.intro (PHeap.le_refl _) (And.intro (fun p hp => List.mem_cons_of_mem _ (List.mem_cons_of_mem _ hp)) ?_))
      | (refine And.intro (PHeap.le_refl _) (And.intro (mem_of_sub ?_) ?_); focus ((repeat' first | exact List.Sublist.refl _ | exact List.nil_sublist _ | exact List.sublist_append_left _ _ | refine List.Sublist.cons_cons _ ?_ | refine List.Sublist.append_left ?_ _ | refine List.sublist_append_of_sublist_right ?_ | refine List.Sublist.cons _ ?_); done); try simp only [push_cast, Int.cast_ofNat_Int, reduceIte, Nat.reduceEqDiff, reduceCtorEq, Nat.reduceAdd, Nat.reduceSub, Nat.reduceMul, Int.reduceToNat, Nat.reduceLeDiff, tc_len hA, hd_len, encV_len, ok1_encV])
      | (exfalso; simp at hc; done)
      | (exfalso; omega)
      | exact false
      | fail "stuck"
  refine ⟨_, Or.inr ⟨_, 0, rfl, rd_own' 0 rfl rfl (by simp)⟩, by simp [ok1_cons, ok1_nil, Value.oneCell'], Or.inl ⟨some (mb, mc, ms), _, rfl, _, ok.mok, _, cat_pull [[_, _, _, _], osg 67 (some (mb, mc, ms)) _, lnG line' lv', rdsG _] 1 (by simp), ?_, ?_, ?_⟩⟩
  · simp only [maxLen]; omega
  · omega
  intro q1 hq1 _
  cases q1 with
  | none => exact absurd hq1.1 (by omega)
  | some q1 =>
  obtain ⟨qb, qc, qs⟩ := q1
  simp only [List.eraseIdx_cons_succ, List.eraseIdx_cons_zero, List.getElem_cons_succ, List.getElem_cons_zero, List.insertIdx_zero, List.insertIdx_succ_cons, cat_two, cat_one, cat_nil, List.nil_append, List.cons_append, List.append_assoc, List.append_nil]
  simp only [push_cast, Int.cast_ofNat_Int, reduceIte, Nat.reduceEqDiff, reduceCtorEq, Nat.reduceAdd, Nat.reduceSub, Nat.reduceMul, Int.reduceToNat, Nat.reduceLeDiff, osg]
  repeat' first
      | refine EV.seq ?_
      | refine EV.skip ?_
      | refine EV.block ?_
      | refine EV.inBlock ?_
      | (refine EV.reg ?_; (conv => (arg 2; whnf)); simp only [push_cast, Int.cast_ofNat_Int, reduceIte, Nat.reduceEqDiff, reduceCtorEq, Nat.reduceAdd, Nat.reduceSub, Nat.reduceMul, Int.reduceToNat, Nat.reduceLeDiff, tc_len hA, hd_len, encV_len, ok1_encV, hd_st_ms])
      | assumption
      | (refine condW.merge ?_ (fun hc K' hK => ?_) ?_; rotate_left)
      | (refine condQ.mk ?_ (fun hc => ?_) ?_; rotate_left; (try simp only [decide_eq_true_eq, decide_eq_false_iff_not, Bool.not_eq_true', Bool.not_eq_false', Bool.and_eq_true, Bool.or_eq_true, Bool.and_eq_false_iff, Bool.or_eq_false_iff] at hc))
      | (with_reducible rfl)
      | ((refine EV.cond rfl (fun h => ?_) (fun h => ?_) <;> try simp only [reduceCtorEq, reduceIte, if_true, if_false, Bool.not_eq_true', Bool.not_eq_false', decide_eq_true_eq, decide_eq_false_iff_not, Bool.and_eq_true, Bool.or_eq_true, Bool.and_eq_false_iff, Bool.or_eq_false_iff] at h) <;> try (exfalso; first | exact h True.intro | (exact h; done) | omega))
      | (refine EV.exit rfl ?_)
      | (with_reducible intro b; try simp only [push_cast, Int.cast_ofNat_Int, reduceIte, Nat.reduceEqDiff, reduceCtorEq, Nat.reduceAdd, Nat.reduceSub, Nat.reduceMul, Int.reduceToNat, Nat.reduceLeDiff, tc_len hA, hd_len, encV_len, ok1_encV, hd_st_ms])
      | with_reducible intro b
      | (refine And.intro (by omega) ?_)
      | (refine Exists.intro _ (And.intro (rd_M (by assumption)) ?_); try simp only [push_cast, Int.cast_ofNat_Int, reduceIte, Nat.reduceEqDiff, reduceCtorEq, Nat.reduceAdd, Nat.reduceSub, Nat.reduceMul, Int.reduceToNat, Nat.reduceLeDiff, tc_len hA, hd_len, encV_len, ok1_encV, hd_st_ms])
      | (refine Exists.intro _ (Exists.intro _ (Exists.intro _ (And.intro (rd_M (by assumption)) ?_))); try simp only [push_cast, Int.cast_ofNat_Int, reduceIte, Nat.reduceEqDiff, reduceCtorEq, Nat.reduceAdd, Nat.reduceSub, Nat.reduceMul, Int.reduceToNat, Nat.reduceLeDiff, tc_len hA, hd_len, encV_len, ok1_encV, hd_st_ms])
      | (refine Exists.intro _ (And.intro (by assumption) ?_); try simp only [push_cast, Int.cast_ofNat_Int, reduceIte, Nat.reduceEqDiff, reduceCtorEq, Nat.reduceAdd, Nat.reduceSub, Nat.reduceMul, Int.reduceToNat, Nat.reduceLeDiff, tc_len hA, hd_len, encV_len, ok1_encV, hd_st_ms])
      | (refine Exists.intro _ (Exists.intro _ (Exists.intro _ (And.intro (by assumption) ?_))); try simp only [push_cast, Int.cast_ofNat_Int, reduceIte, Nat.reduceEqDiff, reduceCtorEq, Nat.reduceAdd, Nat.reduceSub, Nat.reduceMul, Int.reduceToNat, Nat.reduceLeDiff, tc_len hA, hd_len, encV_len, ok1_encV, hd_st_ms])
      | (refine xr rfl (by simp only [List.length_cons, List.length_nil]; omega) ?_; try simp only [push_cast, Int.cast_ofNat_Int, reduceIte, Nat.reduceEqDiff, reduceCtorEq, Nat.reduceAdd, Nat.reduceSub, Nat.reduceMul, Int.reduceToNat, Nat.reduceLeDiff, tc_len hA, hd_len, encV_len, ok1_encV, hd_st_ms])
      | (refine xi rfl (by simp only [List.length_cons, List.length_nil]; omega) ?_; try simp only [push_cast, Int.cast_ofNat_Int, reduceIte, Nat.reduceEqDiff, reduceCtorEq, Nat.reduceAdd, Nat.reduceSub, Nat.reduceMul, Int.reduceToNat, Nat.reduceLeDiff, tc_len hA, hd_len, encV_len, ok1_encV, hd_st_ms])
      | (refine xs rfl (by simp only [List.length_cons, List.length_nil]; omega) ?_; try simp only [push_cast, Int.cast_ofNat_Int, reduceIte, Nat.reduceEqDiff, reduceCtorEq, Nat.reduceAdd, Nat.reduceSub, Nat.reduceMul, Int.reduceToNat, Nat.reduceLeDiff, tc_len hA, hd_len, encV_len, ok1_encV, hd_st_ms])
      | (refine xw ?_; simp only [push_cast, Int.cast_ofNat_Int, reduceIte, Nat.reduceEqDiff, reduceCtorEq, Nat.reduceAdd, Nat.reduceSub, Nat.reduceMul, Int.reduceToNat, Nat.reduceLeDiff, tc_len hA, hd_len, encV_len, ok1_encV, hd_st_ms])
      | (refine And.intro (PHeap.le_refl _) (And.intro (fun p hp => hp) ?_))
      | (refine And.intro (PHeap.le_refl _) (And.intro (fun p hp => List.mem_cons_of_mem _ hp) ?_))
      | (refine And.intro (PHeap.le_refl _) (And.intro (fun p hp => List.mem_cons_of_mem _ (List.mem_cons_of_mem _ hp)) ?_))
      | (refine And.intro (PHeap.le_refl _) (And.intro (mem_of_sub ?_) ?_); focus ((repeat' first | exact List.Sublist.refl _ | exact List.nil_sublist _ | exact List.sublist_append_left _ _ | refine List.Sublist.cons_cons _ ?_ | refine List.Sublist.append_left ?_ _ | refine List.sublist_append_of_sublist_right ?_ | refine List.Sublist.cons _ ?_); done); try simp only [push_cast, Int.cast_ofNat_Int, reduceIte, Nat.reduceEqDiff, reduceCtorEq, Nat.reduceAdd, Nat.reduceSub, Nat.reduceMul, Int.reduceToNat, Nat.reduceLeDiff, tc_len hA, hd_len, encV_len, ok1_encV, hd_st_ms])
      | (exfalso; simp at hc; done)
      | (exfalso; omega)
      | exact false
      | fail "stuck"
  refine EV.permG ?_ (cat_move [[_, _, _, _], lnG line' lv', rdsG _, [_]] 3 1 (by simp) (by simp))
  simp only [List.eraseIdx_cons_succ, List.eraseIdx_cons_zero, List.getElem_cons_succ, List.getElem_cons_zero, List.insertIdx_zero, List.insertIdx_succ_cons, cat_two, cat_one, cat_nil, List.nil_append, List.cons_append, List.append_assoc, List.append_nil]
  repeat' first
      | refine EV.seq ?_
      | refine EV.skip ?_
      | refine EV.block ?_
      | refine EV.inBlock ?_
      | (refine EV.reg ?_; (conv => (arg 2; whnf)); simp only [push_cast, Int.cast_ofNat_Int, reduceIte, Nat.reduceEqDiff, reduceCtorEq, Nat.reduceAdd, Nat.reduceSub, Nat.reduceMul, Int.reduceToNat, Nat.reduceLeDiff, tc_len hA, hd_len, encV_len, ok1_encV, tc_st_at hA hl, tc_st_gained hA, enc_drop, enc_st_at hl, mc_st hX])
      | (refine EV.any _ (List.Sublist.refl _) ?_; (conv => (arg 2; whnf)); simp only [push_cast, Int.cast_ofNat_Int, reduceIte, Nat.reduceEqDiff, reduceCtorEq, Nat.reduceAdd, Nat.reduceSub, Nat.reduceMul, Int.reduceToNat, Nat.reduceLeDiff, tc_len hA, hd_len, encV_len, ok1_encV, tc_st_at hA hl, tc_st_gained hA, enc_drop, enc_st_at hl, mc_st hX])
      | (refine ConQ.call (view_join_l (RdL.of' (line := line') (lv := lv') (fun q hq => by simp [hq]) hbb') _ _) ?_; try simp only [push_cast, Int.cast_ofNat_Int, reduceIte, Nat.reduceEqDiff, reduceCtorEq, Nat.reduceAdd, Nat.reduceSub, Nat.reduceMul, Int.reduceToNat, Nat.reduceLeDiff, tc_len hA, hd_len, encV_len, ok1_encV, tc_st_at hA hl, tc_st_gained hA, enc_drop, enc_st_at hl, mc_st hX])
      | (refine Exists.intro _ (And.intro (view_join_l (RdL.of' (line := line') (lv := lv') (fun q hq => by simp [hq]) hbb') _ _) ?_); try simp only [push_cast, Int.cast_ofNat_Int, reduceIte, Nat.reduceEqDiff, reduceCtorEq, Nat.reduceAdd, Nat.reduceSub, Nat.reduceMul, Int.reduceToNat, Nat.reduceLeDiff, tc_len hA, hd_len, encV_len, ok1_encV, tc_st_at hA hl, tc_st_gained hA, enc_drop, enc_st_at hl, mc_st hX])
      | (refine ConQ.call (order_Releases_q _ o5) ?_; try simp only [push_cast, Int.cast_ofNat_Int, reduceIte, Nat.reduceEqDiff, reduceCtorEq, Nat.reduceAdd, Nat.reduceSub, Nat.reduceMul, Int.reduceToNat, Nat.reduceLeDiff, tc_len hA, hd_len, encV_len, ok1_encV, tc_st_at hA hl, tc_st_gained hA, enc_drop, enc_st_at hl, mc_st hX])
      | (refine Exists.intro _ (And.intro (order_Releases_q _ o5) ?_); try simp only [push_cast, Int.cast_ofNat_Int, reduceIte, Nat.reduceEqDiff, reduceCtorEq, Nat.reduceAdd, Nat.reduceSub, Nat.reduceMul, Int.reduceToNat, Nat.reduceLeDiff, tc_len hA, hd_len, encV_len, ok1_encV, tc_st_at hA hl, tc_st_gained hA, enc_drop, enc_st_at hl, mc_st hX])
      | (refine Exists.intro _ (Exists.intro _ (Exists.intro _ (And.intro (rd_box) ?_))); try simp only [push_cast, Int.cast_ofNat_Int, reduceIte, Nat.reduceEqDiff, reduceCtorEq, Nat.reduceAdd, Nat.reduceSub, Nat.reduceMul, Int.reduceToNat, Nat.reduceLeDiff, tc_len hA, hd_len, encV_len, ok1_encV, tc_st_at hA hl, tc_st_gained hA, enc_drop, enc_st_at hl, mc_st hX])
      | (refine Exists.intro _ (And.intro (rd_box) ?_); try simp only [push_cast, Int.cast_ofNat_Int, reduceIte, Nat.reduceEqDiff, reduceCtorEq, Nat.reduceAdd, Nat.reduceSub, Nat.reduceMul, Int.reduceToNat, Nat.reduceLeDiff, tc_len hA, hd_len, encV_len, ok1_encV, tc_st_at hA hl, tc_st_gained hA, enc_drop, enc_st_at hl, mc_st hX])
      | (refine Exists.intro _ (Exists.intro _ (Exists.intro _ (And.intro (rd_ms_view hfn) ?_))); try simp only [push_cast, Int.cast_ofNat_Int, reduceIte, Nat.reduceEqDiff, reduceCtorEq, Nat.reduceAdd, Nat.reduceSub, Nat.reduceMul, Int.reduceToNat, Nat.reduceLeDiff, tc_len hA, hd_len, encV_len, ok1_encV, tc_st_at hA hl, tc_st_gained hA, enc_drop, enc_st_at hl, mc_st hX])
      | (refine Exists.intro _ (And.intro (rd_ms_view hfn) ?_); try simp only [push_cast, Int.cast_ofNat_Int, reduceIte, Nat.reduceEqDiff, reduceCtorEq, Nat.reduceAdd, Nat.reduceSub, Nat.reduceMul, Int.reduceToNat, Nat.reduceLeDiff, tc_len hA, hd_len, encV_len, ok1_encV, tc_st_at hA hl, tc_st_gained hA, enc_drop, enc_st_at hl, mc_st hX])
      | (refine Exists.intro _ (Exists.intro _ (Exists.intro _ (And.intro (rd_hd_ms) ?_))); try simp only [push_cast, Int.cast_ofNat_Int, reduceIte, Nat.reduceEqDiff, reduceCtorEq, Nat.reduceAdd, Nat.reduceSub, Nat.reduceMul, Int.reduceToNat, Nat.reduceLeDiff, tc_len hA, hd_len, encV_len, ok1_encV, tc_st_at hA hl, tc_st_gained hA, enc_drop, enc_st_at hl, mc_st hX])
      | (refine Exists.intro _ (And.intro (rd_hd_ms) ?_); try simp only [push_cast, Int.cast_ofNat_Int, reduceIte, Nat.reduceEqDiff, reduceCtorEq, Nat.reduceAdd, Nat.reduceSub, Nat.reduceMul, Int.reduceToNat, Nat.reduceLeDiff, tc_len hA, hd_len, encV_len, ok1_encV, tc_st_at hA hl, tc_st_gained hA, enc_drop, enc_st_at hl, mc_st hX])
      | (refine Exists.intro _ (Exists.intro _ (Exists.intro _ (And.intro (rd_tc_given hA) ?_))); try simp only [push_cast, Int.cast_ofNat_Int, reduceIte, Nat.reduceEqDiff, reduceCtorEq, Nat.reduceAdd, Nat.reduceSub, Nat.reduceMul, Int.reduceToNat, Nat.reduceLeDiff, tc_len hA, hd_len, encV_len, ok1_encV, tc_st_at hA hl, tc_st_gained hA, enc_drop, enc_st_at hl, mc_st hX])
      | (refine Exists.intro _ (And.intro (rd_tc_given hA) ?_); try simp only [push_cast, Int.cast_ofNat_Int, reduceIte, Nat.reduceEqDiff, reduceCtorEq, Nat.reduceAdd, Nat.reduceSub, Nat.reduceMul, Int.reduceToNat, Nat.reduceLeDiff, tc_len hA, hd_len, encV_len, ok1_encV, tc_st_at hA hl, tc_st_gained hA, enc_drop, enc_st_at hl, mc_st hX])
      | (refine Exists.intro _ (Exists.intro _ (Exists.intro _ (And.intro (rd_tc_gained hA) ?_))); try simp only [push_cast, Int.cast_ofNat_Int, reduceIte, Nat.reduceEqDiff, reduceCtorEq, Nat.reduceAdd, Nat.reduceSub, Nat.reduceMul, Int.reduceToNat, Nat.reduceLeDiff, tc_len hA, hd_len, encV_len, ok1_encV, tc_st_at hA hl, tc_st_gained hA, enc_drop, enc_st_at hl, mc_st hX])
      | (refine Exists.intro _ (And.intro (rd_tc_gained hA) ?_); try simp only [push_cast, Int.cast_ofNat_Int, reduceIte, Nat.reduceEqDiff, reduceCtorEq, Nat.reduceAdd, Nat.reduceSub, Nat.reduceMul, Int.reduceToNat, Nat.reduceLeDiff, tc_len hA, hd_len, encV_len, ok1_encV, tc_st_at hA hl, tc_st_gained hA, enc_drop, enc_st_at hl, mc_st hX])
      | (refine Exists.intro _ (Exists.intro _ (Exists.intro _ (And.intro (rd_tc_now hA) ?_))); try simp only [push_cast, Int.cast_ofNat_Int, reduceIte, Nat.reduceEqDiff, reduceCtorEq, Nat.reduceAdd, Nat.reduceSub, Nat.reduceMul, Int.reduceToNat, Nat.reduceLeDiff, tc_len hA, hd_len, encV_len, ok1_encV, tc_st_at hA hl, tc_st_gained hA, enc_drop, enc_st_at hl, mc_st hX])
      | (refine Exists.intro _ (And.intro (rd_tc_now hA) ?_); try simp only [push_cast, Int.cast_ofNat_Int, reduceIte, Nat.reduceEqDiff, reduceCtorEq, Nat.reduceAdd, Nat.reduceSub, Nat.reduceMul, Int.reduceToNat, Nat.reduceLeDiff, tc_len hA, hd_len, encV_len, ok1_encV, tc_st_at hA hl, tc_st_gained hA, enc_drop, enc_st_at hl, mc_st hX])
      | assumption
      | (refine condW.merge ?_ (fun hc K' hK => ?_) ?_; rotate_left)
      | (refine condQ.mk ?_ (fun hc => ?_) ?_; rotate_left; (try simp only [decide_eq_true_eq, decide_eq_false_iff_not, Bool.not_eq_true', Bool.not_eq_false', Bool.and_eq_true, Bool.or_eq_true, Bool.and_eq_false_iff, Bool.or_eq_false_iff] at hc))
      | (with_reducible rfl)
      | ((refine EV.cond rfl (fun h => ?_) (fun h => ?_) <;> try simp only [reduceCtorEq, reduceIte, if_true, if_false, Bool.not_eq_true', Bool.not_eq_false', decide_eq_true_eq, decide_eq_false_iff_not, Bool.and_eq_true, Bool.or_eq_true, Bool.and_eq_false_iff, Bool.or_eq_false_iff] at h) <;> try (exfalso; first | exact h True.intro | (exact h; done) | omega))
      | (refine EV.exit rfl ?_)
      | (with_reducible intro b; try simp only [push_cast, Int.cast_ofNat_Int, reduceIte, Nat.reduceEqDiff, reduceCtorEq, Nat.reduceAdd, Nat.reduceSub, Nat.reduceMul, Int.reduceToNat, Nat.reduceLeDiff, tc_len hA, hd_len, encV_len, ok1_encV, tc_st_at hA hl, tc_st_gained hA, enc_drop, enc_st_at hl, mc_st hX])
      | with_reducible intro b
      | (refine And.intro (by omega) ?_)
      | (refine Exists.intro _ (And.intro (rd_M (by assumption)) ?_); try simp only [push_cast, Int.cast_ofNat_Int, reduceIte, Nat.reduceEqDiff, reduceCtorEq, Nat.reduceAdd, Nat.reduceSub, Nat.reduceMul, Int.reduceToNat, Nat.reduceLeDiff, tc_len hA, hd_len, encV_len, ok1_encV, tc_st_at hA hl, tc_st_gained hA, enc_drop, enc_st_at hl, mc_st hX])
      | (refine Exists.intro _ (Exists.intro _ (Exists.intro _ (And.intro (rd_M (by assumption)) ?_))); try simp only [push_cast, Int.cast_ofNat_Int, reduceIte, Nat.reduceEqDiff, reduceCtorEq, Nat.reduceAdd, Nat.reduceSub, Nat.reduceMul, Int.reduceToNat, Nat.reduceLeDiff, tc_len hA, hd_len, encV_len, ok1_encV, tc_st_at hA hl, tc_st_gained hA, enc_drop, enc_st_at hl, mc_st hX])
      | (refine Exists.intro _ (And.intro (by assumption) ?_); try simp only [push_cast, Int.cast_ofNat_Int, reduceIte, Nat.reduceEqDiff, reduceCtorEq, Nat.reduceAdd, Nat.reduceSub, Nat.reduceMul, Int.reduceToNat, Nat.reduceLeDiff, tc_len hA, hd_len, encV_len, ok1_encV, tc_st_at hA hl, tc_st_gained hA, enc_drop, enc_st_at hl, mc_st hX])
      | (refine Exists.intro _ (Exists.intro _ (Exists.intro _ (And.intro (by assumption) ?_))); try simp only [push_cast, Int.cast_ofNat_Int, reduceIte, Nat.reduceEqDiff, reduceCtorEq, Nat.reduceAdd, Nat.reduceSub, Nat.reduceMul, Int.reduceToNat, Nat.reduceLeDiff, tc_len hA, hd_len, encV_len, ok1_encV, tc_st_at hA hl, tc_st_gained hA, enc_drop, enc_st_at hl, mc_st hX])
      | (refine xr rfl (by simp only [List.length_cons, List.length_nil]; omega) ?_; try simp only [push_cast, Int.cast_ofNat_Int, reduceIte, Nat.reduceEqDiff, reduceCtorEq, Nat.reduceAdd, Nat.reduceSub, Nat.reduceMul, Int.reduceToNat, Nat.reduceLeDiff, tc_len hA, hd_len, encV_len, ok1_encV, tc_st_at hA hl, tc_st_gained hA, enc_drop, enc_st_at hl, mc_st hX])
      | (refine xi rfl (by simp only [List.length_cons, List.length_nil]; omega) ?_; try simp only [push_cast, Int.cast_ofNat_Int, reduceIte, Nat.reduceEqDiff, reduceCtorEq, Nat.reduceAdd, Nat.reduceSub, Nat.reduceMul, Int.reduceToNat, Nat.reduceLeDiff, tc_len hA, hd_len, encV_len, ok1_encV, tc_st_at hA hl, tc_st_gained hA, enc_drop, enc_st_at hl, mc_st hX])
      | (refine xs rfl (by simp only [List.length_cons, List.length_nil]; omega) ?_; try simp only [push_cast, Int.cast_ofNat_Int, reduceIte, Nat.reduceEqDiff, reduceCtorEq, Nat.reduceAdd, Nat.reduceSub, Nat.reduceMul, Int.reduceToNat, Nat.reduceLeDiff, tc_len hA, hd_len, encV_len, ok1_encV, tc_st_at hA hl, tc_st_gained hA, enc_drop, enc_st_at hl, mc_st hX])
      | (refine xw ?_; simp only [push_cast, Int.cast_ofNat_Int, reduceIte, Nat.reduceEqDiff, reduceCtorEq, Nat.reduceAdd, Nat.reduceSub, Nat.reduceMul, Int.reduceToNat, Nat.reduceLeDiff, tc_len hA, hd_len, encV_len, ok1_encV, tc_st_at hA hl, tc_st_gained hA, enc_drop, enc_st_at hl, mc_st hX])
      | (refine And.intro (PHeap.le_refl _) (And.intro (fun p hp => hp) ?_))
      | (refine And.intro (PHeap.le_refl _) (And.intro (fun p hp => List.mem_cons_of_mem _ hp) ?_))
      | (refine And.intro (PHeap.le_refl _) (And.intro (fun p hp => List.mem_cons_of_mem _ (List.mem_cons_of_mem _ hp)) ?_))
      | (refine And.intro (PHeap.le_refl _) (And.intro (mem_of_sub ?_) ?_); focus ((repeat' first | exact List.Sublist.refl _ | exact List.nil_sublist _ | exact List.sublist_append_left _ _ | refine List.Sublist.cons_cons _ ?_ | refine List.Sublist.append_left ?_ _ | refine List.sublist_append_of_sublist_right ?_ | refine List.Sublist.cons _ ?_); done); try simp only [push_cast, Int.cast_ofNat_Int, reduceIte, Nat.reduceEqDiff, reduceCtorEq, Nat.reduceAdd, Nat.reduceSub, Nat.reduceMul, Int.reduceToNat, Nat.reduceLeDiff, tc_len hA, hd_len, encV_len, ok1_encV, tc_st_at hA hl, tc_st_gained hA, enc_drop, enc_st_at hl, mc_st hX])
      | (exfalso; simp at hc; done)
      | (exfalso; omega)
      | exact false
      | fail "stuck"
  all_goals
    rename_i hr
    refine And.intro (by rw [List.length_append]; simp only [List.length_cons]; omega) ?_
    refine EV.to (ρ' := []) (G' := PM.G ⟨pg, pc, (qb, qc, qs), lv', tv, prog, msgs ++ [⟨word, writesView line' t l msgs.length od tied msgs[(line l)[a]!.toNat]!.view, tied⟩], line', all, pA ++ (writesThr line' t l msgs.length, ov) :: pC⟩ mp) ?_ (by simp)
      (by simp only [PM.G, tc_of, rdsG_at, pt_len, writesThr, writesView, h, hr, if_true, if_false, reduceCtorEq, reduceIte, List.length_append, List.length_singleton, List.flatMap_append, List.flatMap_cons, List.flatMap_nil, encMsg, encV, List.cons_append, List.nil_append, List.append_assoc, List.append_nil]; (repeat' first | exact List.Sublist.refl _ | exact List.nil_sublist _ | exact List.sublist_append_left _ _ | refine List.Sublist.cons_cons _ ?_ | refine List.Sublist.append_left ?_ _ | refine List.sublist_append_of_sublist_right ?_ | refine List.Sublist.cons _ ?_))
    refine EV.done R_view_Machine_writes_ok ?_
    simp only [push_cast, Int.cast_ofNat_Int, reduceIte, Nat.reduceEqDiff, reduceCtorEq, Nat.reduceAdd, Nat.reduceSub, Nat.reduceMul, Int.reduceToNat, Nat.reduceLeDiff, R_view_Machine_writes]
    have ok2 := PM.Ok.thr (all' := all) (writesThr line' t l msgs.length) ov ok (ok.rk (t, ov) (by simp))
    unfold Wrote
    refine ⟨_, rfl, ⟨?_, hlk', ok2.tk, ok2.rk⟩, ?_, rfl, rfl⟩
    · obtain ⟨z1, z2, z3, z4⟩ := hq1
      simp only [List.length_append, List.length_cons, List.length_nil] at z1 z2 z3
      refine ⟨?_, ?_, ?_, z4⟩
      · dsimp only; rw [flatMap_length (enc := encMsg) (sz := 5) (fun _ => rfl)]
      · dsimp only; rw [List.length_append, flatMap_length (enc := encMsg) (sz := 5) (fun _ => rfl), List.length_append, List.length_singleton]; omega
      · dsimp only; rw [List.length_append, List.length_singleton]; omega
    · subst hpA
      subst hline'
      simp only [PM.vm, VM.writes, thr_at, thr_set pA pC t _ ov ov, Int.toNat_natCast]
      rfl

end
end Go.EV

namespace Go.EV
open Go.Proofs
section
variable {M : PHeap} {mp : Nat} {B : Nat}

set_option maxRecDepth 8000 in
set_option maxHeartbeats 8000000 in
theorem view_does_c (p : PM) (ok : p.Ok) (hpg : SlSl M 5 encOp (.slice p.pg p.prog.length p.pc) p.prog) (wf : p.vm.Wf B) (hB2 : B + 2 < 1000000) {w : Nat} (hw : w < p.pt.length) (hn : p.vm.thr[w]!.next ≠ p.prog[w]!.length) (o : OpV) (ho : okOpE o)
    (c : Nat × Bool) (hc : o.kind ≠ 5 → c.1 < (p.line o.loc.toNat).length) :
    Con Try.prog 31 #[pv mp 0, vi w, vop o, .agg #[vi c.1, vb c.2]] M (p.G mp) (Wrote mp p (p.vm.does w o c)) := by
  have hw0 : w < p.vm.thr.length := by simpa [PM.vm] using hw
  have wf1 := nexts_wf wf hw0 hn
  have hpl := wf.pl
  have hnx := wf.nx w hw0
  have hpb : p.prog[w]!.length < 1000000 := by
    have : w < p.prog.length := by have h := wf.pl; simp only [PM.vm] at h; rw [h]; simpa using hw
    rw [getB this]
    exact wf.pb _ (List.getElem_mem _)
  obtain ⟨kd, lo, v, w', od⟩ := o
  obtain ⟨o1, o2, o3, o4, o5⟩ := ho
  dsimp only at o1 o2 o3 o4 o5
  obtain ⟨l, rfl⟩ : ∃ l : Nat, lo = l := ⟨lo.toNat, by omega⟩
  have hl : l < 3 := by omega
  simp only [Int.toNat_natCast] at hc
  obtain ⟨ca, cw⟩ := c
  dsimp only at hc
  obtain ⟨pg, pc, mv, lv, tv, prog, msgs, line, all, pt⟩ := p
  obtain ⟨pA, ⟨t, ov⟩, pC, rfl, hpA⟩ := PM.split pt w hw
  have hA : (pA.flatMap encPT).length = w * 11 := by rw [encPT_len, hpA]
  have ht : (PM.vm ⟨pg, pc, mv, lv, tv, prog, msgs, line, all, pA ++ (t, ov) :: pC⟩).thr[w]! = t := by subst hpA; simp only [PM.vm, thr_at]
  rw [ht] at hn hnx
  dsimp only at hn hnx hpb hpg hc hw
  simp only [PM.vm] at hnx
  have hw1 : IntKind.i64.wrap ((t.next : Int) + 1) = ((t.next + 1 : Nat) : Int) := by rw [w64 (by omega) (by omega)]; omega
  obtain ⟨t1, ht1⟩ : ∃ t1 : Thr, t1 = ⟨t.now, t.gained, t.given, t.read, t.next + 1⟩ := ⟨_, rfl⟩
  obtain ⟨p1, hp1⟩ : ∃ p1 : PM, p1 = ⟨pg, pc, mv, lv, tv, prog, msgs, line, all, pA ++ (t1, ov) :: pC⟩ := ⟨_, rfl⟩
  have ok1 : p1.Ok := hp1 ▸ ok.thr t1 ov (ht1 ▸ ok.rk (t, ov) (by simp))
  have hvm1 : p1.vm = VM.nexts (PM.vm ⟨pg, pc, mv, lv, tv, prog, msgs, line, all, pA ++ (t, ov) :: pC⟩) w := by
    subst hpA hp1 ht1
    simp only [PM.vm, VM.nexts, VM.setThr, thr_at, thr_set pA pC t _ ov ov]
  have hpw1 : w < p1.pt.length := by rw [hp1]; simpa using hw
  have hline1 : p1.line = line := by rw [hp1]
  have hmsgs1 : p1.msgs = msgs := by rw [hp1]
  rw [← hvm1] at wf1
  refine Con.enter R_view_Machine_does_ok (args := [pv mp 0, vi w, vop ⟨kd, l, v, w', od⟩, .agg #[vi ca, vb cw]]) (by simp [R_view_Machine_does]) fun w0 => ?_
  simp only [R_view_Machine_does, argE, PM.G]
  rw [tc_of]
  refine EV.seq ?_
  refine EV.reg ?_
  simp only [push_cast, Int.cast_ofNat_Int, reduceIte, Nat.reduceEqDiff, reduceCtorEq, Nat.reduceAdd, Nat.reduceSub, Nat.reduceMul, Int.reduceToNat, Nat.reduceLeDiff, R_view_Machine_does_0]
  intro b6 b7
  refine EV.freeze (G₁ := [_, _]) ?_
  generalize hN : M.add [(b7, Cl 76 [vi ca, vb cw]), (b6, Cl 55 [vi kd, vi l, vi v, vi w', vi od])] = N
  have hMN : M.le N := hN ▸ PHeap.le_add _ _
  have hk0 : rd N b6 0 1 [vi kd] := hN ▸ rd_own' 1 rfl rfl (by simp)
  have hk1 : rd N b6 1 1 [vi l] := hN ▸ rd_own' 1 rfl rfl (by simp)
  have hk2 : rd N b6 2 1 [vi v] := hN ▸ rd_own' 1 rfl rfl (by simp)
  have hk3 : rd N b6 3 1 [vi w'] := hN ▸ rd_own' 1 rfl rfl (by simp)
  have hk5 : rd N b6 0 5 [vi kd, vi l, vi v, vi w', vi od] := hN ▸ rd_own' 1 rfl rfl (by simp)
  have hc0 : rd N b7 0 1 [vi ca] := hN ▸ rd_own' 0 rfl rfl (by simp)
  have hc1 : rd N b7 1 1 [vb cw] := hN ▸ rd_own' 0 rfl rfl (by simp)
  clear hN
  refine EV.seq ?_
  refine EV.reg ?_
  simp only [push_cast, Int.cast_ofNat_Int, reduceIte, Nat.reduceEqDiff, reduceCtorEq, Nat.reduceAdd, Nat.reduceSub, Nat.reduceMul, Int.reduceToNat, Nat.reduceLeDiff, R_view_Machine_does_1]
  have hperm : ∀ q : PM, (q.G mp).Perm (q.G mp ++ []) := fun q => by rw [List.append_nil]
  have hG1 : (mp, Cl 65 (hdL (.slice pg prog.length pc) (rowV mv.fst msgs.length mv.snd.fst) (lnH line lv) (rowV tv.fst (pA ++ (t, ov) :: pC).length tv.snd.fst) all)) ::
      (tv.fst, Cl 69 (tc (List.flatMap encPT pA) t.now t.gained t.given (osv ov t.read.length) (vi ((t.next + 1 : Nat) : Int)) (List.flatMap encPT pC ++ tv.snd.snd))) ::
      (mv.fst, Cl 67 (List.flatMap encMsg msgs ++ mv.snd.snd)) :: (lnG line lv ++ rdsG (pA ++ (t, ov) :: pC)) = p1.G mp := by
    rw [hp1, ht1]; simp only [PM.G, tc_of, rdsG_at, pt_len]
  have hcast : ((t.next : Int) + 1) = ((t.next + 1 : Nat) : Int) := by omega
  have hr1 := PM.rdM (M := N) (G := p1.G mp) ok1 (by rw [hp1]; exact hpg.mono hMN) (fun q h => h)
  by_cases h5 : kd = 5
  · repeat' first
      | refine EV.seq ?_
      | refine EV.skip ?_
      | refine EV.block ?_
      | refine EV.inBlock ?_
      | (refine EV.reg ?_; (conv => (arg 2; whnf)); simp only [push_cast, Int.cast_ofNat_Int, reduceIte, Nat.reduceEqDiff, reduceCtorEq, Nat.reduceAdd, Nat.reduceSub, Nat.reduceMul, Int.reduceToNat, Nat.reduceLeDiff, tc_len hA, hd_len, tc_st_next hA, hw1, h5])
      | assumption
      | (refine Exists.intro _ (Exists.intro _ (Exists.intro _ (And.intro (rd_hd_th) ?_))); try simp only [push_cast, Int.cast_ofNat_Int, reduceIte, Nat.reduceEqDiff, reduceCtorEq, Nat.reduceAdd, Nat.reduceSub, Nat.reduceMul, Int.reduceToNat, Nat.reduceLeDiff, tc_len hA, hd_len, tc_st_next hA, hw1, h5])
      | (refine Exists.intro _ (And.intro (rd_hd_th) ?_); try simp only [push_cast, Int.cast_ofNat_Int, reduceIte, Nat.reduceEqDiff, reduceCtorEq, Nat.reduceAdd, Nat.reduceSub, Nat.reduceMul, Int.reduceToNat, Nat.reduceLeDiff, tc_len hA, hd_len, tc_st_next hA, hw1, h5])
      | (refine Exists.intro _ (Exists.intro _ (Exists.intro _ (And.intro (rd_tc_next hA) ?_))); try simp only [push_cast, Int.cast_ofNat_Int, reduceIte, Nat.reduceEqDiff, reduceCtorEq, Nat.reduceAdd, Nat.reduceSub, Nat.reduceMul, Int.reduceToNat, Nat.reduceLeDiff, tc_len hA, hd_len, tc_st_next hA, hw1, h5])
      | (refine Exists.intro _ (And.intro (rd_tc_next hA) ?_); try simp only [push_cast, Int.cast_ofNat_Int, reduceIte, Nat.reduceEqDiff, reduceCtorEq, Nat.reduceAdd, Nat.reduceSub, Nat.reduceMul, Int.reduceToNat, Nat.reduceLeDiff, tc_len hA, hd_len, tc_st_next hA, hw1, h5])
      | (refine condW.merge ?_ (fun hc K' hK => ?_) ?_; rotate_left)
      | (refine condQ.mk ?_ (fun hc => ?_) ?_; rotate_left; (try simp only [decide_eq_true_eq, decide_eq_false_iff_not, Bool.not_eq_true', Bool.not_eq_false', Bool.and_eq_true, Bool.or_eq_true, Bool.and_eq_false_iff, Bool.or_eq_false_iff] at hc))
      | (with_reducible rfl)
      | ((refine EV.cond rfl (fun h => ?_) (fun h => ?_) <;> try simp only [reduceCtorEq, reduceIte, if_true, if_false, Bool.not_eq_true', Bool.not_eq_false', decide_eq_true_eq, decide_eq_false_iff_not, Bool.and_eq_true, Bool.or_eq_true, Bool.and_eq_false_iff, Bool.or_eq_false_iff] at h) <;> try (exfalso; first | exact h True.intro | (exact h; done) | omega))
      | (refine EV.exit rfl ?_)
      | (with_reducible intro b; try simp only [push_cast, Int.cast_ofNat_Int, reduceIte, Nat.reduceEqDiff, reduceCtorEq, Nat.reduceAdd, Nat.reduceSub, Nat.reduceMul, Int.reduceToNat, Nat.reduceLeDiff, tc_len hA, hd_len, tc_st_next hA, hw1, h5])
      | with_reducible intro b
      | (refine And.intro (by omega) ?_)
      | (refine Exists.intro _ (And.intro (rd_M (by assumption)) ?_); try simp only [push_cast, Int.cast_ofNat_Int, reduceIte, Nat.reduceEqDiff, reduceCtorEq, Nat.reduceAdd, Nat.reduceSub, Nat.reduceMul, Int.reduceToNat, Nat.reduceLeDiff, tc_len hA, hd_len, tc_st_next hA, hw1, h5])
      | (refine Exists.intro _ (Exists.intro _ (Exists.intro _ (And.intro (rd_M (by assumption)) ?_))); try simp only [push_cast, Int.cast_ofNat_Int, reduceIte, Nat.reduceEqDiff, reduceCtorEq, Nat.reduceAdd, Nat.reduceSub, Nat.reduceMul, Int.reduceToNat, Nat.reduceLeDiff, tc_len hA, hd_len, tc_st_next hA, hw1, h5])
      | (refine Exists.intro _ (And.intro (by assumption) ?_); try simp only [push_cast, Int.cast_ofNat_Int, reduceIte, Nat.reduceEqDiff, reduceCtorEq, Nat.reduceAdd, Nat.reduceSub, Nat.reduceMul, Int.reduceToNat, Nat.reduceLeDiff, tc_len hA, hd_len, tc_st_next hA, hw1, h5])
      | (refine Exists.intro _ (Exists.intro _ (Exists.intro _ (And.intro (by assumption) ?_))); try simp only [push_cast, Int.cast_ofNat_Int, reduceIte, Nat.reduceEqDiff, reduceCtorEq, Nat.reduceAdd, Nat.reduceSub, Nat.reduceMul, Int.reduceToNat, Nat.reduceLeDiff, tc_len hA, hd_len, tc_st_next hA, hw1, h5])
      | (refine xr rfl (by simp only [List.length_cons, List.length_nil]; omega) ?_; try simp only [push_cast, Int.cast_ofNat_Int, reduceIte, Nat.reduceEqDiff, reduceCtorEq, Nat.reduceAdd, Nat.reduceSub, Nat.reduceMul, Int.reduceToNat, Nat.reduceLeDiff, tc_len hA, hd_len, tc_st_next hA, hw1, h5])
      | (refine xi rfl (by simp only [List.length_cons, List.length_nil]; omega) ?_; try simp only [push_cast, Int.cast_ofNat_Int, reduceIte, Nat.reduceEqDiff, reduceCtorEq, Nat.reduceAdd, Nat.reduceSub, Nat.reduceMul, Int.reduceToNat, Nat.reduceLeDiff, tc_len hA, hd_len, tc_st_next hA, hw1, h5])
      | (refine xs rfl (by simp only [List.length_cons, List.length_nil]; omega) ?_; try simp only [push_cast, Int.cast_ofNat_Int, reduceIte, Nat.reduceEqDiff, reduceCtorEq, Nat.reduceAdd, Nat.reduceSub, Nat.reduceMul, Int.reduceToNat, Nat.reduceLeDiff, tc_len hA, hd_len, tc_st_next hA, hw1, h5])
      | (refine xw ?_; simp only [push_cast, Int.cast_ofNat_Int, reduceIte, Nat.reduceEqDiff, reduceCtorEq, Nat.reduceAdd, Nat.reduceSub, Nat.reduceMul, Int.reduceToNat, Nat.reduceLeDiff, tc_len hA, hd_len, tc_st_next hA, hw1, h5])
      | (refine And.intro (PHeap.le_refl _) (And.intro (fun p hp => hp) ?_))
      | (refine And.intro (PHeap.le_refl _) (And.intro (fun p hp => List.mem_cons_of_mem _ hp) ?_))
      | (refine And.intro (PHeap.le_refl _) (And.intro (fun p hp => List.mem_cons_of_mem _ (List.mem_cons_of_mem _ hp)) ?_))
      | (refine And.intro (PHeap.le_refl _) (And.intro (mem_of_sub ?_) ?_); focus ((repeat' first | exact List.Sublist.refl _ | exact List.nil_sublist _ | exact List.sublist_append_left _ _ | refine List.Sublist.cons_cons _ ?_ | refine List.Sublist.append_left ?_ _ | refine List.sublist_append_of_sublist_right ?_ | refine List.Sublist.cons _ ?_); done); try simp only [push_cast, Int.cast_ofNat_Int, reduceIte, Nat.reduceEqDiff, reduceCtorEq, Nat.reduceAdd, Nat.reduceSub, Nat.reduceMul, Int.reduceToNat, Nat.reduceLeDiff, tc_len hA, hd_len, tc_st_next hA, hw1, h5])
      | (exfalso; simp at hc; done)
      | (exfalso; omega)
      | exact false
      | fail "stuck"
    rw [hcast, hG1]
    refine Con.callB (Mr := N) (view_fenced_c p1 ok1 wf1 hpw1 ⟨5, l, v, w', od⟩ o5) (PHeap.le_add _ _) (hperm p1) ?_
    rintro v1 M1 G1 ⟨p2, rfl, ok2, hvm2, e1, e2⟩
    simp only [push_cast, Int.cast_ofNat_Int, reduceIte, Nat.reduceEqDiff, reduceCtorEq, Nat.reduceAdd, Nat.reduceSub, Nat.reduceMul, Int.reduceToNat, Nat.reduceLeDiff]
    repeat' first
        | refine EV.seq ?_
        | refine EV.skip ?_
        | refine EV.block ?_
        | refine EV.inBlock ?_
        | (refine EV.reg ?_; (conv => (arg 2; whnf)); simp only [push_cast, Int.cast_ofNat_Int, reduceIte, Nat.reduceEqDiff, reduceCtorEq, Nat.reduceAdd, Nat.reduceSub, Nat.reduceMul, Int.reduceToNat, Nat.reduceLeDiff])
        | (refine EV.any _ (List.Sublist.refl _) ?_; (conv => (arg 2; whnf)); simp only [push_cast, Int.cast_ofNat_Int, reduceIte, Nat.reduceEqDiff, reduceCtorEq, Nat.reduceAdd, Nat.reduceSub, Nat.reduceMul, Int.reduceToNat, Nat.reduceLeDiff])
        | assumption
        | (refine condW.merge ?_ (fun hc K' hK => ?_) ?_; rotate_left)
        | (refine condQ.mk ?_ (fun hc => ?_) ?_; rotate_left; (try simp only [decide_eq_true_eq, decide_eq_false_iff_not, Bool.not_eq_true', Bool.not_eq_false', Bool.and_eq_true, Bool.or_eq_true, Bool.and_eq_false_iff, Bool.or_eq_false_iff] at hc))
        | (with_reducible rfl)
        | ((refine EV.cond rfl (fun h => ?_) (fun h => ?_) <;> try simp only [reduceCtorEq, reduceIte, if_true, if_false, Bool.not_eq_true', Bool.not_eq_false', decide_eq_true_eq, decide_eq_false_iff_not, Bool.and_eq_true, Bool.or_eq_true, Bool.and_eq_false_iff, Bool.or_eq_false_iff] at h) <;> try (exfalso; first | exact h True.intro | (exact h; done) | omega))
        | (refine EV.exit rfl ?_)
        | (with_reducible intro b; try simp only [push_cast, Int.cast_ofNat_Int, reduceIte, Nat.reduceEqDiff, reduceCtorEq, Nat.reduceAdd, Nat.reduceSub, Nat.reduceMul, Int.reduceToNat, Nat.reduceLeDiff])
        | with_reducible intro b
        | (refine And.intro (by omega) ?_)
        | (refine Exists.intro _ (And.intro (rd_M (by assumption)) ?_); try simp only [push_cast, Int.cast_ofNat_Int, reduceIte, Nat.reduceEqDiff, reduceCtorEq, Nat.reduceAdd, Nat.reduceSub, Nat.reduceMul, Int.reduceToNat, Nat.reduceLeDiff])
        | (refine Exists.intro _ (Exists.intro _ (Exists.intro _ (And.intro (rd_M (by assumption)) ?_))); try simp only [push_cast, Int.cast_ofNat_Int, reduceIte, Nat.reduceEqDiff, reduceCtorEq, Nat.reduceAdd, Nat.reduceSub, Nat.reduceMul, Int.reduceToNat, Nat.reduceLeDiff])
        | (refine Exists.intro _ (And.intro (by assumption) ?_); try simp only [push_cast, Int.cast_ofNat_Int, reduceIte, Nat.reduceEqDiff, reduceCtorEq, Nat.reduceAdd, Nat.reduceSub, Nat.reduceMul, Int.reduceToNat, Nat.reduceLeDiff])
        | (refine Exists.intro _ (Exists.intro _ (Exists.intro _ (And.intro (by assumption) ?_))); try simp only [push_cast, Int.cast_ofNat_Int, reduceIte, Nat.reduceEqDiff, reduceCtorEq, Nat.reduceAdd, Nat.reduceSub, Nat.reduceMul, Int.reduceToNat, Nat.reduceLeDiff])
        | (refine xr rfl (by simp only [List.length_cons, List.length_nil]; omega) ?_; try simp only [push_cast, Int.cast_ofNat_Int, reduceIte, Nat.reduceEqDiff, reduceCtorEq, Nat.reduceAdd, Nat.reduceSub, Nat.reduceMul, Int.reduceToNat, Nat.reduceLeDiff])
        | (refine xi rfl (by simp only [List.length_cons, List.length_nil]; omega) ?_; try simp only [push_cast, Int.cast_ofNat_Int, reduceIte, Nat.reduceEqDiff, reduceCtorEq, Nat.reduceAdd, Nat.reduceSub, Nat.reduceMul, Int.reduceToNat, Nat.reduceLeDiff])
        | (refine xs rfl (by simp only [List.length_cons, List.length_nil]; omega) ?_; try simp only [push_cast, Int.cast_ofNat_Int, reduceIte, Nat.reduceEqDiff, reduceCtorEq, Nat.reduceAdd, Nat.reduceSub, Nat.reduceMul, Int.reduceToNat, Nat.reduceLeDiff])
        | (refine xw ?_; simp only [push_cast, Int.cast_ofNat_Int, reduceIte, Nat.reduceEqDiff, reduceCtorEq, Nat.reduceAdd, Nat.reduceSub, Nat.reduceMul, Int.reduceToNat, Nat.reduceLeDiff])
        | (refine And.intro (PHeap.le_refl _) (And.intro (fun p hp => hp) ?_))
        | (refine And.intro (PHeap.le_refl _) (And.intro (fun p hp => List.mem_cons_of_mem _ hp) ?_))
        | (refine And.intro (PHeap.le_refl _) (And.intro (fun p hp => List.mem_cons_of_mem _ (List.mem_cons_of_mem _ hp)) ?_))
        | (refine And.intro (PHeap.le_refl _) (And.intro (mem_of_sub ?_) ?_); focus ((repeat' first | exact List.Sublist.refl _ | exact List.nil_sublist _ | exact List.sublist_append_left _ _ | refine List.Sublist.cons_cons _ ?_ | refine List.Sublist.append_left ?_ _ | refine List.sublist_append_of_sublist_right ?_ | refine List.Sublist.cons _ ?_); done); try simp only [push_cast, Int.cast_ofNat_Int, reduceIte, Nat.reduceEqDiff, reduceCtorEq, Nat.reduceAdd, Nat.reduceSub, Nat.reduceMul, Int.reduceToNat, Nat.reduceLeDiff])
        | (exfalso; simp at hc; done)
        | (exfalso; omega)
        | exact false
        | fail "stuck"
    refine EV.ret R_view_Machine_does_ok ?_
    simp only [push_cast, Int.cast_ofNat_Int, reduceIte, Nat.reduceEqDiff, reduceCtorEq, Nat.reduceAdd, Nat.reduceSub, Nat.reduceMul, Int.reduceToNat, Nat.reduceLeDiff, R_view_Machine_does]
    refine ⟨p2, rfl, ok2, ?_, by rw [e1, hp1], by rw [e2, hp1]⟩
    rw [hvm2, hvm1]
    simp only [VM.does, h5, if_true]
  · have ha := hc h5
    by_cases h1 : kd = 1
    · have hb1 : (!decide (kd = 1)) = false := by simp [h1]
      repeat' first
          | refine EV.seq ?_
          | refine EV.skip ?_
          | refine EV.block ?_
          | refine EV.inBlock ?_
          | (refine EV.reg ?_; (conv => (arg 2; whnf)); simp only [push_cast, Int.cast_ofNat_Int, reduceIte, Nat.reduceEqDiff, reduceCtorEq, Nat.reduceAdd, Nat.reduceSub, Nat.reduceMul, Int.reduceToNat, Nat.reduceLeDiff, tc_len hA, hd_len, tc_st_next hA, hw1, hb1])
          | assumption
          | (refine Exists.intro _ (Exists.intro _ (Exists.intro _ (And.intro (rd_hd_th) ?_))); try simp only [push_cast, Int.cast_ofNat_Int, reduceIte, Nat.reduceEqDiff, reduceCtorEq, Nat.reduceAdd, Nat.reduceSub, Nat.reduceMul, Int.reduceToNat, Nat.reduceLeDiff, tc_len hA, hd_len, tc_st_next hA, hw1, hb1])
          | (refine Exists.intro _ (And.intro (rd_hd_th) ?_); try simp only [push_cast, Int.cast_ofNat_Int, reduceIte, Nat.reduceEqDiff, reduceCtorEq, Nat.reduceAdd, Nat.reduceSub, Nat.reduceMul, Int.reduceToNat, Nat.reduceLeDiff, tc_len hA, hd_len, tc_st_next hA, hw1, hb1])
          | (refine Exists.intro _ (Exists.intro _ (Exists.intro _ (And.intro (rd_tc_next hA) ?_))); try simp only [push_cast, Int.cast_ofNat_Int, reduceIte, Nat.reduceEqDiff, reduceCtorEq, Nat.reduceAdd, Nat.reduceSub, Nat.reduceMul, Int.reduceToNat, Nat.reduceLeDiff, tc_len hA, hd_len, tc_st_next hA, hw1, hb1])
          | (refine Exists.intro _ (And.intro (rd_tc_next hA) ?_); try simp only [push_cast, Int.cast_ofNat_Int, reduceIte, Nat.reduceEqDiff, reduceCtorEq, Nat.reduceAdd, Nat.reduceSub, Nat.reduceMul, Int.reduceToNat, Nat.reduceLeDiff, tc_len hA, hd_len, tc_st_next hA, hw1, hb1])
          | (refine condW.merge ?_ (fun hc K' hK => ?_) ?_; rotate_left)
          | (refine condQ.mk ?_ (fun hc => ?_) ?_; rotate_left; (try simp only [decide_eq_true_eq, decide_eq_false_iff_not, Bool.not_eq_true', Bool.not_eq_false', Bool.and_eq_true, Bool.or_eq_true, Bool.and_eq_false_iff, Bool.or_eq_false_iff] at hc))
          | (with_reducible rfl)
          | ((refine EV.cond rfl (fun h => ?_) (fun h => ?_) <;> try simp only [reduceCtorEq, reduceIte, if_true, if_false, Bool.not_eq_true', Bool.not_eq_false', decide_eq_true_eq, decide_eq_false_iff_not, Bool.and_eq_true, Bool.or_eq_true, Bool.and_eq_false_iff, Bool.or_eq_false_iff] at h) <;> try (exfalso; first | exact h True.intro | (exact h; done) | omega))
          | (refine EV.exit rfl ?_)
          | (with_reducible intro b; try simp only [push_cast, Int.cast_ofNat_Int, reduceIte, Nat.reduceEqDiff, reduceCtorEq, Nat.reduceAdd, Nat.reduceSub, Nat.reduceMul, Int.reduceToNat, Nat.reduceLeDiff, tc_len hA, hd_len, tc_st_next hA, hw1, hb1])
          | with_reducible intro b
          | (refine And.intro (by omega) ?_)
          | (refine Exists.intro _ (And.intro (rd_M (by assumption)) ?_); try simp only [push_cast, Int.cast_ofNat_Int, reduceIte, Nat.reduceEqDiff, reduceCtorEq, Nat.reduceAdd, Nat.reduceSub, Nat.reduceMul, Int.reduceToNat, Nat.reduceLeDiff, tc_len hA, hd_len, tc_st_next hA, hw1, hb1])
          | (refine Exists.intro _ (Exists.intro _ (Exists.intro _ (And.intro (rd_M (by assumption)) ?_))); try simp only [push_cast, Int.cast_ofNat_Int, reduceIte, Nat.reduceEqDiff, reduceCtorEq, Nat.reduceAdd, Nat.reduceSub, Nat.reduceMul, Int.reduceToNat, Nat.reduceLeDiff, tc_len hA, hd_len, tc_st_next hA, hw1, hb1])
          | (refine Exists.intro _ (And.intro (by assumption) ?_); try simp only [push_cast, Int.cast_ofNat_Int, reduceIte, Nat.reduceEqDiff, reduceCtorEq, Nat.reduceAdd, Nat.reduceSub, Nat.reduceMul, Int.reduceToNat, Nat.reduceLeDiff, tc_len hA, hd_len, tc_st_next hA, hw1, hb1])
          | (refine Exists.intro _ (Exists.intro _ (Exists.intro _ (And.intro (by assumption) ?_))); try simp only [push_cast, Int.cast_ofNat_Int, reduceIte, Nat.reduceEqDiff, reduceCtorEq, Nat.reduceAdd, Nat.reduceSub, Nat.reduceMul, Int.reduceToNat, Nat.reduceLeDiff, tc_len hA, hd_len, tc_st_next hA, hw1, hb1])
          | (refine xr rfl (by simp only [List.length_cons, List.length_nil]; omega) ?_; try simp only [push_cast, Int.cast_ofNat_Int, reduceIte, Nat.reduceEqDiff, reduceCtorEq, Nat.reduceAdd, Nat.reduceSub, Nat.reduceMul, Int.reduceToNat, Nat.reduceLeDiff, tc_len hA, hd_len, tc_st_next hA, hw1, hb1])
          | (refine xi rfl (by simp only [List.length_cons, List.length_nil]; omega) ?_; try simp only [push_cast, Int.cast_ofNat_Int, reduceIte, Nat.reduceEqDiff, reduceCtorEq, Nat.reduceAdd, Nat.reduceSub, Nat.reduceMul, Int.reduceToNat, Nat.reduceLeDiff, tc_len hA, hd_len, tc_st_next hA, hw1, hb1])
          | (refine xs rfl (by simp only [List.length_cons, List.length_nil]; omega) ?_; try simp only [push_cast, Int.cast_ofNat_Int, reduceIte, Nat.reduceEqDiff, reduceCtorEq, Nat.reduceAdd, Nat.reduceSub, Nat.reduceMul, Int.reduceToNat, Nat.reduceLeDiff, tc_len hA, hd_len, tc_st_next hA, hw1, hb1])
          | (refine xw ?_; simp only [push_cast, Int.cast_ofNat_Int, reduceIte, Nat.reduceEqDiff, reduceCtorEq, Nat.reduceAdd, Nat.reduceSub, Nat.reduceMul, Int.reduceToNat, Nat.reduceLeDiff, tc_len hA, hd_len, tc_st_next hA, hw1, hb1])
          | (refine And.intro (PHeap.le_refl _) (And.intro (fun p hp => hp) ?_))
          | (refine And.intro (PHeap.le_refl _) (And.intro (fun p hp => List.mem_cons_of_mem _ hp) ?_))
          | (refine And.intro (PHeap.le_refl _) (And.intro (fun p hp => List.mem_cons_of_mem _ (List.mem_cons_of_mem _ hp)) ?_))
          | (refine And.intro (PHeap.le_refl _) (And.intro (mem_of_sub ?_) ?_); focus ((repeat' first | exact List.Sublist.refl _ | exact List.nil_sublist _ | exact List.sublist_append_left _ _ | refine List.Sublist.cons_cons _ ?_ | refine List.Sublist.append_left ?_ _ | refine List.sublist_append_of_sublist_right ?_ | refine List.Sublist.cons _ ?_); done); try simp only [push_cast, Int.cast_ofNat_Int, reduceIte, Nat.reduceEqDiff, reduceCtorEq, Nat.reduceAdd, Nat.reduceSub, Nat.reduceMul, Int.reduceToNat, Nat.reduceLeDiff, tc_len hA, hd_len, tc_st_next hA, hw1, hb1])
          | (exfalso; simp at hc; done)
          | (exfalso; omega)
          | exact false
          | fail "stuck"
      · rw [hcast, hG1]
        refine Con.callB (Mr := N) (view_writes_c p1 ok1 wf1 (by omega) hpw1 ca v ⟨kd, l, v, w', od⟩ ⟨o1, o2, o3, o4, o5⟩ (by rw [hline1]; simpa using ha) false) (PHeap.le_add _ _) (hperm p1) ?_
        rintro v1 M1 G1 ⟨p2, rfl, ok2, hvm2, e1, e2⟩
        simp only [push_cast, Int.cast_ofNat_Int, reduceIte, Nat.reduceEqDiff, reduceCtorEq, Nat.reduceAdd, Nat.reduceSub, Nat.reduceMul, Int.reduceToNat, Nat.reduceLeDiff]
        refine EV.done R_view_Machine_does_ok ?_
        simp only [push_cast, Int.cast_ofNat_Int, reduceIte, Nat.reduceEqDiff, reduceCtorEq, Nat.reduceAdd, Nat.reduceSub, Nat.reduceMul, Int.reduceToNat, Nat.reduceLeDiff, R_view_Machine_does]
        refine ⟨p2, rfl, ok2, ?_, by rw [e1, hp1], by rw [e2, hp1]⟩
        rw [hvm2, hvm1]
        simp only [VM.does, h5, h1, h, if_true, if_false, reduceCtorEq, reduceIte, Int.reduceEq]
      · rw [hcast, hG1]
        refine EV.done R_view_Machine_does_ok ?_
        simp only [push_cast, Int.cast_ofNat_Int, reduceIte, Nat.reduceEqDiff, reduceCtorEq, Nat.reduceAdd, Nat.reduceSub, Nat.reduceMul, Int.reduceToNat, Nat.reduceLeDiff, R_view_Machine_does]
        refine ⟨p1, rfl, ok1, ?_, by rw [hp1], by rw [hp1]⟩
        rw [hvm1]
        simp only [VM.does, h5, h1, h, if_true, if_false, reduceCtorEq, reduceIte, Int.reduceEq]
    · have hb1 : (!decide (kd = 1)) = true := by simp [h1]
      have hmem : (line l)[ca]! ∈ line l := by rw [getB ha]; exact List.getElem_mem _
      have hfr := wf.le l hl _ hmem
      simp only [PM.vm] at hfr
      obtain ⟨n, hn2⟩ : ∃ n : Nat, (line l)[ca]! = n := ⟨(line l)[ca]!.toNat, by omega⟩
      have hn3 : n < msgs.length := by omega
      repeat' first
          | refine EV.seq ?_
          | refine EV.skip ?_
          | refine EV.block ?_
          | refine EV.inBlock ?_
          | (refine EV.reg ?_; (conv => (arg 2; whnf)); simp only [push_cast, Int.cast_ofNat_Int, reduceIte, Nat.reduceEqDiff, reduceCtorEq, Nat.reduceAdd, Nat.reduceSub, Nat.reduceMul, Int.reduceToNat, Nat.reduceLeDiff, tc_len hA, hd_len, tc_st_next hA, hw1, hb1])
          | (refine EV.any _ (List.Sublist.refl _) ?_; (conv => (arg 2; whnf)); simp only [push_cast, Int.cast_ofNat_Int, reduceIte, Nat.reduceEqDiff, reduceCtorEq, Nat.reduceAdd, Nat.reduceSub, Nat.reduceMul, Int.reduceToNat, Nat.reduceLeDiff, tc_len hA, hd_len, tc_st_next hA, hw1, hb1])
          | (refine Exists.intro _ (Exists.intro _ (Exists.intro _ (And.intro (rd_ln hl ha (fun q hq => by simp [hq])) ?_))); try simp only [push_cast, Int.cast_ofNat_Int, reduceIte, Nat.reduceEqDiff, reduceCtorEq, Nat.reduceAdd, Nat.reduceSub, Nat.reduceMul, Int.reduceToNat, Nat.reduceLeDiff, tc_len hA, hd_len, tc_st_next hA, hw1, hb1])
          | (refine Exists.intro _ (And.intro (rd_ln hl ha (fun q hq => by simp [hq])) ?_); try simp only [push_cast, Int.cast_ofNat_Int, reduceIte, Nat.reduceEqDiff, reduceCtorEq, Nat.reduceAdd, Nat.reduceSub, Nat.reduceMul, Int.reduceToNat, Nat.reduceLeDiff, tc_len hA, hd_len, tc_st_next hA, hw1, hb1])
          | (refine Exists.intro _ (Exists.intro _ (Exists.intro _ (And.intro (rd_hd_lnH (line := line) (lv := lv) hl) ?_))); try simp only [push_cast, Int.cast_ofNat_Int, reduceIte, Nat.reduceEqDiff, reduceCtorEq, Nat.reduceAdd, Nat.reduceSub, Nat.reduceMul, Int.reduceToNat, Nat.reduceLeDiff, tc_len hA, hd_len, tc_st_next hA, hw1, hb1])
          | (refine Exists.intro _ (And.intro (rd_hd_lnH (line := line) (lv := lv) hl) ?_); try simp only [push_cast, Int.cast_ofNat_Int, reduceIte, Nat.reduceEqDiff, reduceCtorEq, Nat.reduceAdd, Nat.reduceSub, Nat.reduceMul, Int.reduceToNat, Nat.reduceLeDiff, tc_len hA, hd_len, tc_st_next hA, hw1, hb1])
          | (refine Exists.intro _ (Exists.intro _ (Exists.intro _ (And.intro (rd_hd_th) ?_))); try simp only [push_cast, Int.cast_ofNat_Int, reduceIte, Nat.reduceEqDiff, reduceCtorEq, Nat.reduceAdd, Nat.reduceSub, Nat.reduceMul, Int.reduceToNat, Nat.reduceLeDiff, tc_len hA, hd_len, tc_st_next hA, hw1, hb1])
          | (refine Exists.intro _ (And.intro (rd_hd_th) ?_); try simp only [push_cast, Int.cast_ofNat_Int, reduceIte, Nat.reduceEqDiff, reduceCtorEq, Nat.reduceAdd, Nat.reduceSub, Nat.reduceMul, Int.reduceToNat, Nat.reduceLeDiff, tc_len hA, hd_len, tc_st_next hA, hw1, hb1])
          | (refine Exists.intro _ (Exists.intro _ (Exists.intro _ (And.intro (rd_tc_next hA) ?_))); try simp only [push_cast, Int.cast_ofNat_Int, reduceIte, Nat.reduceEqDiff, reduceCtorEq, Nat.reduceAdd, Nat.reduceSub, Nat.reduceMul, Int.reduceToNat, Nat.reduceLeDiff, tc_len hA, hd_len, tc_st_next hA, hw1, hb1])
          | (refine Exists.intro _ (And.intro (rd_tc_next hA) ?_); try simp only [push_cast, Int.cast_ofNat_Int, reduceIte, Nat.reduceEqDiff, reduceCtorEq, Nat.reduceAdd, Nat.reduceSub, Nat.reduceMul, Int.reduceToNat, Nat.reduceLeDiff, tc_len hA, hd_len, tc_st_next hA, hw1, hb1])
          | assumption
          | (refine condW.merge ?_ (fun hc K' hK => ?_) ?_; rotate_left)
          | (refine condQ.mk ?_ (fun hc => ?_) ?_; rotate_left; (try simp only [decide_eq_true_eq, decide_eq_false_iff_not, Bool.not_eq_true', Bool.not_eq_false', Bool.and_eq_true, Bool.or_eq_true, Bool.and_eq_false_iff, Bool.or_eq_false_iff] at hc))
          | (with_reducible rfl)
          | ((refine EV.cond rfl (fun h => ?_) (fun h => ?_) <;> try simp only [reduceCtorEq, reduceIte, if_true, if_false, Bool.not_eq_true', Bool.not_eq_false', decide_eq_true_eq, decide_eq_false_iff_not, Bool.and_eq_true, Bool.or_eq_true, Bool.and_eq_false_iff, Bool.or_eq_false_iff] at h) <;> try (exfalso; first | exact h True.intro | (exact h; done) | omega))
          | (refine EV.exit rfl ?_)
          | (with_reducible intro b; try simp only [push_cast, Int.cast_ofNat_Int, reduceIte, Nat.reduceEqDiff, reduceCtorEq, Nat.reduceAdd, Nat.reduceSub, Nat.reduceMul, Int.reduceToNat, Nat.reduceLeDiff, tc_len hA, hd_len, tc_st_next hA, hw1, hb1])
          | with_reducible intro b
          | (refine And.intro (by omega) ?_)
          | (refine Exists.intro _ (And.intro (rd_M (by assumption)) ?_); try simp only [push_cast, Int.cast_ofNat_Int, reduceIte, Nat.reduceEqDiff, reduceCtorEq, Nat.reduceAdd, Nat.reduceSub, Nat.reduceMul, Int.reduceToNat, Nat.reduceLeDiff, tc_len hA, hd_len, tc_st_next hA, hw1, hb1])
          | (refine Exists.intro _ (Exists.intro _ (Exists.intro _ (And.intro (rd_M (by assumption)) ?_))); try simp only [push_cast, Int.cast_ofNat_Int, reduceIte, Nat.reduceEqDiff, reduceCtorEq, Nat.reduceAdd, Nat.reduceSub, Nat.reduceMul, Int.reduceToNat, Nat.reduceLeDiff, tc_len hA, hd_len, tc_st_next hA, hw1, hb1])
          | (refine Exists.intro _ (And.intro (by assumption) ?_); try simp only [push_cast, Int.cast_ofNat_Int, reduceIte, Nat.reduceEqDiff, reduceCtorEq, Nat.reduceAdd, Nat.reduceSub, Nat.reduceMul, Int.reduceToNat, Nat.reduceLeDiff, tc_len hA, hd_len, tc_st_next hA, hw1, hb1])
          | (refine Exists.intro _ (Exists.intro _ (Exists.intro _ (And.intro (by assumption) ?_))); try simp only [push_cast, Int.cast_ofNat_Int, reduceIte, Nat.reduceEqDiff, reduceCtorEq, Nat.reduceAdd, Nat.reduceSub, Nat.reduceMul, Int.reduceToNat, Nat.reduceLeDiff, tc_len hA, hd_len, tc_st_next hA, hw1, hb1])
          | (refine xr rfl (by simp only [List.length_cons, List.length_nil]; omega) ?_; try simp only [push_cast, Int.cast_ofNat_Int, reduceIte, Nat.reduceEqDiff, reduceCtorEq, Nat.reduceAdd, Nat.reduceSub, Nat.reduceMul, Int.reduceToNat, Nat.reduceLeDiff, tc_len hA, hd_len, tc_st_next hA, hw1, hb1])
          | (refine xi rfl (by simp only [List.length_cons, List.length_nil]; omega) ?_; try simp only [push_cast, Int.cast_ofNat_Int, reduceIte, Nat.reduceEqDiff, reduceCtorEq, Nat.reduceAdd, Nat.reduceSub, Nat.reduceMul, Int.reduceToNat, Nat.reduceLeDiff, tc_len hA, hd_len, tc_st_next hA, hw1, hb1])
          | (refine xs rfl (by simp only [List.length_cons, List.length_nil]; omega) ?_; try simp only [push_cast, Int.cast_ofNat_Int, reduceIte, Nat.reduceEqDiff, reduceCtorEq, Nat.reduceAdd, Nat.reduceSub, Nat.reduceMul, Int.reduceToNat, Nat.reduceLeDiff, tc_len hA, hd_len, tc_st_next hA, hw1, hb1])
          | (refine xw ?_; simp only [push_cast, Int.cast_ofNat_Int, reduceIte, Nat.reduceEqDiff, reduceCtorEq, Nat.reduceAdd, Nat.reduceSub, Nat.reduceMul, Int.reduceToNat, Nat.reduceLeDiff, tc_len hA, hd_len, tc_st_next hA, hw1, hb1])
          | (refine And.intro (PHeap.le_refl _) (And.intro (fun p hp => hp) ?_))
          | (refine And.intro (PHeap.le_refl _) (And.intro (fun p hp => List.mem_cons_of_mem _ hp) ?_))
          | (refine And.intro (PHeap.le_refl _) (And.intro (fun p hp => List.mem_cons_of_mem _ (List.mem_cons_of_mem _ hp)) ?_))
          | (refine And.intro (PHeap.le_refl _) (And.intro (mem_of_sub ?_) ?_); focus ((repeat' first | exact List.Sublist.refl _ | exact List.nil_sublist _ | exact List.sublist_append_left _ _ | refine List.Sublist.cons_cons _ ?_ | refine List.Sublist.append_left ?_ _ | refine List.sublist_append_of_sublist_right ?_ | refine List.Sublist.cons _ ?_); done); try simp only [push_cast, Int.cast_ofNat_Int, reduceIte, Nat.reduceEqDiff, reduceCtorEq, Nat.reduceAdd, Nat.reduceSub, Nat.reduceMul, Int.reduceToNat, Nat.reduceLeDiff, tc_len hA, hd_len, tc_st_next hA, hw1, hb1])
          | (exfalso; simp at hc; done)
          | (exfalso; omega)
          | exact false
          | fail "stuck"
      rw [hcast, hG1, hn2]
      refine Con.callB (Mr := N) (view_reads_c p1 ok1 wf1 hpw1 (n := n) (by rw [hmsgs1]; exact hn3) ⟨kd, l, v, w', od⟩ ⟨o1, o2, o3, o4, o5⟩) (PHeap.le_add _ _) (hperm p1) ?_
      rintro v1 M1 G1 ⟨p2, rfl, ok2, hvm2, e1, e2⟩
      simp only [push_cast, Int.cast_ofNat_Int, reduceIte, Nat.reduceEqDiff, reduceCtorEq, Nat.reduceAdd, Nat.reduceSub, Nat.reduceMul, Int.reduceToNat, Nat.reduceLeDiff]
      have hpg2 : p2.prog = prog := by have := congrArg VM.prog hvm2; rw [hvm1] at this; exact this
      have hms2 : p2.msgs = msgs := by have := congrArg VM.msgs hvm2; rw [hvm1] at this; exact this
      have hln2 : p2.line = line := by have := congrArg VM.line hvm2; rw [hvm1] at this; exact this
      have hpw2 : w < p2.pt.length := by
        have := congrArg (fun m : VM => m.thr.length) hvm2
        simp only [PM.vm, VM.reads, VM.setThr, List.length_map, List.length_set] at this
        omega
      have wf2 := reads_wf wf1 (by omega) (by simpa [PM.vm] using hpw1) (n : Int) (⟨kd, l, v, w', od⟩ : OpV)
      rw [← hvm2] at wf2
      have hr2 := PM.rdM (M := N) (G := p2.G mp) ok2 (by rw [e1, e2, hpg2, hp1]; exact hpg.mono hMN) (fun q h => h)
      have hf1 := hr2.f1
      have hwd := hr2.word (n := n) (by show n < p2.msgs.length; rw [hms2]; exact hn3)
      have hml2 : p2.vm.msgs = msgs := hms2
      rw [hml2] at hf1 hwd
      have e3 : p1.vm.line = line := hline1
      have e4 : p1.vm.msgs = msgs := hmsgs1
      have hdoes : VM.does (PM.vm ⟨pg, pc, mv, lv, tv, prog, msgs, line, all, pA ++ (t, ov) :: pC⟩) w ⟨kd, l, v, w', od⟩ (ca, cw) = if cw then p2.vm.writes w ca (if kd = 2 then IntKind.i64.wrap (msgs[n]!.word + v) else w') ⟨kd, l, v, w', od⟩ true else p2.vm := by
        simp only [VM.does, h5, h1, if_false]
        rw [← hvm1]
        simp only [e3, e4, Int.toNat_natCast, hn2, ← hvm2]
      rw [hdoes]
      repeat' first
          | refine EV.seq ?_
          | refine EV.skip ?_
          | refine EV.block ?_
          | refine EV.inBlock ?_
          | (refine EV.reg ?_; (conv => (arg 2; whnf)); simp only [push_cast, Int.cast_ofNat_Int, reduceIte, Nat.reduceEqDiff, reduceCtorEq, Nat.reduceAdd, Nat.reduceSub, Nat.reduceMul, Int.reduceToNat, Nat.reduceLeDiff, hb1])
          | (refine EV.any _ (List.Sublist.refl _) ?_; (conv => (arg 2; whnf)); simp only [push_cast, Int.cast_ofNat_Int, reduceIte, Nat.reduceEqDiff, reduceCtorEq, Nat.reduceAdd, Nat.reduceSub, Nat.reduceMul, Int.reduceToNat, Nat.reduceLeDiff, hb1])
          | assumption
          | (refine condW.merge ?_ (fun hc K' hK => ?_) ?_; rotate_left)
          | (refine condQ.mk ?_ (fun hc => ?_) ?_; rotate_left; (try simp only [decide_eq_true_eq, decide_eq_false_iff_not, Bool.not_eq_true', Bool.not_eq_false', Bool.and_eq_true, Bool.or_eq_true, Bool.and_eq_false_iff, Bool.or_eq_false_iff] at hc))
          | (with_reducible rfl)
          | ((refine EV.cond rfl (fun h => ?_) (fun h => ?_) <;> try simp only [reduceCtorEq, reduceIte, if_true, if_false, Bool.not_eq_true', Bool.not_eq_false', decide_eq_true_eq, decide_eq_false_iff_not, Bool.and_eq_true, Bool.or_eq_true, Bool.and_eq_false_iff, Bool.or_eq_false_iff] at h) <;> try (exfalso; first | exact h True.intro | (exact h; done) | omega))
          | (refine EV.exit rfl ?_)
          | (with_reducible intro b; try simp only [push_cast, Int.cast_ofNat_Int, reduceIte, Nat.reduceEqDiff, reduceCtorEq, Nat.reduceAdd, Nat.reduceSub, Nat.reduceMul, Int.reduceToNat, Nat.reduceLeDiff, hb1])
          | with_reducible intro b
          | (refine And.intro (by omega) ?_)
          | (refine Exists.intro _ (And.intro (rd_M (by assumption)) ?_); try simp only [push_cast, Int.cast_ofNat_Int, reduceIte, Nat.reduceEqDiff, reduceCtorEq, Nat.reduceAdd, Nat.reduceSub, Nat.reduceMul, Int.reduceToNat, Nat.reduceLeDiff, hb1])
          | (refine Exists.intro _ (Exists.intro _ (Exists.intro _ (And.intro (rd_M (by assumption)) ?_))); try simp only [push_cast, Int.cast_ofNat_Int, reduceIte, Nat.reduceEqDiff, reduceCtorEq, Nat.reduceAdd, Nat.reduceSub, Nat.reduceMul, Int.reduceToNat, Nat.reduceLeDiff, hb1])
          | (refine Exists.intro _ (And.intro (by assumption) ?_); try simp only [push_cast, Int.cast_ofNat_Int, reduceIte, Nat.reduceEqDiff, reduceCtorEq, Nat.reduceAdd, Nat.reduceSub, Nat.reduceMul, Int.reduceToNat, Nat.reduceLeDiff, hb1])
          | (refine Exists.intro _ (Exists.intro _ (Exists.intro _ (And.intro (by assumption) ?_))); try simp only [push_cast, Int.cast_ofNat_Int, reduceIte, Nat.reduceEqDiff, reduceCtorEq, Nat.reduceAdd, Nat.reduceSub, Nat.reduceMul, Int.reduceToNat, Nat.reduceLeDiff, hb1])
          | (refine xr rfl (by simp only [List.length_cons, List.length_nil]; omega) ?_; try simp only [push_cast, Int.cast_ofNat_Int, reduceIte, Nat.reduceEqDiff, reduceCtorEq, Nat.reduceAdd, Nat.reduceSub, Nat.reduceMul, Int.reduceToNat, Nat.reduceLeDiff, hb1])
          | (refine xi rfl (by simp only [List.length_cons, List.length_nil]; omega) ?_; try simp only [push_cast, Int.cast_ofNat_Int, reduceIte, Nat.reduceEqDiff, reduceCtorEq, Nat.reduceAdd, Nat.reduceSub, Nat.reduceMul, Int.reduceToNat, Nat.reduceLeDiff, hb1])
          | (refine xs rfl (by simp only [List.length_cons, List.length_nil]; omega) ?_; try simp only [push_cast, Int.cast_ofNat_Int, reduceIte, Nat.reduceEqDiff, reduceCtorEq, Nat.reduceAdd, Nat.reduceSub, Nat.reduceMul, Int.reduceToNat, Nat.reduceLeDiff, hb1])
          | (refine xw ?_; simp only [push_cast, Int.cast_ofNat_Int, reduceIte, Nat.reduceEqDiff, reduceCtorEq, Nat.reduceAdd, Nat.reduceSub, Nat.reduceMul, Int.reduceToNat, Nat.reduceLeDiff, hb1])
          | (refine And.intro (PHeap.le_refl _) (And.intro (fun p hp => hp) ?_))
          | (refine And.intro (PHeap.le_refl _) (And.intro (fun p hp => List.mem_cons_of_mem _ hp) ?_))
          | (refine And.intro (PHeap.le_refl _) (And.intro (fun p hp => List.mem_cons_of_mem _ (List.mem_cons_of_mem _ hp)) ?_))
          | (refine And.intro (PHeap.le_refl _) (And.intro (mem_of_sub ?_) ?_); focus ((repeat' first | exact List.Sublist.refl _ | exact List.nil_sublist _ | exact List.sublist_append_left _ _ | refine List.Sublist.cons_cons _ ?_ | refine List.Sublist.append_left ?_ _ | refine List.sublist_append_of_sublist_right ?_ | refine List.Sublist.cons _ ?_); done); try simp only [push_cast, Int.cast_ofNat_Int, reduceIte, Nat.reduceEqDiff, reduceCtorEq, Nat.reduceAdd, Nat.reduceSub, Nat.reduceMul, Int.reduceToNat, Nat.reduceLeDiff, hb1])
          | (exfalso; simp at hc; done)
          | (exfalso; omega)
          | exact false
          | fail "stuck"
      · rename_i hk2
        refine Con.callB (Mr := N) (view_writes_c p2 ok2 wf2 (by omega) hpw2 ca (IntKind.i64.wrap (msgs[n]!.word + v)) ⟨kd, l, v, w', od⟩ ⟨o1, o2, o3, o4, o5⟩ (by rw [hln2]; simpa using ha) true) (PHeap.le_add _ _) (hperm p2) ?_
        rintro v1 M1 G1 ⟨p3, rfl, ok3, hvm3, f1, f2⟩
        simp only [push_cast, Int.cast_ofNat_Int, reduceIte, Nat.reduceEqDiff, reduceCtorEq, Nat.reduceAdd, Nat.reduceSub, Nat.reduceMul, Int.reduceToNat, Nat.reduceLeDiff]
        refine EV.done R_view_Machine_does_ok ?_
        simp only [push_cast, Int.cast_ofNat_Int, reduceIte, Nat.reduceEqDiff, reduceCtorEq, Nat.reduceAdd, Nat.reduceSub, Nat.reduceMul, Int.reduceToNat, Nat.reduceLeDiff, R_view_Machine_does]
        refine ⟨p3, rfl, ok3, ?_, by rw [f1, e1, hp1], by rw [f2, e2, hp1]⟩
        rw [hvm3, h, hk2]
        rfl
      · rename_i hk2
        refine EV.done R_view_Machine_does_ok ?_
        simp only [push_cast, Int.cast_ofNat_Int, reduceIte, Nat.reduceEqDiff, reduceCtorEq, Nat.reduceAdd, Nat.reduceSub, Nat.reduceMul, Int.reduceToNat, Nat.reduceLeDiff, R_view_Machine_does]
        refine ⟨p2, rfl, ok2, ?_, by rw [e1, hp1], by rw [e2, hp1]⟩
        rw [h]
        rfl
      · rename_i hk2
        refine Con.callB (Mr := N) (view_writes_c p2 ok2 wf2 (by omega) hpw2 ca w' ⟨kd, l, v, w', od⟩ ⟨o1, o2, o3, o4, o5⟩ (by rw [hln2]; simpa using ha) true) (PHeap.le_add _ _) (hperm p2) ?_
        rintro v1 M1 G1 ⟨p3, rfl, ok3, hvm3, f1, f2⟩
        simp only [push_cast, Int.cast_ofNat_Int, reduceIte, Nat.reduceEqDiff, reduceCtorEq, Nat.reduceAdd, Nat.reduceSub, Nat.reduceMul, Int.reduceToNat, Nat.reduceLeDiff]
        refine EV.done R_view_Machine_does_ok ?_
        simp only [push_cast, Int.cast_ofNat_Int, reduceIte, Nat.reduceEqDiff, reduceCtorEq, Nat.reduceAdd, Nat.reduceSub, Nat.reduceMul, Int.reduceToNat, Nat.reduceLeDiff, R_view_Machine_does]
        refine ⟨p3, rfl, ok3, ?_, by rw [f1, e1, hp1], by rw [f2, e2, hp1]⟩
        rw [hvm3, h, if_neg hk2]
        rfl
      · rename_i hk2
        refine EV.done R_view_Machine_does_ok ?_
        simp only [push_cast, Int.cast_ofNat_Int, reduceIte, Nat.reduceEqDiff, reduceCtorEq, Nat.reduceAdd, Nat.reduceSub, Nat.reduceMul, Int.reduceToNat, Nat.reduceLeDiff, R_view_Machine_does]
        refine ⟨p2, rfl, ok2, ?_, by rw [e1, hp1], by rw [e2, hp1]⟩
        rw [h]
        rfl

end
end Go.EV

namespace Go.EV
open Go.Proofs
section
variable {M : PHeap} {mp : Nat} {B : Nat}

def Stepped (mp : Nat) (p : PM) (r : VM × Int) (v : Value) (_ : PHeap) (G' : Own) : Prop :=
  v = vi r.2 ∧ ∃ p' : PM, G' = p'.G mp ∧ p'.Ok ∧ p'.vm = r.1 ∧ p'.pg = p.pg ∧ p'.pc = p.pc

theorem view_Step_nil_q (who number : Int) : ConQ Try.prog 11 #[.pointer none, vi who, vi number] M (vi 1) := by
  refine Con.enter R_view_Machine_Step_ok (args := [.pointer none, vi who, vi number]) (by simp [R_view_Machine_Step]) fun w0 => ?_
  simp only [R_view_Machine_Step, argE]
  repeat' first
      | refine EV.seq ?_
      | refine EV.skip ?_
      | refine EV.block ?_
      | refine EV.inBlock ?_
      | (refine EV.reg ?_; (conv => (arg 2; whnf)); simp only [push_cast, Int.cast_ofNat_Int, reduceIte, Nat.reduceEqDiff, reduceCtorEq, Nat.reduceAdd, Nat.reduceSub, Nat.reduceMul, Int.reduceToNat, Nat.reduceLeDiff])
      | (refine EV.any _ (List.Sublist.refl _) ?_; (conv => (arg 2; whnf)); simp only [push_cast, Int.cast_ofNat_Int, reduceIte, Nat.reduceEqDiff, reduceCtorEq, Nat.reduceAdd, Nat.reduceSub, Nat.reduceMul, Int.reduceToNat, Nat.reduceLeDiff])
      | (refine ConQ.call (view_turn_nil_q _) ?_; try simp only [push_cast, Int.cast_ofNat_Int, reduceIte, Nat.reduceEqDiff, reduceCtorEq, Nat.reduceAdd, Nat.reduceSub, Nat.reduceMul, Int.reduceToNat, Nat.reduceLeDiff])
      | (refine Exists.intro _ (And.intro (view_turn_nil_q _) ?_); try simp only [push_cast, Int.cast_ofNat_Int, reduceIte, Nat.reduceEqDiff, reduceCtorEq, Nat.reduceAdd, Nat.reduceSub, Nat.reduceMul, Int.reduceToNat, Nat.reduceLeDiff])
      | assumption
      | (refine condW.merge ?_ (fun hc K' hK => ?_) ?_; rotate_left)
      | (refine condQ.mk ?_ (fun hc => ?_) ?_; rotate_left; (try simp only [decide_eq_true_eq, decide_eq_false_iff_not, Bool.not_eq_true', Bool.not_eq_false', Bool.and_eq_true, Bool.or_eq_true, Bool.and_eq_false_iff, Bool.or_eq_false_iff] at hc))
      | (with_reducible rfl)
      | ((refine EV.cond rfl (fun h => ?_) (fun h => ?_) <;> try simp only [reduceCtorEq, reduceIte, if_true, if_false, Bool.not_eq_true', Bool.not_eq_false', decide_eq_true_eq, decide_eq_false_iff_not, Bool.and_eq_true, Bool.or_eq_true, Bool.and_eq_false_iff, Bool.or_eq_false_iff] at h) <;> try (exfalso; first | exact h True.intro | (exact h; done) | omega))
      | (refine EV.exit rfl ?_)
      | (refine EV.ret R_view_Machine_Step_ok ?_; simp only [push_cast, Int.cast_ofNat_Int, reduceIte, Nat.reduceEqDiff, reduceCtorEq, Nat.reduceAdd, Nat.reduceSub, Nat.reduceMul, Int.reduceToNat, Nat.reduceLeDiff, R_view_Machine_Step])
      | (with_reducible intro b; try simp only [push_cast, Int.cast_ofNat_Int, reduceIte, Nat.reduceEqDiff, reduceCtorEq, Nat.reduceAdd, Nat.reduceSub, Nat.reduceMul, Int.reduceToNat, Nat.reduceLeDiff])
      | with_reducible intro b
      | (refine And.intro (by omega) ?_)
      | (refine Exists.intro _ (And.intro (rd_M (by assumption)) ?_); try simp only [push_cast, Int.cast_ofNat_Int, reduceIte, Nat.reduceEqDiff, reduceCtorEq, Nat.reduceAdd, Nat.reduceSub, Nat.reduceMul, Int.reduceToNat, Nat.reduceLeDiff])
      | (refine Exists.intro _ (Exists.intro _ (Exists.intro _ (And.intro (rd_M (by assumption)) ?_))); try simp only [push_cast, Int.cast_ofNat_Int, reduceIte, Nat.reduceEqDiff, reduceCtorEq, Nat.reduceAdd, Nat.reduceSub, Nat.reduceMul, Int.reduceToNat, Nat.reduceLeDiff])
      | (refine Exists.intro _ (And.intro (by assumption) ?_); try simp only [push_cast, Int.cast_ofNat_Int, reduceIte, Nat.reduceEqDiff, reduceCtorEq, Nat.reduceAdd, Nat.reduceSub, Nat.reduceMul, Int.reduceToNat, Nat.reduceLeDiff])
      | (refine Exists.intro _ (Exists.intro _ (Exists.intro _ (And.intro (by assumption) ?_))); try simp only [push_cast, Int.cast_ofNat_Int, reduceIte, Nat.reduceEqDiff, reduceCtorEq, Nat.reduceAdd, Nat.reduceSub, Nat.reduceMul, Int.reduceToNat, Nat.reduceLeDiff])
      | (refine xr rfl (by simp only [List.length_cons, List.length_nil]; omega) ?_; try simp only [push_cast, Int.cast_ofNat_Int, reduceIte, Nat.reduceEqDiff, reduceCtorEq, Nat.reduceAdd, Nat.reduceSub, Nat.reduceMul, Int.reduceToNat, Nat.reduceLeDiff])
      | (refine xi rfl (by simp only [List.length_cons, List.length_nil]; omega) ?_; try simp only [push_cast, Int.cast_ofNat_Int, reduceIte, Nat.reduceEqDiff, reduceCtorEq, Nat.reduceAdd, Nat.reduceSub, Nat.reduceMul, Int.reduceToNat, Nat.reduceLeDiff])
      | (refine xs rfl (by simp only [List.length_cons, List.length_nil]; omega) ?_; try simp only [push_cast, Int.cast_ofNat_Int, reduceIte, Nat.reduceEqDiff, reduceCtorEq, Nat.reduceAdd, Nat.reduceSub, Nat.reduceMul, Int.reduceToNat, Nat.reduceLeDiff])
      | (refine xw ?_; simp only [push_cast, Int.cast_ofNat_Int, reduceIte, Nat.reduceEqDiff, reduceCtorEq, Nat.reduceAdd, Nat.reduceSub, Nat.reduceMul, Int.reduceToNat, Nat.reduceLeDiff])
      | (refine And.intro (PHeap.le_refl _) (And.intro (fun p hp => hp) ?_))
      | (refine And.intro (PHeap.le_refl _) (And.intro (fun p hp => List.mem_cons_of_mem _ hp) ?_))
      | (refine And.intro (PHeap.le_refl _) (And.intro (fun p hp => List.mem_cons_of_mem _ (List.mem_cons_of_mem _ hp)) ?_))
      | (refine And.intro (PHeap.le_refl _) (And.intro (mem_of_sub ?_) ?_); focus ((repeat' first | exact List.Sublist.refl _ | exact List.nil_sublist _ | exact List.sublist_append_left _ _ | refine List.Sublist.cons_cons _ ?_ | refine List.Sublist.append_left ?_ _ | refine List.sublist_append_of_sublist_right ?_ | refine List.Sublist.cons _ ?_); done); try simp only [push_cast, Int.cast_ofNat_Int, reduceIte, Nat.reduceEqDiff, reduceCtorEq, Nat.reduceAdd, Nat.reduceSub, Nat.reduceMul, Int.reduceToNat, Nat.reduceLeDiff])
      | (exfalso; simp at hc; done)
      | (exfalso; omega)
      | exact false
      | fail "stuck"

theorem osg_at {α : Type} [Inhabited α] {G : Own} {sz : Nat} {enc : α → List Value} (henc : ∀ x, (enc x).length = sz) {T : TypeId} {ob oc : Nat} {os : List Value} {xs : List α} (hok : osok sz (some (ob, oc, os)) xs.length (xs.flatMap enc))
    (hG : ∀ q ∈ osg T (some (ob, oc, os)) (xs.flatMap enc), q ∈ G) {i : Nat} (hi : i < xs.length) : rd (M.add G) ob (i * sz) sz (enc xs[i]!) := by
  have hl := flatMap_length henc xs
  have h0 := rd_mem0 (M := M) (G := G) (T := T) (b := ob) (xs := xs.flatMap enc) (sp := os) (hG _ (by simp [osg])) hl
  have hi2 : (i + 1) * sz ≤ xs.length * sz := Nat.mul_le_mul_right _ hi
  rw [Nat.succ_mul] at hi2
  rw [getB hi]
  exact h0.part0 (i * sz) sz hi2 (flatMap_part henc hi)

set_option maxRecDepth 8000 in
set_option maxHeartbeats 8000000 in
theorem view_Step_c (p : PM) (ok : p.Ok) (hpg : SlSl M 5 encOp (.slice p.pg p.prog.length p.pc) p.prog) (wf : p.vm.Wf B) (hB2 : B + 2 < 1000000) (who number : Int) :
    Con Try.prog 11 #[pv mp 0, vi who, vi number] M (p.G mp) (Stepped mp p (p.vm.step who number)) := by
  refine Con.enter R_view_Machine_Step_ok (args := [pv mp 0, vi who, vi number]) (by simp [R_view_Machine_Step]) fun w0 => ?_
  simp only [R_view_Machine_Step, argE]
  repeat' first
      | refine EV.seq ?_
      | refine EV.skip ?_
      | refine EV.block ?_
      | refine EV.inBlock ?_
      | (refine EV.reg ?_; (conv => (arg 2; whnf)); simp only [push_cast, Int.cast_ofNat_Int, reduceIte, Nat.reduceEqDiff, reduceCtorEq, Nat.reduceAdd, Nat.reduceSub, Nat.reduceMul, Int.reduceToNat, Nat.reduceLeDiff])
      | (refine EV.any _ (List.Sublist.refl _) ?_; (conv => (arg 2; whnf)); simp only [push_cast, Int.cast_ofNat_Int, reduceIte, Nat.reduceEqDiff, reduceCtorEq, Nat.reduceAdd, Nat.reduceSub, Nat.reduceMul, Int.reduceToNat, Nat.reduceLeDiff])
      | (refine ConQ.call (view_turn_q (PM.rdM ok hpg (fun q hq => by simp [hq])) wf _) ?_; try simp only [push_cast, Int.cast_ofNat_Int, reduceIte, Nat.reduceEqDiff, reduceCtorEq, Nat.reduceAdd, Nat.reduceSub, Nat.reduceMul, Int.reduceToNat, Nat.reduceLeDiff])
      | (refine Exists.intro _ (And.intro (view_turn_q (PM.rdM ok hpg (fun q hq => by simp [hq])) wf _) ?_); try simp only [push_cast, Int.cast_ofNat_Int, reduceIte, Nat.reduceEqDiff, reduceCtorEq, Nat.reduceAdd, Nat.reduceSub, Nat.reduceMul, Int.reduceToNat, Nat.reduceLeDiff])
      | assumption
      | (refine condW.merge ?_ (fun hc K' hK => ?_) ?_; rotate_left)
      | (refine condQ.mk ?_ (fun hc => ?_) ?_; rotate_left; (try simp only [decide_eq_true_eq, decide_eq_false_iff_not, Bool.not_eq_true', Bool.not_eq_false', Bool.and_eq_true, Bool.or_eq_true, Bool.and_eq_false_iff, Bool.or_eq_false_iff] at hc))
      | (with_reducible rfl)
      | ((refine EV.cond rfl (fun h => ?_) (fun h => ?_) <;> try simp only [reduceCtorEq, reduceIte, if_true, if_false, Bool.not_eq_true', Bool.not_eq_false', decide_eq_true_eq, decide_eq_false_iff_not, Bool.and_eq_true, Bool.or_eq_true, Bool.and_eq_false_iff, Bool.or_eq_false_iff] at h) <;> try (exfalso; first | exact h True.intro | (exact h; done) | omega))
      | (refine EV.exit rfl ?_)
      | (with_reducible intro b; try simp only [push_cast, Int.cast_ofNat_Int, reduceIte, Nat.reduceEqDiff, reduceCtorEq, Nat.reduceAdd, Nat.reduceSub, Nat.reduceMul, Int.reduceToNat, Nat.reduceLeDiff])
      | with_reducible intro b
      | (refine And.intro (by omega) ?_)
      | (refine Exists.intro _ (And.intro (rd_M (by assumption)) ?_); try simp only [push_cast, Int.cast_ofNat_Int, reduceIte, Nat.reduceEqDiff, reduceCtorEq, Nat.reduceAdd, Nat.reduceSub, Nat.reduceMul, Int.reduceToNat, Nat.reduceLeDiff])
      | (refine Exists.intro _ (Exists.intro _ (Exists.intro _ (And.intro (rd_M (by assumption)) ?_))); try simp only [push_cast, Int.cast_ofNat_Int, reduceIte, Nat.reduceEqDiff, reduceCtorEq, Nat.reduceAdd, Nat.reduceSub, Nat.reduceMul, Int.reduceToNat, Nat.reduceLeDiff])
      | (refine Exists.intro _ (And.intro (by assumption) ?_); try simp only [push_cast, Int.cast_ofNat_Int, reduceIte, Nat.reduceEqDiff, reduceCtorEq, Nat.reduceAdd, Nat.reduceSub, Nat.reduceMul, Int.reduceToNat, Nat.reduceLeDiff])
      | (refine Exists.intro _ (Exists.intro _ (Exists.intro _ (And.intro (by assumption) ?_))); try simp only [push_cast, Int.cast_ofNat_Int, reduceIte, Nat.reduceEqDiff, reduceCtorEq, Nat.reduceAdd, Nat.reduceSub, Nat.reduceMul, Int.reduceToNat, Nat.reduceLeDiff])
      | (refine xr rfl (by simp only [List.length_cons, List.length_nil]; omega) ?_; try simp only [push_cast, Int.cast_ofNat_Int, reduceIte, Nat.reduceEqDiff, reduceCtorEq, Nat.reduceAdd, Nat.reduceSub, Nat.reduceMul, Int.reduceToNat, Nat.reduceLeDiff])
      | (refine xi rfl (by simp only [List.length_cons, List.length_nil]; omega) ?_; try simp only [push_cast, Int.cast_ofNat_Int, reduceIte, Nat.reduceEqDiff, reduceCtorEq, Nat.reduceAdd, Nat.reduceSub, Nat.reduceMul, Int.reduceToNat, Nat.reduceLeDiff])
      | (refine xs rfl (by simp only [List.length_cons, List.length_nil]; omega) ?_; try simp only [push_cast, Int.cast_ofNat_Int, reduceIte, Nat.reduceEqDiff, reduceCtorEq, Nat.reduceAdd, Nat.reduceSub, Nat.reduceMul, Int.reduceToNat, Nat.reduceLeDiff])
      | (refine xw ?_; simp only [push_cast, Int.cast_ofNat_Int, reduceIte, Nat.reduceEqDiff, reduceCtorEq, Nat.reduceAdd, Nat.reduceSub, Nat.reduceMul, Int.reduceToNat, Nat.reduceLeDiff])
      | (refine And.intro (PHeap.le_refl _) (And.intro (fun p hp => hp) ?_))
      | (refine And.intro (PHeap.le_refl _) (And.intro (fun p hp => List.mem_cons_of_mem _ hp) ?_))
      | (refine And.intro (PHeap.le_refl _) (And.intro (fun p hp => List.mem_cons_of_mem _ (List.mem_cons_of_mem _ hp)) ?_))
      | (refine And.intro (PHeap.le_refl _) (And.intro (mem_of_sub ?_) ?_); focus ((repeat' first | exact List.Sublist.refl _ | exact List.nil_sublist _ | exact List.sublist_append_left _ _ | refine List.Sublist.cons_cons _ ?_ | refine List.Sublist.append_left ?_ _ | refine List.sublist_append_of_sublist_right ?_ | refine List.Sublist.cons _ ?_); done); try simp only [push_cast, Int.cast_ofNat_Int, reduceIte, Nat.reduceEqDiff, reduceCtorEq, Nat.reduceAdd, Nat.reduceSub, Nat.reduceMul, Int.reduceToNat, Nat.reduceLeDiff])
      | (exfalso; simp at hc; done)
      | (exfalso; omega)
      | exact false
      | fail "stuck"
  · refine EV.to (ρ' := [(6, vi (p.vm.turn who).2)]) (G' := p.G mp) ?_ ?env0 (by (repeat' first | exact List.Sublist.refl _ | exact List.nil_sublist _ | exact List.sublist_append_left _ _ | refine List.Sublist.cons_cons _ ?_ | refine List.Sublist.append_left ?_ _ | refine List.sublist_append_of_sublist_right ?_ | refine List.Sublist.cons _ ?_))
    case env0 =>
      repeat' first
        | (refine List.forall_mem_cons.2 (And.intro ?_ ?_))
        | (intro _ hnil; cases hnil; done)
        | rfl
        | (refine env_w64 rfl (by first | rfl | (push_cast; first | rfl | omega)) (by omega) (by omega); done)
        | (simp (disch := omega) only [get_cons, get_nil, reduceIte, Nat.reduceEqDiff, Option.some.injEq, Value.int.injEq, w64, Int.natCast_add, Int.natCast_one, Int.cast_ofNat_Int, Int.natCast_zero]; done)
    refine EV.ret R_view_Machine_Step_ok ?_
    simp only [push_cast, Int.cast_ofNat_Int, reduceIte, Nat.reduceEqDiff, reduceCtorEq, Nat.reduceAdd, Nat.reduceSub, Nat.reduceMul, Int.reduceToNat, Nat.reduceLeDiff, R_view_Machine_Step]
    have e : p.vm.step who number = (p.vm, (p.vm.turn who).2) := by simp only [VM.step, ne_eq, h, not_false_eq_true, if_true]
    rw [e]
    exact ⟨rfl, p, rfl, ok, rfl, rfl, rfl⟩
  · obtain ⟨w, rfl, hw, hw2, e⟩ := turn_zero h
    have ho := turn_okOp wf hw hw2
    rw [← e] at ho
    have hpw : w < p.pt.length := by simpa [PM.vm] using hw
    refine Con.callB (G1 := []) (view_choices_c (PM.rdM ok hpg (fun q hq => by simp [hq])) wf hw _ ho) (PHeap.le_refl _) (List.Perm.refl _) ?_
    rintro v1 M1 G1 ⟨ov, rfl, hov, rfl⟩
    simp only [push_cast, Int.cast_ofNat_Int, reduceIte, Nat.reduceEqDiff, reduceCtorEq, Nat.reduceAdd, Nat.reduceSub, Nat.reduceMul, Int.reduceToNat, Nat.reduceLeDiff]
    have hst : ¬ (number < 0 ∨ ((p.vm.choices w (p.vm.turn w).1).length : Int) ≤ number) → p.vm.step w number = (p.vm.does w (p.vm.turn w).1 ((p.vm.choices w (p.vm.turn w).1)[number.toNat]!), 0) := fun hn => by
      simp only [VM.step, ne_eq, h, not_true_eq_false, if_false, Int.toNat_natCast, if_neg hn]
    have hst2 : (number < 0 ∨ ((p.vm.choices w (p.vm.turn w).1).length : Int) ≤ number) → p.vm.step w number = (p.vm, 3) := fun hn => by
      simp only [VM.step, ne_eq, h, not_true_eq_false, if_false, Int.toNat_natCast, if_pos hn]
    by_cases hn : number < 0 ∨ ((p.vm.choices w (p.vm.turn w).1).length : Int) ≤ number
    · rw [hst2 hn]
      repeat' first
          | refine EV.seq ?_
          | refine EV.skip ?_
          | refine EV.block ?_
          | refine EV.inBlock ?_
          | (refine EV.reg ?_; (conv => (arg 2; whnf)); simp only [push_cast, Int.cast_ofNat_Int, reduceIte, Nat.reduceEqDiff, reduceCtorEq, Nat.reduceAdd, Nat.reduceSub, Nat.reduceMul, Int.reduceToNat, Nat.reduceLeDiff])
          | assumption
          | (refine condW.merge ?_ (fun hc K' hK => ?_) ?_; rotate_left)
          | (refine condQ.mk ?_ (fun hc => ?_) ?_; rotate_left; (try simp only [decide_eq_true_eq, decide_eq_false_iff_not, Bool.not_eq_true', Bool.not_eq_false', Bool.and_eq_true, Bool.or_eq_true, Bool.and_eq_false_iff, Bool.or_eq_false_iff] at hc))
          | (with_reducible rfl)
          | ((refine EV.cond rfl (fun h => ?_) (fun h => ?_) <;> try simp only [reduceCtorEq, reduceIte, if_true, if_false, Bool.not_eq_true', Bool.not_eq_false', decide_eq_true_eq, decide_eq_false_iff_not, Bool.and_eq_true, Bool.or_eq_true, Bool.and_eq_false_iff, Bool.or_eq_false_iff] at h) <;> try (exfalso; first | exact h True.intro | (exact h; done) | omega))
          | (refine EV.exit rfl ?_)
          | (with_reducible intro b; try simp only [push_cast, Int.cast_ofNat_Int, reduceIte, Nat.reduceEqDiff, reduceCtorEq, Nat.reduceAdd, Nat.reduceSub, Nat.reduceMul, Int.reduceToNat, Nat.reduceLeDiff])
          | with_reducible intro b
          | (refine And.intro (by omega) ?_)
          | (refine Exists.intro _ (And.intro (rd_M (by assumption)) ?_); try simp only [push_cast, Int.cast_ofNat_Int, reduceIte, Nat.reduceEqDiff, reduceCtorEq, Nat.reduceAdd, Nat.reduceSub, Nat.reduceMul, Int.reduceToNat, Nat.reduceLeDiff])
          | (refine Exists.intro _ (Exists.intro _ (Exists.intro _ (And.intro (rd_M (by assumption)) ?_))); try simp only [push_cast, Int.cast_ofNat_Int, reduceIte, Nat.reduceEqDiff, reduceCtorEq, Nat.reduceAdd, Nat.reduceSub, Nat.reduceMul, Int.reduceToNat, Nat.reduceLeDiff])
          | (refine Exists.intro _ (And.intro (by assumption) ?_); try simp only [push_cast, Int.cast_ofNat_Int, reduceIte, Nat.reduceEqDiff, reduceCtorEq, Nat.reduceAdd, Nat.reduceSub, Nat.reduceMul, Int.reduceToNat, Nat.reduceLeDiff])
          | (refine Exists.intro _ (Exists.intro _ (Exists.intro _ (And.intro (by assumption) ?_))); try simp only [push_cast, Int.cast_ofNat_Int, reduceIte, Nat.reduceEqDiff, reduceCtorEq, Nat.reduceAdd, Nat.reduceSub, Nat.reduceMul, Int.reduceToNat, Nat.reduceLeDiff])
          | (refine xr rfl (by simp only [List.length_cons, List.length_nil]; omega) ?_; try simp only [push_cast, Int.cast_ofNat_Int, reduceIte, Nat.reduceEqDiff, reduceCtorEq, Nat.reduceAdd, Nat.reduceSub, Nat.reduceMul, Int.reduceToNat, Nat.reduceLeDiff])
          | (refine xi rfl (by simp only [List.length_cons, List.length_nil]; omega) ?_; try simp only [push_cast, Int.cast_ofNat_Int, reduceIte, Nat.reduceEqDiff, reduceCtorEq, Nat.reduceAdd, Nat.reduceSub, Nat.reduceMul, Int.reduceToNat, Nat.reduceLeDiff])
          | (refine xs rfl (by simp only [List.length_cons, List.length_nil]; omega) ?_; try simp only [push_cast, Int.cast_ofNat_Int, reduceIte, Nat.reduceEqDiff, reduceCtorEq, Nat.reduceAdd, Nat.reduceSub, Nat.reduceMul, Int.reduceToNat, Nat.reduceLeDiff])
          | (refine xw ?_; simp only [push_cast, Int.cast_ofNat_Int, reduceIte, Nat.reduceEqDiff, reduceCtorEq, Nat.reduceAdd, Nat.reduceSub, Nat.reduceMul, Int.reduceToNat, Nat.reduceLeDiff])
          | (refine And.intro (PHeap.le_refl _) (And.intro (fun p hp => hp) ?_))
          | (refine And.intro (PHeap.le_refl _) (And.intro (fun p hp => List.mem_cons_of_mem _ hp) ?_))
          | (refine And.intro (PHeap.le_refl _) (And.intro (fun p hp => List.mem_cons_of_mem _ (List.mem_cons_of_mem _ hp)) ?_))
          | (refine And.intro (PHeap.le_refl _) (And.intro (mem_of_sub ?_) ?_); focus ((repeat' first | exact List.Sublist.refl _ | exact List.nil_sublist _ | exact List.sublist_append_left _ _ | refine List.Sublist.cons_cons _ ?_ | refine List.Sublist.append_left ?_ _ | refine List.sublist_append_of_sublist_right ?_ | refine List.Sublist.cons _ ?_); done); try simp only [push_cast, Int.cast_ofNat_Int, reduceIte, Nat.reduceEqDiff, reduceCtorEq, Nat.reduceAdd, Nat.reduceSub, Nat.reduceMul, Int.reduceToNat, Nat.reduceLeDiff])
          | (exfalso; simp at hc; done)
          | (exfalso; omega)
          | exact false
          | fail "stuck"
      refine EV.to (ρ' := [(6, vi 3)]) (G' := p.G mp) ?_ ?env1 (List.Sublist.cons _ (List.sublist_append_left _ _))
      case env1 =>
        repeat' first
          | (refine List.forall_mem_cons.2 (And.intro ?_ ?_))
          | (intro _ hnil; cases hnil; done)
          | rfl
          | (refine env_w64 rfl (by first | rfl | (push_cast; first | rfl | omega)) (by omega) (by omega); done)
          | (simp (disch := omega) only [get_cons, get_nil, reduceIte, Nat.reduceEqDiff, Option.some.injEq, Value.int.injEq, w64, Int.natCast_add, Int.natCast_one, Int.cast_ofNat_Int, Int.natCast_zero]; done)
      refine EV.ret R_view_Machine_Step_ok ?_
      simp only [push_cast, Int.cast_ofNat_Int, reduceIte, Nat.reduceEqDiff, reduceCtorEq, Nat.reduceAdd, Nat.reduceSub, Nat.reduceMul, Int.reduceToNat, Nat.reduceLeDiff, R_view_Machine_Step]
      exact ⟨rfl, p, rfl, ok, rfl, rfl, rfl⟩
    · rw [hst hn]
      have hlt : number.toNat < (p.vm.choices w (p.vm.turn w).1).length := by omega
      obtain ⟨⟨ob, oc, os⟩, rfl⟩ : ∃ x, ov = some x := by
        cases ov with
        | none => exfalso; have := hov.1; omega
        | some x => exact ⟨x, rfl⟩
      have hrd := osg_at (M := M) (G := (b, Cl 55 (encOp (p.vm.turn w).1)) :: (p.G mp ++ osg 76 (some (ob, oc, os)) ((p.vm.choices w (p.vm.turn w).1).flatMap encCh))) (enc := encCh) (fun _ => rfl) hov (fun q hq => List.mem_cons_of_mem _ (List.mem_append_right _ hq)) hlt
      have hck : (p.vm.turn w).1.kind ≠ 5 → ((p.vm.choices w (p.vm.turn w).1)[number.toNat]!).1 < (p.line (p.vm.turn w).1.loc.toNat).length := fun h5 =>
        (choices_mem (m := p.vm) (w := w) (c := (p.vm.choices w (p.vm.turn w).1)[number.toNat]!) h5 (by rw [getB hlt]; exact List.getElem_mem _)).2
      repeat' first
          | refine EV.seq ?_
          | refine EV.skip ?_
          | refine EV.block ?_
          | refine EV.inBlock ?_
          | (refine EV.reg ?_; (conv => (arg 2; whnf)); simp only [push_cast, Int.cast_ofNat_Int, reduceIte, Nat.reduceEqDiff, reduceCtorEq, Nat.reduceAdd, Nat.reduceSub, Nat.reduceMul, Int.reduceToNat, Nat.reduceLeDiff])
          | (refine EV.any _ (List.Sublist.refl _) ?_; (conv => (arg 2; whnf)); simp only [push_cast, Int.cast_ofNat_Int, reduceIte, Nat.reduceEqDiff, reduceCtorEq, Nat.reduceAdd, Nat.reduceSub, Nat.reduceMul, Int.reduceToNat, Nat.reduceLeDiff])
          | assumption
          | (refine condW.merge ?_ (fun hc K' hK => ?_) ?_; rotate_left)
          | (refine condQ.mk ?_ (fun hc => ?_) ?_; rotate_left; (try simp only [decide_eq_true_eq, decide_eq_false_iff_not, Bool.not_eq_true', Bool.not_eq_false', Bool.and_eq_true, Bool.or_eq_true, Bool.and_eq_false_iff, Bool.or_eq_false_iff] at hc))
          | (with_reducible rfl)
          | ((refine EV.cond rfl (fun h => ?_) (fun h => ?_) <;> try simp only [reduceCtorEq, reduceIte, if_true, if_false, Bool.not_eq_true', Bool.not_eq_false', decide_eq_true_eq, decide_eq_false_iff_not, Bool.and_eq_true, Bool.or_eq_true, Bool.and_eq_false_iff, Bool.or_eq_false_iff] at h) <;> try (exfalso; first | exact h True.intro | (exact h; done) | omega))
          | (refine EV.exit rfl ?_)
          | (with_reducible intro b; try simp only [push_cast, Int.cast_ofNat_Int, reduceIte, Nat.reduceEqDiff, reduceCtorEq, Nat.reduceAdd, Nat.reduceSub, Nat.reduceMul, Int.reduceToNat, Nat.reduceLeDiff])
          | with_reducible intro b
          | (refine And.intro (by omega) ?_)
          | (refine Exists.intro _ (And.intro (rd_M (by assumption)) ?_); try simp only [push_cast, Int.cast_ofNat_Int, reduceIte, Nat.reduceEqDiff, reduceCtorEq, Nat.reduceAdd, Nat.reduceSub, Nat.reduceMul, Int.reduceToNat, Nat.reduceLeDiff])
          | (refine Exists.intro _ (Exists.intro _ (Exists.intro _ (And.intro (rd_M (by assumption)) ?_))); try simp only [push_cast, Int.cast_ofNat_Int, reduceIte, Nat.reduceEqDiff, reduceCtorEq, Nat.reduceAdd, Nat.reduceSub, Nat.reduceMul, Int.reduceToNat, Nat.reduceLeDiff])
          | (refine Exists.intro _ (And.intro (by assumption) ?_); try simp only [push_cast, Int.cast_ofNat_Int, reduceIte, Nat.reduceEqDiff, reduceCtorEq, Nat.reduceAdd, Nat.reduceSub, Nat.reduceMul, Int.reduceToNat, Nat.reduceLeDiff])
          | (refine Exists.intro _ (Exists.intro _ (Exists.intro _ (And.intro (by assumption) ?_))); try simp only [push_cast, Int.cast_ofNat_Int, reduceIte, Nat.reduceEqDiff, reduceCtorEq, Nat.reduceAdd, Nat.reduceSub, Nat.reduceMul, Int.reduceToNat, Nat.reduceLeDiff])
          | (refine xr rfl (by simp only [List.length_cons, List.length_nil]; omega) ?_; try simp only [push_cast, Int.cast_ofNat_Int, reduceIte, Nat.reduceEqDiff, reduceCtorEq, Nat.reduceAdd, Nat.reduceSub, Nat.reduceMul, Int.reduceToNat, Nat.reduceLeDiff])
          | (refine xi rfl (by simp only [List.length_cons, List.length_nil]; omega) ?_; try simp only [push_cast, Int.cast_ofNat_Int, reduceIte, Nat.reduceEqDiff, reduceCtorEq, Nat.reduceAdd, Nat.reduceSub, Nat.reduceMul, Int.reduceToNat, Nat.reduceLeDiff])
          | (refine xs rfl (by simp only [List.length_cons, List.length_nil]; omega) ?_; try simp only [push_cast, Int.cast_ofNat_Int, reduceIte, Nat.reduceEqDiff, reduceCtorEq, Nat.reduceAdd, Nat.reduceSub, Nat.reduceMul, Int.reduceToNat, Nat.reduceLeDiff])
          | (refine xw ?_; simp only [push_cast, Int.cast_ofNat_Int, reduceIte, Nat.reduceEqDiff, reduceCtorEq, Nat.reduceAdd, Nat.reduceSub, Nat.reduceMul, Int.reduceToNat, Nat.reduceLeDiff])
          | (refine And.intro (PHeap.le_refl _) (And.intro (fun p hp => hp) ?_))
          | (refine And.intro (PHeap.le_refl _) (And.intro (fun p hp => List.mem_cons_of_mem _ hp) ?_))
          | (refine And.intro (PHeap.le_refl _) (And.intro (fun p hp => List.mem_cons_of_mem _ (List.mem_cons_of_mem _ hp)) ?_))
          | (refine And.intro (PHeap.le_refl _) (And.intro (mem_of_sub ?_) ?_); focus ((repeat' first | exact List.Sublist.refl _ | exact List.nil_sublist _ | exact List.sublist_append_left _ _ | refine List.Sublist.cons_cons _ ?_ | refine List.Sublist.append_left ?_ _ | refine List.sublist_append_of_sublist_right ?_ | refine List.Sublist.cons _ ?_); done); try simp only [push_cast, Int.cast_ofNat_Int, reduceIte, Nat.reduceEqDiff, reduceCtorEq, Nat.reduceAdd, Nat.reduceSub, Nat.reduceMul, Int.reduceToNat, Nat.reduceLeDiff])
          | (exfalso; simp at hc; done)
          | (exfalso; omega)
          | exact false
          | fail "stuck"
      refine Con.callB (Mr := M) (view_does_c p ok hpg wf hB2 hpw hw2 _ ho _ hck) (PHeap.le_add _ _) (List.perm_middle (l₁ := p.G mp)).symm ?_
      rintro v1 M1 G1 ⟨p2, rfl, ok2, hvm2, e1, e2⟩
      simp only [push_cast, Int.cast_ofNat_Int, reduceIte, Nat.reduceEqDiff, reduceCtorEq, Nat.reduceAdd, Nat.reduceSub, Nat.reduceMul, Int.reduceToNat, Nat.reduceLeDiff]
      repeat' first
          | refine EV.seq ?_
          | refine EV.skip ?_
          | refine EV.block ?_
          | refine EV.inBlock ?_
          | (refine EV.reg ?_; (conv => (arg 2; whnf)); simp only [push_cast, Int.cast_ofNat_Int, reduceIte, Nat.reduceEqDiff, reduceCtorEq, Nat.reduceAdd, Nat.reduceSub, Nat.reduceMul, Int.reduceToNat, Nat.reduceLeDiff])
          | (refine EV.any _ (List.Sublist.refl _) ?_; (conv => (arg 2; whnf)); simp only [push_cast, Int.cast_ofNat_Int, reduceIte, Nat.reduceEqDiff, reduceCtorEq, Nat.reduceAdd, Nat.reduceSub, Nat.reduceMul, Int.reduceToNat, Nat.reduceLeDiff])
          | assumption
          | (refine condW.merge ?_ (fun hc K' hK => ?_) ?_; rotate_left)
          | (refine condQ.mk ?_ (fun hc => ?_) ?_; rotate_left; (try simp only [decide_eq_true_eq, decide_eq_false_iff_not, Bool.not_eq_true', Bool.not_eq_false', Bool.and_eq_true, Bool.or_eq_true, Bool.and_eq_false_iff, Bool.or_eq_false_iff] at hc))
          | (with_reducible rfl)
          | ((refine EV.cond rfl (fun h => ?_) (fun h => ?_) <;> try simp only [reduceCtorEq, reduceIte, if_true, if_false, Bool.not_eq_true', Bool.not_eq_false', decide_eq_true_eq, decide_eq_false_iff_not, Bool.and_eq_true, Bool.or_eq_true, Bool.and_eq_false_iff, Bool.or_eq_false_iff] at h) <;> try (exfalso; first | exact h True.intro | (exact h; done) | omega))
          | (refine EV.exit rfl ?_)
          | (with_reducible intro b; try simp only [push_cast, Int.cast_ofNat_Int, reduceIte, Nat.reduceEqDiff, reduceCtorEq, Nat.reduceAdd, Nat.reduceSub, Nat.reduceMul, Int.reduceToNat, Nat.reduceLeDiff])
          | with_reducible intro b
          | (refine And.intro (by omega) ?_)
          | (refine Exists.intro _ (And.intro (rd_M (by assumption)) ?_); try simp only [push_cast, Int.cast_ofNat_Int, reduceIte, Nat.reduceEqDiff, reduceCtorEq, Nat.reduceAdd, Nat.reduceSub, Nat.reduceMul, Int.reduceToNat, Nat.reduceLeDiff])
          | (refine Exists.intro _ (Exists.intro _ (Exists.intro _ (And.intro (rd_M (by assumption)) ?_))); try simp only [push_cast, Int.cast_ofNat_Int, reduceIte, Nat.reduceEqDiff, reduceCtorEq, Nat.reduceAdd, Nat.reduceSub, Nat.reduceMul, Int.reduceToNat, Nat.reduceLeDiff])
          | (refine Exists.intro _ (And.intro (by assumption) ?_); try simp only [push_cast, Int.cast_ofNat_Int, reduceIte, Nat.reduceEqDiff, reduceCtorEq, Nat.reduceAdd, Nat.reduceSub, Nat.reduceMul, Int.reduceToNat, Nat.reduceLeDiff])
          | (refine Exists.intro _ (Exists.intro _ (Exists.intro _ (And.intro (by assumption) ?_))); try simp only [push_cast, Int.cast_ofNat_Int, reduceIte, Nat.reduceEqDiff, reduceCtorEq, Nat.reduceAdd, Nat.reduceSub, Nat.reduceMul, Int.reduceToNat, Nat.reduceLeDiff])
          | (refine xr rfl (by simp only [List.length_cons, List.length_nil]; omega) ?_; try simp only [push_cast, Int.cast_ofNat_Int, reduceIte, Nat.reduceEqDiff, reduceCtorEq, Nat.reduceAdd, Nat.reduceSub, Nat.reduceMul, Int.reduceToNat, Nat.reduceLeDiff])
          | (refine xi rfl (by simp only [List.length_cons, List.length_nil]; omega) ?_; try simp only [push_cast, Int.cast_ofNat_Int, reduceIte, Nat.reduceEqDiff, reduceCtorEq, Nat.reduceAdd, Nat.reduceSub, Nat.reduceMul, Int.reduceToNat, Nat.reduceLeDiff])
          | (refine xs rfl (by simp only [List.length_cons, List.length_nil]; omega) ?_; try simp only [push_cast, Int.cast_ofNat_Int, reduceIte, Nat.reduceEqDiff, reduceCtorEq, Nat.reduceAdd, Nat.reduceSub, Nat.reduceMul, Int.reduceToNat, Nat.reduceLeDiff])
          | (refine xw ?_; simp only [push_cast, Int.cast_ofNat_Int, reduceIte, Nat.reduceEqDiff, reduceCtorEq, Nat.reduceAdd, Nat.reduceSub, Nat.reduceMul, Int.reduceToNat, Nat.reduceLeDiff])
          | (refine And.intro (PHeap.le_refl _) (And.intro (fun p hp => hp) ?_))
          | (refine And.intro (PHeap.le_refl _) (And.intro (fun p hp => List.mem_cons_of_mem _ hp) ?_))
          | (refine And.intro (PHeap.le_refl _) (And.intro (fun p hp => List.mem_cons_of_mem _ (List.mem_cons_of_mem _ hp)) ?_))
          | (refine And.intro (PHeap.le_refl _) (And.intro (mem_of_sub ?_) ?_); focus ((repeat' first | exact List.Sublist.refl _ | exact List.nil_sublist _ | exact List.sublist_append_left _ _ | refine List.Sublist.cons_cons _ ?_ | refine List.Sublist.append_left ?_ _ | refine List.sublist_append_of_sublist_right ?_ | refine List.Sublist.cons _ ?_); done); try simp only [push_cast, Int.cast_ofNat_Int, reduceIte, Nat.reduceEqDiff, reduceCtorEq, Nat.reduceAdd, Nat.reduceSub, Nat.reduceMul, Int.reduceToNat, Nat.reduceLeDiff])
          | (exfalso; simp at hc; done)
          | (exfalso; omega)
          | exact false
          | fail "stuck"
      refine EV.to (ρ' := [(6, vi 0)]) (G' := p2.G mp) ?_ ?env2 (List.Sublist.cons _ (List.sublist_append_right _ _))
      case env2 =>
        repeat' first
          | (refine List.forall_mem_cons.2 (And.intro ?_ ?_))
          | (intro _ hnil; cases hnil; done)
          | rfl
          | (refine env_w64 rfl (by first | rfl | (push_cast; first | rfl | omega)) (by omega) (by omega); done)
          | (simp (disch := omega) only [get_cons, get_nil, reduceIte, Nat.reduceEqDiff, Option.some.injEq, Value.int.injEq, w64, Int.natCast_add, Int.natCast_one, Int.cast_ofNat_Int, Int.natCast_zero]; done)
      refine EV.ret R_view_Machine_Step_ok ?_
      simp only [push_cast, Int.cast_ofNat_Int, reduceIte, Nat.reduceEqDiff, reduceCtorEq, Nat.reduceAdd, Nat.reduceSub, Nat.reduceMul, Int.reduceToNat, Nat.reduceLeDiff, R_view_Machine_Step]
      exact ⟨rfl, p2, rfl, ok2, hvm2, e1, e2⟩

end
end Go.EV

namespace Go.EV
open Go.Proofs

theorem EV.loop1 {P : Program} {C : Cx P} {V : List Nat} {k : List RItem} {ρ : Env} {M : PHeap} {G : Own} {c : RCode} (h : EV C V (.code c :: .inLoop c :: k) ρ M G) : EV C V (.code (.loop c) :: k) ρ M G :=
  EV.loop (fun _ : Unit => (ρ, M, G)) (fun _ => True) (fun _ => 0) () trivial (fun _ _ _ => h)

section
variable {M : PHeap} {mp : Nat} {B : Nat}

theorem view_none_q : ConQ Try.prog 28 #[] M (.agg (encV noV).toArray) := by
  refine Con.enter R_view_none_ok (args := []) (by simp [R_view_none]) fun w0 => ?_
  simp only [R_view_none, argE]
  repeat' first
      | refine EV.seq ?_
      | refine EV.skip ?_
      | refine EV.block ?_
      | refine EV.inBlock ?_
      | (refine EV.reg ?_; (conv => (arg 2; whnf)); simp only [push_cast, Int.cast_ofNat_Int, reduceIte, Nat.reduceEqDiff, reduceCtorEq, Nat.reduceAdd, Nat.reduceSub, Nat.reduceMul, Int.reduceToNat, Nat.reduceLeDiff])
      | (refine EV.any _ (List.Sublist.refl _) ?_; (conv => (arg 2; whnf)); simp only [push_cast, Int.cast_ofNat_Int, reduceIte, Nat.reduceEqDiff, reduceCtorEq, Nat.reduceAdd, Nat.reduceSub, Nat.reduceMul, Int.reduceToNat, Nat.reduceLeDiff])
      | assumption
      | (refine condW.merge ?_ (fun hc K' hK => ?_) ?_; rotate_left)
      | (refine condQ.mk ?_ (fun hc => ?_) ?_; rotate_left; (try simp only [decide_eq_true_eq, decide_eq_false_iff_not, Bool.not_eq_true', Bool.not_eq_false', Bool.and_eq_true, Bool.or_eq_true, Bool.and_eq_false_iff, Bool.or_eq_false_iff] at hc))
      | (with_reducible rfl)
      | ((refine EV.cond rfl (fun h => ?_) (fun h => ?_) <;> try simp only [reduceCtorEq, reduceIte, if_true, if_false, Bool.not_eq_true', Bool.not_eq_false', decide_eq_true_eq, decide_eq_false_iff_not, Bool.and_eq_true, Bool.or_eq_true, Bool.and_eq_false_iff, Bool.or_eq_false_iff] at h) <;> try (exfalso; first | exact h True.intro | (exact h; done) | omega))
      | (refine EV.exit rfl ?_)
      | (refine EV.ret R_view_none_ok ?_; simp only [push_cast, Int.cast_ofNat_Int, reduceIte, Nat.reduceEqDiff, reduceCtorEq, Nat.reduceAdd, Nat.reduceSub, Nat.reduceMul, Int.reduceToNat, Nat.reduceLeDiff, R_view_none])
      | (with_reducible intro b; try simp only [push_cast, Int.cast_ofNat_Int, reduceIte, Nat.reduceEqDiff, reduceCtorEq, Nat.reduceAdd, Nat.reduceSub, Nat.reduceMul, Int.reduceToNat, Nat.reduceLeDiff])
      | with_reducible intro b
      | (refine And.intro (by omega) ?_)
      | (refine Exists.intro _ (And.intro (rd_M (by assumption)) ?_); try simp only [push_cast, Int.cast_ofNat_Int, reduceIte, Nat.reduceEqDiff, reduceCtorEq, Nat.reduceAdd, Nat.reduceSub, Nat.reduceMul, Int.reduceToNat, Nat.reduceLeDiff])
      | (refine Exists.intro _ (Exists.intro _ (Exists.intro _ (And.intro (rd_M (by assumption)) ?_))); try simp only [push_cast, Int.cast_ofNat_Int, reduceIte, Nat.reduceEqDiff, reduceCtorEq, Nat.reduceAdd, Nat.reduceSub, Nat.reduceMul, Int.reduceToNat, Nat.reduceLeDiff])
      | (refine Exists.intro _ (And.intro (by assumption) ?_); try simp only [push_cast, Int.cast_ofNat_Int, reduceIte, Nat.reduceEqDiff, reduceCtorEq, Nat.reduceAdd, Nat.reduceSub, Nat.reduceMul, Int.reduceToNat, Nat.reduceLeDiff])
      | (refine Exists.intro _ (Exists.intro _ (Exists.intro _ (And.intro (by assumption) ?_))); try simp only [push_cast, Int.cast_ofNat_Int, reduceIte, Nat.reduceEqDiff, reduceCtorEq, Nat.reduceAdd, Nat.reduceSub, Nat.reduceMul, Int.reduceToNat, Nat.reduceLeDiff])
      | (refine xr rfl (by simp only [List.length_cons, List.length_nil]; omega) ?_; try simp only [push_cast, Int.cast_ofNat_Int, reduceIte, Nat.reduceEqDiff, reduceCtorEq, Nat.reduceAdd, Nat.reduceSub, Nat.reduceMul, Int.reduceToNat, Nat.reduceLeDiff])
      | (refine xi rfl (by simp only [List.length_cons, List.length_nil]; omega) ?_; try simp only [push_cast, Int.cast_ofNat_Int, reduceIte, Nat.reduceEqDiff, reduceCtorEq, Nat.reduceAdd, Nat.reduceSub, Nat.reduceMul, Int.reduceToNat, Nat.reduceLeDiff])
      | (refine xs rfl (by simp only [List.length_cons, List.length_nil]; omega) ?_; try simp only [push_cast, Int.cast_ofNat_Int, reduceIte, Nat.reduceEqDiff, reduceCtorEq, Nat.reduceAdd, Nat.reduceSub, Nat.reduceMul, Int.reduceToNat, Nat.reduceLeDiff])
      | (refine xw ?_; simp only [push_cast, Int.cast_ofNat_Int, reduceIte, Nat.reduceEqDiff, reduceCtorEq, Nat.reduceAdd, Nat.reduceSub, Nat.reduceMul, Int.reduceToNat, Nat.reduceLeDiff])
      | (refine And.intro (PHeap.le_refl _) (And.intro (fun p hp => hp) ?_))
      | (refine And.intro (PHeap.le_refl _) (And.intro (fun p hp => List.mem_cons_of_mem _ hp) ?_))
      | (refine And.intro (PHeap.le_refl _) (And.intro (fun p hp => List.mem_cons_of_mem _ (List.mem_cons_of_mem _ hp)) ?_))
      | (refine And.intro (PHeap.le_refl _) (And.intro (mem_of_sub ?_) ?_); focus ((repeat' first | exact List.Sublist.refl _ | exact List.nil_sublist _ | exact List.sublist_append_left _ _ | refine List.Sublist.cons_cons _ ?_ | refine List.Sublist.append_left ?_ _ | refine List.sublist_append_of_sublist_right ?_ | refine List.Sublist.cons _ ?_); done); try simp only [push_cast, Int.cast_ofNat_Int, reduceIte, Nat.reduceEqDiff, reduceCtorEq, Nat.reduceAdd, Nat.reduceSub, Nat.reduceMul, Int.reduceToNat, Nat.reduceLeDiff])
      | (exfalso; simp at hc; done)
      | (exfalso; omega)
      | exact false
      | fail "stuck"
  rfl

def initM (j : Nat) : Msg := ⟨0, upd noV j j, false⟩
def initT : Thr := ⟨noV, noV, noV, [], 0⟩
def newL (lb : Nat → Nat) (k : Nat) : Nat → Value := fun j => if j < k then rowV (lb j) 1 1 else .slice none 0 0
def newR (lb : Nat → Nat) (k : Nat) : Own := (List.range k).map fun j => (lb j, Cl 3 [vi j])
def newC (k : Nat) : List Value := (List.range k).flatMap fun j => encMsg (initM j)
def newT (k : Nat) : List Value := (List.replicate k (initT, (none : Vec))).flatMap encPT

theorem hd_st_th {pg mh th v : Value} {lh : Nat → Value} {all : Vw} : (hdL pg mh lh th all).take 5 ++ (v :: (hdL pg mh lh th all).drop (5 + 1)) = hdL pg mh lh v all := rfl

theorem newL_upd (lb : Nat → Nat) (k b : Nat) : upd (newL lb k) k (rowV b 1 1) = newL (upd lb k b) (k + 1) := by
  funext j
  simp only [upd, newL]
  by_cases h : j = k
  · subst h; simp
  · have : j < k + 1 ↔ j < k := by omega
    simp [h, this]

theorem newR_upd (lb : Nat → Nat) (k b : Nat) : newR (upd lb k b) (k + 1) = newR lb k ++ [(b, Cl 3 [vi k])] := by
  simp only [newR, List.range_succ, List.map_append, List.map_cons, List.map_nil, upd, if_true]
  congr 1
  apply List.map_congr_left
  intro j hj
  have : j ≠ k := by have := List.mem_range.1 hj; omega
  simp [this]

theorem newC_upd (k : Nat) : newC (k + 1) = newC k ++ encMsg (initM k) := by simp [newC, List.range_succ]
theorem newT_upd (k : Nat) : newT (k + 1) = newT k ++ encPT (initT, none) := by simp [newT, List.replicate_succ']

set_option maxRecDepth 8000 in
set_option maxHeartbeats 8000000 in
theorem view_New_c (ts : List (List OpV)) (s : Value) (hs : SlSl M 5 encOp s ts) (hb : ts.flatten.length < 1000000) (hb' : ts.length < 1000000) :
    Con Try.prog 10 #[.agg #[s]] M [] fun v M' G' => (checkP ts ≠ 0 ∧ v = .tuple #[.pointer none, vi (checkP ts)]) ∨
      (checkP ts = 0 ∧ ∃ mp, ∃ p : PM, v = .tuple #[pv mp 0, vi 0] ∧ G' = p.G mp ∧ p.Ok ∧ p.vm = VM.new (ts.map expT) ∧ SlSl M' 5 encOp (.slice p.pg p.prog.length p.pc) p.prog) := by
  have hs0 := hs
  obtain ⟨a, c, vs, rfl, hl, hrd, hk⟩ := hs
  refine Con.enter R_view_New_ok (args := [.agg #[.slice a ts.length c]]) (by simp [R_view_New]) fun w0 => ?_
  simp only [R_view_New, argE]
  repeat' first
      | refine EV.seq ?_
      | refine EV.skip ?_
      | refine EV.block ?_
      | refine EV.inBlock ?_
      | (refine EV.reg ?_; (conv => (arg 2; whnf)); simp only [push_cast, Int.cast_ofNat_Int, reduceIte, Nat.reduceEqDiff, reduceCtorEq, Nat.reduceAdd, Nat.reduceSub, Nat.reduceMul, Int.reduceToNat, Nat.reduceLeDiff])
      | (refine EV.any _ (List.Sublist.refl _) ?_; (conv => (arg 2; whnf)); simp only [push_cast, Int.cast_ofNat_Int, reduceIte, Nat.reduceEqDiff, reduceCtorEq, Nat.reduceAdd, Nat.reduceSub, Nat.reduceMul, Int.reduceToNat, Nat.reduceLeDiff])
      | assumption
      | (refine condW.merge ?_ (fun hc K' hK => ?_) ?_; rotate_left)
      | (refine condQ.mk ?_ (fun hc => ?_) ?_; rotate_left; (try simp only [decide_eq_true_eq, decide_eq_false_iff_not, Bool.not_eq_true', Bool.not_eq_false', Bool.and_eq_true, Bool.or_eq_true, Bool.and_eq_false_iff, Bool.or_eq_false_iff] at hc))
      | (with_reducible rfl)
      | ((refine EV.cond rfl (fun h => ?_) (fun h => ?_) <;> try simp only [reduceCtorEq, reduceIte, if_true, if_false, Bool.not_eq_true', Bool.not_eq_false', decide_eq_true_eq, decide_eq_false_iff_not, Bool.and_eq_true, Bool.or_eq_true, Bool.and_eq_false_iff, Bool.or_eq_false_iff] at h) <;> try (exfalso; first | exact h True.intro | (exact h; done) | omega))
      | (refine EV.exit rfl ?_)
      | (with_reducible intro b; try simp only [push_cast, Int.cast_ofNat_Int, reduceIte, Nat.reduceEqDiff, reduceCtorEq, Nat.reduceAdd, Nat.reduceSub, Nat.reduceMul, Int.reduceToNat, Nat.reduceLeDiff])
      | with_reducible intro b
      | (refine And.intro (by omega) ?_)
      | (refine Exists.intro _ (And.intro (rd_M (by assumption)) ?_); try simp only [push_cast, Int.cast_ofNat_Int, reduceIte, Nat.reduceEqDiff, reduceCtorEq, Nat.reduceAdd, Nat.reduceSub, Nat.reduceMul, Int.reduceToNat, Nat.reduceLeDiff])
      | (refine Exists.intro _ (Exists.intro _ (Exists.intro _ (And.intro (rd_M (by assumption)) ?_))); try simp only [push_cast, Int.cast_ofNat_Int, reduceIte, Nat.reduceEqDiff, reduceCtorEq, Nat.reduceAdd, Nat.reduceSub, Nat.reduceMul, Int.reduceToNat, Nat.reduceLeDiff])
      | (refine Exists.intro _ (And.intro (by assumption) ?_); try simp only [push_cast, Int.cast_ofNat_Int, reduceIte, Nat.reduceEqDiff, reduceCtorEq, Nat.reduceAdd, Nat.reduceSub, Nat.reduceMul, Int.reduceToNat, Nat.reduceLeDiff])
      | (refine Exists.intro _ (Exists.intro _ (Exists.intro _ (And.intro (by assumption) ?_))); try simp only [push_cast, Int.cast_ofNat_Int, reduceIte, Nat.reduceEqDiff, reduceCtorEq, Nat.reduceAdd, Nat.reduceSub, Nat.reduceMul, Int.reduceToNat, Nat.reduceLeDiff])
      | (refine xr rfl (by simp only [List.length_cons, List.length_nil]; omega) ?_; try simp only [push_cast, Int.cast_ofNat_Int, reduceIte, Nat.reduceEqDiff, reduceCtorEq, Nat.reduceAdd, Nat.reduceSub, Nat.reduceMul, Int.reduceToNat, Nat.reduceLeDiff])
      | (refine xi rfl (by simp only [List.length_cons, List.length_nil]; omega) ?_; try simp only [push_cast, Int.cast_ofNat_Int, reduceIte, Nat.reduceEqDiff, reduceCtorEq, Nat.reduceAdd, Nat.reduceSub, Nat.reduceMul, Int.reduceToNat, Nat.reduceLeDiff])
      | (refine xs rfl (by simp only [List.length_cons, List.length_nil]; omega) ?_; try simp only [push_cast, Int.cast_ofNat_Int, reduceIte, Nat.reduceEqDiff, reduceCtorEq, Nat.reduceAdd, Nat.reduceSub, Nat.reduceMul, Int.reduceToNat, Nat.reduceLeDiff])
      | (refine xw ?_; simp only [push_cast, Int.cast_ofNat_Int, reduceIte, Nat.reduceEqDiff, reduceCtorEq, Nat.reduceAdd, Nat.reduceSub, Nat.reduceMul, Int.reduceToNat, Nat.reduceLeDiff])
      | (refine And.intro (PHeap.le_refl _) (And.intro (fun p hp => hp) ?_))
      | (refine And.intro (PHeap.le_refl _) (And.intro (fun p hp => List.mem_cons_of_mem _ hp) ?_))
      | (refine And.intro (PHeap.le_refl _) (And.intro (fun p hp => List.mem_cons_of_mem _ (List.mem_cons_of_mem _ hp)) ?_))
      | (refine And.intro (PHeap.le_refl _) (And.intro (mem_of_sub ?_) ?_); focus ((repeat' first | exact List.Sublist.refl _ | exact List.nil_sublist _ | exact List.sublist_append_left _ _ | refine List.Sublist.cons_cons _ ?_ | refine List.Sublist.append_left ?_ _ | refine List.sublist_append_of_sublist_right ?_ | refine List.Sublist.cons _ ?_); done); try simp only [push_cast, Int.cast_ofNat_Int, reduceIte, Nat.reduceEqDiff, reduceCtorEq, Nat.reduceAdd, Nat.reduceSub, Nat.reduceMul, Int.reduceToNat, Nat.reduceLeDiff])
      | (exfalso; simp at hc; done)
      | (exfalso; omega)
      | exact false
      | fail "stuck"
  refine Con.callA (G1 := []) (litmus_Expand_c ts _ hs0 hb hb') (List.Perm.refl _) ?_
  rintro v M1 G1 hM1 (⟨hne, rfl⟩ | ⟨hck, s', rfl, hs1⟩)
  · simp only [push_cast, Int.cast_ofNat_Int, reduceIte, Nat.reduceEqDiff, reduceCtorEq, Nat.reduceAdd, Nat.reduceSub, Nat.reduceMul, Int.reduceToNat, Nat.reduceLeDiff]
    repeat' first
        | refine EV.seq ?_
        | refine EV.skip ?_
        | refine EV.block ?_
        | refine EV.inBlock ?_
        | (refine EV.reg ?_; (conv => (arg 2; whnf)); simp only [push_cast, Int.cast_ofNat_Int, reduceIte, Nat.reduceEqDiff, reduceCtorEq, Nat.reduceAdd, Nat.reduceSub, Nat.reduceMul, Int.reduceToNat, Nat.reduceLeDiff])
        | (refine EV.any _ (List.Sublist.refl _) ?_; (conv => (arg 2; whnf)); simp only [push_cast, Int.cast_ofNat_Int, reduceIte, Nat.reduceEqDiff, reduceCtorEq, Nat.reduceAdd, Nat.reduceSub, Nat.reduceMul, Int.reduceToNat, Nat.reduceLeDiff])
        | assumption
        | (refine condW.merge ?_ (fun hc K' hK => ?_) ?_; rotate_left)
        | (refine condQ.mk ?_ (fun hc => ?_) ?_; rotate_left; (try simp only [decide_eq_true_eq, decide_eq_false_iff_not, Bool.not_eq_true', Bool.not_eq_false', Bool.and_eq_true, Bool.or_eq_true, Bool.and_eq_false_iff, Bool.or_eq_false_iff] at hc))
        | (with_reducible rfl)
        | ((refine EV.cond rfl (fun h => ?_) (fun h => ?_) <;> try simp only [reduceCtorEq, reduceIte, if_true, if_false, Bool.not_eq_true', Bool.not_eq_false', decide_eq_true_eq, decide_eq_false_iff_not, Bool.and_eq_true, Bool.or_eq_true, Bool.and_eq_false_iff, Bool.or_eq_false_iff] at h) <;> try (exfalso; first | exact h True.intro | (exact h; done) | omega))
        | (refine EV.exit rfl ?_)
        | (refine EV.ret R_view_New_ok ?_; simp only [push_cast, Int.cast_ofNat_Int, reduceIte, Nat.reduceEqDiff, reduceCtorEq, Nat.reduceAdd, Nat.reduceSub, Nat.reduceMul, Int.reduceToNat, Nat.reduceLeDiff, R_view_New])
        | (with_reducible intro b; try simp only [push_cast, Int.cast_ofNat_Int, reduceIte, Nat.reduceEqDiff, reduceCtorEq, Nat.reduceAdd, Nat.reduceSub, Nat.reduceMul, Int.reduceToNat, Nat.reduceLeDiff])
        | with_reducible intro b
        | (refine And.intro (by omega) ?_)
        | (refine Exists.intro _ (And.intro (rd_M (by assumption)) ?_); try simp only [push_cast, Int.cast_ofNat_Int, reduceIte, Nat.reduceEqDiff, reduceCtorEq, Nat.reduceAdd, Nat.reduceSub, Nat.reduceMul, Int.reduceToNat, Nat.reduceLeDiff])
        | (refine Exists.intro _ (Exists.intro _ (Exists.intro _ (And.intro (rd_M (by assumption)) ?_))); try simp only [push_cast, Int.cast_ofNat_Int, reduceIte, Nat.reduceEqDiff, reduceCtorEq, Nat.reduceAdd, Nat.reduceSub, Nat.reduceMul, Int.reduceToNat, Nat.reduceLeDiff])
        | (refine Exists.intro _ (And.intro (by assumption) ?_); try simp only [push_cast, Int.cast_ofNat_Int, reduceIte, Nat.reduceEqDiff, reduceCtorEq, Nat.reduceAdd, Nat.reduceSub, Nat.reduceMul, Int.reduceToNat, Nat.reduceLeDiff])
        | (refine Exists.intro _ (Exists.intro _ (Exists.intro _ (And.intro (by assumption) ?_))); try simp only [push_cast, Int.cast_ofNat_Int, reduceIte, Nat.reduceEqDiff, reduceCtorEq, Nat.reduceAdd, Nat.reduceSub, Nat.reduceMul, Int.reduceToNat, Nat.reduceLeDiff])
        | (refine xr rfl (by simp only [List.length_cons, List.length_nil]; omega) ?_; try simp only [push_cast, Int.cast_ofNat_Int, reduceIte, Nat.reduceEqDiff, reduceCtorEq, Nat.reduceAdd, Nat.reduceSub, Nat.reduceMul, Int.reduceToNat, Nat.reduceLeDiff])
        | (refine xi rfl (by simp only [List.length_cons, List.length_nil]; omega) ?_; try simp only [push_cast, Int.cast_ofNat_Int, reduceIte, Nat.reduceEqDiff, reduceCtorEq, Nat.reduceAdd, Nat.reduceSub, Nat.reduceMul, Int.reduceToNat, Nat.reduceLeDiff])
        | (refine xs rfl (by simp only [List.length_cons, List.length_nil]; omega) ?_; try simp only [push_cast, Int.cast_ofNat_Int, reduceIte, Nat.reduceEqDiff, reduceCtorEq, Nat.reduceAdd, Nat.reduceSub, Nat.reduceMul, Int.reduceToNat, Nat.reduceLeDiff])
        | (refine xw ?_; simp only [push_cast, Int.cast_ofNat_Int, reduceIte, Nat.reduceEqDiff, reduceCtorEq, Nat.reduceAdd, Nat.reduceSub, Nat.reduceMul, Int.reduceToNat, Nat.reduceLeDiff])
        | (refine And.intro (PHeap.le_refl _) (And.intro (fun p hp => hp) ?_))
        | (refine And.intro (PHeap.le_refl _) (And.intro (fun p hp => List.mem_cons_of_mem _ hp) ?_))
        | (refine And.intro (PHeap.le_refl _) (And.intro (fun p hp => List.mem_cons_of_mem _ (List.mem_cons_of_mem _ hp)) ?_))
        | (refine And.intro (PHeap.le_refl _) (And.intro (mem_of_sub ?_) ?_); focus ((repeat' first | exact List.Sublist.refl _ | exact List.nil_sublist _ | exact List.sublist_append_left _ _ | refine List.Sublist.cons_cons _ ?_ | refine List.Sublist.append_left ?_ _ | refine List.sublist_append_of_sublist_right ?_ | refine List.Sublist.cons _ ?_); done); try simp only [push_cast, Int.cast_ofNat_Int, reduceIte, Nat.reduceEqDiff, reduceCtorEq, Nat.reduceAdd, Nat.reduceSub, Nat.reduceMul, Int.reduceToNat, Nat.reduceLeDiff])
        | (exfalso; simp at hc; done)
        | (exfalso; omega)
        | exact false
        | fail "stuck"
    exact .inl h
  · have hs2 := hs1
    obtain ⟨a', c', vs', rfl, _⟩ := hs2
    simp only [push_cast, Int.cast_ofNat_Int, reduceIte, Nat.reduceEqDiff, reduceCtorEq, Nat.reduceAdd, Nat.reduceSub, Nat.reduceMul, Int.reduceToNat, Nat.reduceLeDiff]
    repeat' first
        | refine EV.seq ?_
        | refine EV.skip ?_
        | refine EV.block ?_
        | refine EV.inBlock ?_
        | (refine EV.reg ?_; (conv => (arg 2; whnf)); simp only [push_cast, Int.cast_ofNat_Int, reduceIte, Nat.reduceEqDiff, reduceCtorEq, Nat.reduceAdd, Nat.reduceSub, Nat.reduceMul, Int.reduceToNat, Nat.reduceLeDiff])
        | (refine EV.any _ (List.Sublist.refl _) ?_; (conv => (arg 2; whnf)); simp only [push_cast, Int.cast_ofNat_Int, reduceIte, Nat.reduceEqDiff, reduceCtorEq, Nat.reduceAdd, Nat.reduceSub, Nat.reduceMul, Int.reduceToNat, Nat.reduceLeDiff])
        | (refine ConQ.call (view_none_q) ?_; try simp only [push_cast, Int.cast_ofNat_Int, reduceIte, Nat.reduceEqDiff, reduceCtorEq, Nat.reduceAdd, Nat.reduceSub, Nat.reduceMul, Int.reduceToNat, Nat.reduceLeDiff])
        | (refine Exists.intro _ (And.intro (view_none_q) ?_); try simp only [push_cast, Int.cast_ofNat_Int, reduceIte, Nat.reduceEqDiff, reduceCtorEq, Nat.reduceAdd, Nat.reduceSub, Nat.reduceMul, Int.reduceToNat, Nat.reduceLeDiff])
        | assumption
        | (refine condW.merge ?_ (fun hc K' hK => ?_) ?_; rotate_left)
        | (refine condQ.mk ?_ (fun hc => ?_) ?_; rotate_left; (try simp only [decide_eq_true_eq, decide_eq_false_iff_not, Bool.not_eq_true', Bool.not_eq_false', Bool.and_eq_true, Bool.or_eq_true, Bool.and_eq_false_iff, Bool.or_eq_false_iff] at hc))
        | (with_reducible rfl)
        | ((refine EV.cond rfl (fun h => ?_) (fun h => ?_) <;> try simp only [reduceCtorEq, reduceIte, if_true, if_false, Bool.not_eq_true', Bool.not_eq_false', decide_eq_true_eq, decide_eq_false_iff_not, Bool.and_eq_true, Bool.or_eq_true, Bool.and_eq_false_iff, Bool.or_eq_false_iff] at h) <;> try (exfalso; first | exact h True.intro | (exact h; done) | omega))
        | (refine EV.exit rfl ?_)
        | (with_reducible intro b; try simp only [push_cast, Int.cast_ofNat_Int, reduceIte, Nat.reduceEqDiff, reduceCtorEq, Nat.reduceAdd, Nat.reduceSub, Nat.reduceMul, Int.reduceToNat, Nat.reduceLeDiff])
        | with_reducible intro b
        | (refine And.intro (by omega) ?_)
        | (refine Exists.intro _ (And.intro (rd_M (by assumption)) ?_); try simp only [push_cast, Int.cast_ofNat_Int, reduceIte, Nat.reduceEqDiff, reduceCtorEq, Nat.reduceAdd, Nat.reduceSub, Nat.reduceMul, Int.reduceToNat, Nat.reduceLeDiff])
        | (refine Exists.intro _ (Exists.intro _ (Exists.intro _ (And.intro (rd_M (by assumption)) ?_))); try simp only [push_cast, Int.cast_ofNat_Int, reduceIte, Nat.reduceEqDiff, reduceCtorEq, Nat.reduceAdd, Nat.reduceSub, Nat.reduceMul, Int.reduceToNat, Nat.reduceLeDiff])
        | (refine Exists.intro _ (And.intro (by assumption) ?_); try simp only [push_cast, Int.cast_ofNat_Int, reduceIte, Nat.reduceEqDiff, reduceCtorEq, Nat.reduceAdd, Nat.reduceSub, Nat.reduceMul, Int.reduceToNat, Nat.reduceLeDiff])
        | (refine Exists.intro _ (Exists.intro _ (Exists.intro _ (And.intro (by assumption) ?_))); try simp only [push_cast, Int.cast_ofNat_Int, reduceIte, Nat.reduceEqDiff, reduceCtorEq, Nat.reduceAdd, Nat.reduceSub, Nat.reduceMul, Int.reduceToNat, Nat.reduceLeDiff])
        | (refine xr rfl (by simp only [List.length_cons, List.length_nil]; omega) ?_; try simp only [push_cast, Int.cast_ofNat_Int, reduceIte, Nat.reduceEqDiff, reduceCtorEq, Nat.reduceAdd, Nat.reduceSub, Nat.reduceMul, Int.reduceToNat, Nat.reduceLeDiff])
        | (refine xi rfl (by simp only [List.length_cons, List.length_nil]; omega) ?_; try simp only [push_cast, Int.cast_ofNat_Int, reduceIte, Nat.reduceEqDiff, reduceCtorEq, Nat.reduceAdd, Nat.reduceSub, Nat.reduceMul, Int.reduceToNat, Nat.reduceLeDiff])
        | (refine xs rfl (by simp only [List.length_cons, List.length_nil]; omega) ?_; try simp only [push_cast, Int.cast_ofNat_Int, reduceIte, Nat.reduceEqDiff, reduceCtorEq, Nat.reduceAdd, Nat.reduceSub, Nat.reduceMul, Int.reduceToNat, Nat.reduceLeDiff])
        | (refine xw ?_; simp only [push_cast, Int.cast_ofNat_Int, reduceIte, Nat.reduceEqDiff, reduceCtorEq, Nat.reduceAdd, Nat.reduceSub, Nat.reduceMul, Int.reduceToNat, Nat.reduceLeDiff])
        | (refine And.intro (PHeap.le_refl _) (And.intro (fun p hp => hp) ?_))
        | (refine And.intro (PHeap.le_refl _) (And.intro (fun p hp => List.mem_cons_of_mem _ hp) ?_))
        | (refine And.intro (PHeap.le_refl _) (And.intro (fun p hp => List.mem_cons_of_mem _ (List.mem_cons_of_mem _ hp)) ?_))
        | (refine And.intro (PHeap.le_refl _) (And.intro (mem_of_sub ?_) ?_); focus ((repeat' first | exact List.Sublist.refl _ | exact List.nil_sublist _ | exact List.sublist_append_left _ _ | refine List.Sublist.cons_cons _ ?_ | refine List.Sublist.append_left ?_ _ | refine List.sublist_append_of_sublist_right ?_ | refine List.Sublist.cons _ ?_); done); try simp only [push_cast, Int.cast_ofNat_Int, reduceIte, Nat.reduceEqDiff, reduceCtorEq, Nat.reduceAdd, Nat.reduceSub, Nat.reduceMul, Int.reduceToNat, Nat.reduceLeDiff])
        | (exfalso; simp at hc; done)
        | (exfalso; omega)
        | exact false
        | fail "stuck"
    simp only [encV_len, if_true, onv_some]
    intro mp
    repeat' first
        | refine EV.seq ?_
        | refine EV.skip ?_
        | refine EV.block ?_
        | refine EV.inBlock ?_
        | (refine EV.reg ?_; (conv => (arg 2; whnf)); simp only [push_cast, Int.cast_ofNat_Int, reduceIte, Nat.reduceEqDiff, reduceCtorEq, Nat.reduceAdd, Nat.reduceSub, Nat.reduceMul, Int.reduceToNat, Nat.reduceLeDiff])
        | (refine EV.any _ (List.Sublist.refl _) ?_; (conv => (arg 2; whnf)); simp only [push_cast, Int.cast_ofNat_Int, reduceIte, Nat.reduceEqDiff, reduceCtorEq, Nat.reduceAdd, Nat.reduceSub, Nat.reduceMul, Int.reduceToNat, Nat.reduceLeDiff])
        | assumption
        | (refine condW.merge ?_ (fun hc K' hK => ?_) ?_; rotate_left)
        | (refine condQ.mk ?_ (fun hc => ?_) ?_; rotate_left; (try simp only [decide_eq_true_eq, decide_eq_false_iff_not, Bool.not_eq_true', Bool.not_eq_false', Bool.and_eq_true, Bool.or_eq_true, Bool.and_eq_false_iff, Bool.or_eq_false_iff] at hc))
        | (with_reducible rfl)
        | ((refine EV.cond rfl (fun h => ?_) (fun h => ?_) <;> try simp only [reduceCtorEq, reduceIte, if_true, if_false, Bool.not_eq_true', Bool.not_eq_false', decide_eq_true_eq, decide_eq_false_iff_not, Bool.and_eq_true, Bool.or_eq_true, Bool.and_eq_false_iff, Bool.or_eq_false_iff] at h) <;> try (exfalso; first | exact h True.intro | (exact h; done) | omega))
        | (refine EV.exit rfl ?_)
        | (with_reducible intro b; try simp only [push_cast, Int.cast_ofNat_Int, reduceIte, Nat.reduceEqDiff, reduceCtorEq, Nat.reduceAdd, Nat.reduceSub, Nat.reduceMul, Int.reduceToNat, Nat.reduceLeDiff])
        | with_reducible intro b
        | (refine And.intro (by omega) ?_)
        | (refine Exists.intro _ (And.intro (rd_M (by assumption)) ?_); try simp only [push_cast, Int.cast_ofNat_Int, reduceIte, Nat.reduceEqDiff, reduceCtorEq, Nat.reduceAdd, Nat.reduceSub, Nat.reduceMul, Int.reduceToNat, Nat.reduceLeDiff])
        | (refine Exists.intro _ (Exists.intro _ (Exists.intro _ (And.intro (rd_M (by assumption)) ?_))); try simp only [push_cast, Int.cast_ofNat_Int, reduceIte, Nat.reduceEqDiff, reduceCtorEq, Nat.reduceAdd, Nat.reduceSub, Nat.reduceMul, Int.reduceToNat, Nat.reduceLeDiff])
        | (refine Exists.intro _ (And.intro (by assumption) ?_); try simp only [push_cast, Int.cast_ofNat_Int, reduceIte, Nat.reduceEqDiff, reduceCtorEq, Nat.reduceAdd, Nat.reduceSub, Nat.reduceMul, Int.reduceToNat, Nat.reduceLeDiff])
        | (refine Exists.intro _ (Exists.intro _ (Exists.intro _ (And.intro (by assumption) ?_))); try simp only [push_cast, Int.cast_ofNat_Int, reduceIte, Nat.reduceEqDiff, reduceCtorEq, Nat.reduceAdd, Nat.reduceSub, Nat.reduceMul, Int.reduceToNat, Nat.reduceLeDiff])
        | (refine xr rfl (by simp only [List.length_cons, List.length_nil]; omega) ?_; try simp only [push_cast, Int.cast_ofNat_Int, reduceIte, Nat.reduceEqDiff, reduceCtorEq, Nat.reduceAdd, Nat.reduceSub, Nat.reduceMul, Int.reduceToNat, Nat.reduceLeDiff])
        | (refine xi rfl (by simp only [List.length_cons, List.length_nil]; omega) ?_; try simp only [push_cast, Int.cast_ofNat_Int, reduceIte, Nat.reduceEqDiff, reduceCtorEq, Nat.reduceAdd, Nat.reduceSub, Nat.reduceMul, Int.reduceToNat, Nat.reduceLeDiff])
        | (refine xs rfl (by simp only [List.length_cons, List.length_nil]; omega) ?_; try simp only [push_cast, Int.cast_ofNat_Int, reduceIte, Nat.reduceEqDiff, reduceCtorEq, Nat.reduceAdd, Nat.reduceSub, Nat.reduceMul, Int.reduceToNat, Nat.reduceLeDiff])
        | (refine xw ?_; simp only [push_cast, Int.cast_ofNat_Int, reduceIte, Nat.reduceEqDiff, reduceCtorEq, Nat.reduceAdd, Nat.reduceSub, Nat.reduceMul, Int.reduceToNat, Nat.reduceLeDiff])
        | (refine And.intro (PHeap.le_refl _) (And.intro (fun p hp => hp) ?_))
        | (refine And.intro (PHeap.le_refl _) (And.intro (fun p hp => List.mem_cons_of_mem _ hp) ?_))
        | (refine And.intro (PHeap.le_refl _) (And.intro (fun p hp => List.mem_cons_of_mem _ (List.mem_cons_of_mem _ hp)) ?_))
        | (refine And.intro (PHeap.le_refl _) (And.intro (mem_of_sub ?_) ?_); focus ((repeat' first | exact List.Sublist.refl _ | exact List.nil_sublist _ | exact List.sublist_append_left _ _ | refine List.Sublist.cons_cons _ ?_ | refine List.Sublist.append_left ?_ _ | refine List.sublist_append_of_sublist_right ?_ | refine List.Sublist.cons _ ?_); done); try simp only [push_cast, Int.cast_ofNat_Int, reduceIte, Nat.reduceEqDiff, reduceCtorEq, Nat.reduceAdd, Nat.reduceSub, Nat.reduceMul, Int.reduceToNat, Nat.reduceLeDiff])
        | (exfalso; simp at hc; done)
        | (exfalso; omega)
        | exact false
        | fail "stuck"
    refine EV.permG ?_ (List.Perm.swap _ _ _)
    refine EV.freeze (G₁ := [_]) ?_
    generalize hN : M1.add [(b, Cl 24 [.slice a' (List.map expT ts).length c'])] = N
    have hMN : M1.le N := hN ▸ PHeap.le_add _ _
    have hb4 : rd N b 0 1 [.slice a' (List.map expT ts).length c'] := hN ▸ rd_own' 0 rfl rfl (by simp)
    clear hN
    refine EV.to (ρ' := [(4, pv b 0), (6, pv mp 0), (22, vi (0 : Nat))]) (G' := (mp, Cl 65 (hdL (.slice a' (List.map expT ts).length c') (osv none 0) (newL (fun _ => 0) 0) (.slice none 0 0) noV)) :: (osg 67 none (newC 0) ++ newR (fun _ => 0) 0)) ?_ ?env0 (List.Sublist.cons_cons _ (List.nil_sublist _))
    case env0 =>
      repeat' first
        | (refine List.forall_mem_cons.2 (And.intro ?_ ?_))
        | (intro _ hnil; cases hnil; done)
        | rfl
        | (refine env_w64 rfl (by first | rfl | (push_cast; first | rfl | omega)) (by omega) (by omega); done)
        | (simp (disch := omega) only [get_cons, get_nil, reduceIte, Nat.reduceEqDiff, Option.some.injEq, Value.int.injEq, w64, Int.natCast_add, Int.natCast_one, Int.cast_ofNat_Int, Int.natCast_zero]; done)
    refine EV.loop (fun x : Nat × Vec × (Nat → Nat) => ([(4, pv b 0), (6, pv mp 0), (22, vi x.1)], N, (mp, Cl 65 (hdL (.slice a' (List.map expT ts).length c') (osv x.2.1 x.1) (newL x.2.2 x.1) (.slice none 0 0) noV)) :: (osg 67 x.2.1 (newC x.1) ++ newR x.2.2 x.1)))
      (fun x => x.1 ≤ 3 ∧ osok 5 x.2.1 x.1 (newC x.1)) (fun x => 3 - x.1) (0, none, fun _ => 0) ⟨by decide, rfl, rfl⟩ ?_
    rintro ⟨k, om, lb⟩ ⟨hk3, hom⟩ ih
    dsimp only at hk3 hom ih ⊢
    repeat' first
        | refine EV.seq ?_
        | refine EV.skip ?_
        | refine EV.block ?_
        | refine EV.inBlock ?_
        | (refine EV.reg ?_; (conv => (arg 2; whnf)); simp only [push_cast, Int.cast_ofNat_Int, reduceIte, Nat.reduceEqDiff, reduceCtorEq, Nat.reduceAdd, Nat.reduceSub, Nat.reduceMul, Int.reduceToNat, Nat.reduceLeDiff, encV_len, ok1_encV])
        | assumption
        | (refine ConQ.call (view_none_q) ?_; try simp only [push_cast, Int.cast_ofNat_Int, reduceIte, Nat.reduceEqDiff, reduceCtorEq, Nat.reduceAdd, Nat.reduceSub, Nat.reduceMul, Int.reduceToNat, Nat.reduceLeDiff, encV_len, ok1_encV])
        | (refine Exists.intro _ (And.intro (view_none_q) ?_); try simp only [push_cast, Int.cast_ofNat_Int, reduceIte, Nat.reduceEqDiff, reduceCtorEq, Nat.reduceAdd, Nat.reduceSub, Nat.reduceMul, Int.reduceToNat, Nat.reduceLeDiff, encV_len, ok1_encV])
        | (refine condW.merge ?_ (fun hc K' hK => ?_) ?_; rotate_left)
        | (refine condQ.mk ?_ (fun hc => ?_) ?_; rotate_left; (try simp only [decide_eq_true_eq, decide_eq_false_iff_not, Bool.not_eq_true', Bool.not_eq_false', Bool.and_eq_true, Bool.or_eq_true, Bool.and_eq_false_iff, Bool.or_eq_false_iff] at hc))
        | (with_reducible rfl)
        | ((refine EV.cond rfl (fun h => ?_) (fun h => ?_) <;> try simp only [reduceCtorEq, reduceIte, if_true, if_false, Bool.not_eq_true', Bool.not_eq_false', decide_eq_true_eq, decide_eq_false_iff_not, Bool.and_eq_true, Bool.or_eq_true, Bool.and_eq_false_iff, Bool.or_eq_false_iff] at h) <;> try (exfalso; first | exact h True.intro | (exact h; done) | omega))
        | (refine EV.exit rfl ?_)
        | (with_reducible intro b; try simp only [push_cast, Int.cast_ofNat_Int, reduceIte, Nat.reduceEqDiff, reduceCtorEq, Nat.reduceAdd, Nat.reduceSub, Nat.reduceMul, Int.reduceToNat, Nat.reduceLeDiff, encV_len, ok1_encV])
        | with_reducible intro b
        | (refine And.intro (by omega) ?_)
        | (refine Exists.intro _ (And.intro (rd_M (by assumption)) ?_); try simp only [push_cast, Int.cast_ofNat_Int, reduceIte, Nat.reduceEqDiff, reduceCtorEq, Nat.reduceAdd, Nat.reduceSub, Nat.reduceMul, Int.reduceToNat, Nat.reduceLeDiff, encV_len, ok1_encV])
        | (refine Exists.intro _ (Exists.intro _ (Exists.intro _ (And.intro (rd_M (by assumption)) ?_))); try simp only [push_cast, Int.cast_ofNat_Int, reduceIte, Nat.reduceEqDiff, reduceCtorEq, Nat.reduceAdd, Nat.reduceSub, Nat.reduceMul, Int.reduceToNat, Nat.reduceLeDiff, encV_len, ok1_encV])
        | (refine Exists.intro _ (And.intro (by assumption) ?_); try simp only [push_cast, Int.cast_ofNat_Int, reduceIte, Nat.reduceEqDiff, reduceCtorEq, Nat.reduceAdd, Nat.reduceSub, Nat.reduceMul, Int.reduceToNat, Nat.reduceLeDiff, encV_len, ok1_encV])
        | (refine Exists.intro _ (Exists.intro _ (Exists.intro _ (And.intro (by assumption) ?_))); try simp only [push_cast, Int.cast_ofNat_Int, reduceIte, Nat.reduceEqDiff, reduceCtorEq, Nat.reduceAdd, Nat.reduceSub, Nat.reduceMul, Int.reduceToNat, Nat.reduceLeDiff, encV_len, ok1_encV])
        | (refine xr rfl (by simp only [List.length_cons, List.length_nil]; omega) ?_; try simp only [push_cast, Int.cast_ofNat_Int, reduceIte, Nat.reduceEqDiff, reduceCtorEq, Nat.reduceAdd, Nat.reduceSub, Nat.reduceMul, Int.reduceToNat, Nat.reduceLeDiff, encV_len, ok1_encV])
        | (refine xi rfl (by simp only [List.length_cons, List.length_nil]; omega) ?_; try simp only [push_cast, Int.cast_ofNat_Int, reduceIte, Nat.reduceEqDiff, reduceCtorEq, Nat.reduceAdd, Nat.reduceSub, Nat.reduceMul, Int.reduceToNat, Nat.reduceLeDiff, encV_len, ok1_encV])
        | (refine xs rfl (by simp only [List.length_cons, List.length_nil]; omega) ?_; try simp only [push_cast, Int.cast_ofNat_Int, reduceIte, Nat.reduceEqDiff, reduceCtorEq, Nat.reduceAdd, Nat.reduceSub, Nat.reduceMul, Int.reduceToNat, Nat.reduceLeDiff, encV_len, ok1_encV])
        | (refine xw ?_; simp only [push_cast, Int.cast_ofNat_Int, reduceIte, Nat.reduceEqDiff, reduceCtorEq, Nat.reduceAdd, Nat.reduceSub, Nat.reduceMul, Int.reduceToNat, Nat.reduceLeDiff, encV_len, ok1_encV])
        | (refine And.intro (PHeap.le_refl _) (And.intro (fun p hp => hp) ?_))
        | (refine And.intro (PHeap.le_refl _) (And.intro (fun p hp => List.mem_cons_of_mem _ hp) ?_))
        | (refine And.intro (PHeap.le_refl _) (And.intro (fun p hp => List.mem_cons_of_mem _ (List.mem_cons_of_mem _ hp)) ?_))
        | (refine And.intro (PHeap.le_refl _) (And.intro (mem_of_sub ?_) ?_); focus ((repeat' first | exact List.Sublist.refl _ | exact List.nil_sublist _ | exact List.sublist_append_left _ _ | refine List.Sublist.cons_cons _ ?_ | refine List.Sublist.append_left ?_ _ | refine List.sublist_append_of_sublist_right ?_ | refine List.Sublist.cons _ ?_); done); try simp only [push_cast, Int.cast_ofNat_Int, reduceIte, Nat.reduceEqDiff, reduceCtorEq, Nat.reduceAdd, Nat.reduceSub, Nat.reduceMul, Int.reduceToNat, Nat.reduceLeDiff, encV_len, ok1_encV])
        | (exfalso; simp at hc; done)
        | (exfalso; omega)
        | exact false
        | fail "stuck"
    · have hk' : k < 3 := by omega
      simp only [enc_st_at hk']
      refine EV.any (t := R_view_New_10) _ (List.Sublist.cons_cons _ (List.Sublist.cons_cons _ (List.sublist_append_right _ _))) ?_
      simp only [push_cast, Int.cast_ofNat_Int, reduceIte, Nat.reduceEqDiff, reduceCtorEq, Nat.reduceAdd, Nat.reduceSub, Nat.reduceMul, Int.reduceToNat, Nat.reduceLeDiff, R_view_New_10]
      repeat' first
          | refine EV.seq ?_
          | refine EV.skip ?_
          | refine EV.block ?_
          | refine EV.inBlock ?_
          | (refine EV.reg ?_; (conv => (arg 2; whnf)); simp only [push_cast, Int.cast_ofNat_Int, reduceIte, Nat.reduceEqDiff, reduceCtorEq, Nat.reduceAdd, Nat.reduceSub, Nat.reduceMul, Int.reduceToNat, Nat.reduceLeDiff, encV, hd_len])
          | (refine EV.any _ (List.Sublist.refl _) ?_; (conv => (arg 2; whnf)); simp only [push_cast, Int.cast_ofNat_Int, reduceIte, Nat.reduceEqDiff, reduceCtorEq, Nat.reduceAdd, Nat.reduceSub, Nat.reduceMul, Int.reduceToNat, Nat.reduceLeDiff, encV, hd_len])
          | (refine Exists.intro _ (Exists.intro _ (Exists.intro _ (And.intro (rd_hd_ms) ?_))); try simp only [push_cast, Int.cast_ofNat_Int, reduceIte, Nat.reduceEqDiff, reduceCtorEq, Nat.reduceAdd, Nat.reduceSub, Nat.reduceMul, Int.reduceToNat, Nat.reduceLeDiff, encV, hd_len])
          | (refine Exists.intro _ (And.intro (rd_hd_ms) ?_); try simp only [push_cast, Int.cast_ofNat_Int, reduceIte, Nat.reduceEqDiff, reduceCtorEq, Nat.reduceAdd, Nat.reduceSub, Nat.reduceMul, Int.reduceToNat, Nat.reduceLeDiff, encV, hd_len])
          | assumption
          | (refine condW.merge ?_ (fun hc K' hK => ?_) ?_; rotate_left)
          | (refine condQ.mk ?_ (fun hc => ?_) ?_; rotate_left; (try simp only [decide_eq_true_eq, decide_eq_false_iff_not, Bool.not_eq_true', Bool.not_eq_false', Bool.and_eq_true, Bool.or_eq_true, Bool.and_eq_false_iff, Bool.or_eq_false_iff] at hc))
          | (with_reducible rfl)
          | ((refine EV.cond rfl (fun h => ?_) (fun h => ?_) <;> try simp only [reduceCtorEq, reduceIte, if_true, if_false, Bool.not_eq_true', Bool.not_eq_false', decide_eq_true_eq, decide_eq_false_iff_not, Bool.and_eq_true, Bool.or_eq_true, Bool.and_eq_false_iff, Bool.or_eq_false_iff] at h) <;> try (exfalso; first | exact h True.intro | (exact h; done) | omega))
          | (refine EV.exit rfl ?_)
          | (with_reducible intro b; try simp only [push_cast, Int.cast_ofNat_Int, reduceIte, Nat.reduceEqDiff, reduceCtorEq, Nat.reduceAdd, Nat.reduceSub, Nat.reduceMul, Int.reduceToNat, Nat.reduceLeDiff, encV, hd_len])
          | with_reducible intro b
          | (refine And.intro (by omega) ?_)
          | (refine Exists.intro _ (And.intro (rd_M (by assumption)) ?_); try simp only [push_cast, Int.cast_ofNat_Int, reduceIte, Nat.reduceEqDiff, reduceCtorEq, Nat.reduceAdd, Nat.reduceSub, Nat.reduceMul, Int.reduceToNat, Nat.reduceLeDiff, encV, hd_len])
          | (refine Exists.intro _ (Exists.intro _ (Exists.intro _ (And.intro (rd_M (by assumption)) ?_))); try simp only [push_cast, Int.cast_ofNat_Int, reduceIte, Nat.reduceEqDiff, reduceCtorEq, Nat.reduceAdd, Nat.reduceSub, Nat.reduceMul, Int.reduceToNat, Nat.reduceLeDiff, encV, hd_len])
          | (refine Exists.intro _ (And.intro (by assumption) ?_); try simp only [push_cast, Int.cast_ofNat_Int, reduceIte, Nat.reduceEqDiff, reduceCtorEq, Nat.reduceAdd, Nat.reduceSub, Nat.reduceMul, Int.reduceToNat, Nat.reduceLeDiff, encV, hd_len])
          | (refine Exists.intro _ (Exists.intro _ (Exists.intro _ (And.intro (by assumption) ?_))); try simp only [push_cast, Int.cast_ofNat_Int, reduceIte, Nat.reduceEqDiff, reduceCtorEq, Nat.reduceAdd, Nat.reduceSub, Nat.reduceMul, Int.reduceToNat, Nat.reduceLeDiff, encV, hd_len])
          | (refine xr rfl (by simp only [List.length_cons, List.length_nil]; omega) ?_; try simp only [push_cast, Int.cast_ofNat_Int, reduceIte, Nat.reduceEqDiff, reduceCtorEq, Nat.reduceAdd, Nat.reduceSub, Nat.reduceMul, Int.reduceToNat, Nat.reduceLeDiff, encV, hd_len])
          | (refine xi rfl (by simp only [List.length_cons, List.length_nil]; omega) ?_; try simp only [push_cast, Int.cast_ofNat_Int, reduceIte, Nat.reduceEqDiff, reduceCtorEq, Nat.reduceAdd, Nat.reduceSub, Nat.reduceMul, Int.reduceToNat, Nat.reduceLeDiff, encV, hd_len])
          | (refine xs rfl (by simp only [List.length_cons, List.length_nil]; omega) ?_; try simp only [push_cast, Int.cast_ofNat_Int, reduceIte, Nat.reduceEqDiff, reduceCtorEq, Nat.reduceAdd, Nat.reduceSub, Nat.reduceMul, Int.reduceToNat, Nat.reduceLeDiff, encV, hd_len])
          | (refine xw ?_; simp only [push_cast, Int.cast_ofNat_Int, reduceIte, Nat.reduceEqDiff, reduceCtorEq, Nat.reduceAdd, Nat.reduceSub, Nat.reduceMul, Int.reduceToNat, Nat.reduceLeDiff, encV, hd_len])
          | (refine And.intro (PHeap.le_refl _) (And.intro (fun p hp => hp) ?_))
          | (refine And.intro (PHeap.le_refl _) (And.intro (fun p hp => List.mem_cons_of_mem _ hp) ?_))
          | (refine And.intro (PHeap.le_refl _) (And.intro (fun p hp => List.mem_cons_of_mem _ (List.mem_cons_of_mem _ hp)) ?_))
          | (refine And.intro (PHeap.le_refl _) (And.intro (mem_of_sub ?_) ?_); focus ((repeat' first | exact List.Sublist.refl _ | exact List.nil_sublist _ | exact List.sublist_append_left _ _ | refine List.Sublist.cons_cons _ ?_ | refine List.Sublist.append_left ?_ _ | refine List.sublist_append_of_sublist_right ?_ | refine List.Sublist.cons _ ?_); done); try simp only [push_cast, Int.cast_ofNat_Int, reduceIte, Nat.reduceEqDiff, reduceCtorEq, Nat.reduceAdd, Nat.reduceSub, Nat.reduceMul, Int.reduceToNat, Nat.reduceLeDiff, encV, hd_len])
          | (exfalso; simp at hc; done)
          | (exfalso; omega)
          | exact false
          | fail "stuck"
      refine ⟨encMsg (initM k), Or.inr ⟨_, 0, rfl, rd_own' 0 rfl rfl (by simp [encV_len])⟩, by simp [encMsg, ok1_cons, ok1_nil, Value.oneCell'], Or.inl ⟨om, _, rfl, _, hom, _, cat_pull [[_, _, _], osg 67 om (newC k), newR lb k] 1 (by simp), ?_, ?_, ?_⟩⟩
      · simp only [maxLen]; omega
      · omega
      intro o1 ho1 _
      simp only [List.eraseIdx_cons_succ, List.eraseIdx_cons_zero, List.getElem_cons_succ, List.getElem_cons_zero, List.insertIdx_zero, List.insertIdx_succ_cons, cat_two, cat_one, cat_nil, List.nil_append, List.cons_append, List.append_assoc, List.append_nil]
      repeat' first
          | refine EV.seq ?_
          | refine EV.skip ?_
          | refine EV.block ?_
          | refine EV.inBlock ?_
          | (refine EV.reg ?_; (conv => (arg 2; whnf)); simp only [push_cast, Int.cast_ofNat_Int, reduceIte, Nat.reduceEqDiff, reduceCtorEq, Nat.reduceAdd, Nat.reduceSub, Nat.reduceMul, Int.reduceToNat, Nat.reduceLeDiff, encV_len, ok1_encV, hd_len, hd_st_ms, hd_st_line hk', newL_upd])
          | (refine EV.any _ (List.Sublist.refl _) ?_; (conv => (arg 2; whnf)); simp only [push_cast, Int.cast_ofNat_Int, reduceIte, Nat.reduceEqDiff, reduceCtorEq, Nat.reduceAdd, Nat.reduceSub, Nat.reduceMul, Int.reduceToNat, Nat.reduceLeDiff, encV_len, ok1_encV, hd_len, hd_st_ms, hd_st_line hk', newL_upd])
          | assumption
          | (refine condW.merge ?_ (fun hc K' hK => ?_) ?_; rotate_left)
          | (refine condQ.mk ?_ (fun hc => ?_) ?_; rotate_left; (try simp only [decide_eq_true_eq, decide_eq_false_iff_not, Bool.not_eq_true', Bool.not_eq_false', Bool.and_eq_true, Bool.or_eq_true, Bool.and_eq_false_iff, Bool.or_eq_false_iff] at hc))
          | (with_reducible rfl)
          | ((refine EV.cond rfl (fun h => ?_) (fun h => ?_) <;> try simp only [reduceCtorEq, reduceIte, if_true, if_false, Bool.not_eq_true', Bool.not_eq_false', decide_eq_true_eq, decide_eq_false_iff_not, Bool.and_eq_true, Bool.or_eq_true, Bool.and_eq_false_iff, Bool.or_eq_false_iff] at h) <;> try (exfalso; first | exact h True.intro | (exact h; done) | omega))
          | (refine EV.exit rfl ?_)
          | (with_reducible intro b; try simp only [push_cast, Int.cast_ofNat_Int, reduceIte, Nat.reduceEqDiff, reduceCtorEq, Nat.reduceAdd, Nat.reduceSub, Nat.reduceMul, Int.reduceToNat, Nat.reduceLeDiff, encV_len, ok1_encV, hd_len, hd_st_ms, hd_st_line hk', newL_upd])
          | with_reducible intro b
          | (refine And.intro (by omega) ?_)
          | (refine Exists.intro _ (And.intro (rd_M (by assumption)) ?_); try simp only [push_cast, Int.cast_ofNat_Int, reduceIte, Nat.reduceEqDiff, reduceCtorEq, Nat.reduceAdd, Nat.reduceSub, Nat.reduceMul, Int.reduceToNat, Nat.reduceLeDiff, encV_len, ok1_encV, hd_len, hd_st_ms, hd_st_line hk', newL_upd])
          | (refine Exists.intro _ (Exists.intro _ (Exists.intro _ (And.intro (rd_M (by assumption)) ?_))); try simp only [push_cast, Int.cast_ofNat_Int, reduceIte, Nat.reduceEqDiff, reduceCtorEq, Nat.reduceAdd, Nat.reduceSub, Nat.reduceMul, Int.reduceToNat, Nat.reduceLeDiff, encV_len, ok1_encV, hd_len, hd_st_ms, hd_st_line hk', newL_upd])
          | (refine Exists.intro _ (And.intro (by assumption) ?_); try simp only [push_cast, Int.cast_ofNat_Int, reduceIte, Nat.reduceEqDiff, reduceCtorEq, Nat.reduceAdd, Nat.reduceSub, Nat.reduceMul, Int.reduceToNat, Nat.reduceLeDiff, encV_len, ok1_encV, hd_len, hd_st_ms, hd_st_line hk', newL_upd])
          | (refine Exists.intro _ (Exists.intro _ (Exists.intro _ (And.intro (by assumption) ?_))); try simp only [push_cast, Int.cast_ofNat_Int, reduceIte, Nat.reduceEqDiff, reduceCtorEq, Nat.reduceAdd, Nat.reduceSub, Nat.reduceMul, Int.reduceToNat, Nat.reduceLeDiff, encV_len, ok1_encV, hd_len, hd_st_ms, hd_st_line hk', newL_upd])
          | (refine xr rfl (by simp only [List.length_cons, List.length_nil]; omega) ?_; try simp only [push_cast, Int.cast_ofNat_Int, reduceIte, Nat.reduceEqDiff, reduceCtorEq, Nat.reduceAdd, Nat.reduceSub, Nat.reduceMul, Int.reduceToNat, Nat.reduceLeDiff, encV_len, ok1_encV, hd_len, hd_st_ms, hd_st_line hk', newL_upd])
          | (refine xi rfl (by simp only [List.length_cons, List.length_nil]; omega) ?_; try simp only [push_cast, Int.cast_ofNat_Int, reduceIte, Nat.reduceEqDiff, reduceCtorEq, Nat.reduceAdd, Nat.reduceSub, Nat.reduceMul, Int.reduceToNat, Nat.reduceLeDiff, encV_len, ok1_encV, hd_len, hd_st_ms, hd_st_line hk', newL_upd])
          | (refine xs rfl (by simp only [List.length_cons, List.length_nil]; omega) ?_; try simp only [push_cast, Int.cast_ofNat_Int, reduceIte, Nat.reduceEqDiff, reduceCtorEq, Nat.reduceAdd, Nat.reduceSub, Nat.reduceMul, Int.reduceToNat, Nat.reduceLeDiff, encV_len, ok1_encV, hd_len, hd_st_ms, hd_st_line hk', newL_upd])
          | (refine xw ?_; simp only [push_cast, Int.cast_ofNat_Int, reduceIte, Nat.reduceEqDiff, reduceCtorEq, Nat.reduceAdd, Nat.reduceSub, Nat.reduceMul, Int.reduceToNat, Nat.reduceLeDiff, encV_len, ok1_encV, hd_len, hd_st_ms, hd_st_line hk', newL_upd])
          | (refine And.intro (PHeap.le_refl _) (And.intro (fun p hp => hp) ?_))
          | (refine And.intro (PHeap.le_refl _) (And.intro (fun p hp => List.mem_cons_of_mem _ hp) ?_))
          | (refine And.intro (PHeap.le_refl _) (And.intro (fun p hp => List.mem_cons_of_mem _ (List.mem_cons_of_mem _ hp)) ?_))
          | (refine And.intro (PHeap.le_refl _) (And.intro (mem_of_sub ?_) ?_); focus ((repeat' first | exact List.Sublist.refl _ | exact List.nil_sublist _ | exact List.sublist_append_left _ _ | refine List.Sublist.cons_cons _ ?_ | refine List.Sublist.append_left ?_ _ | refine List.sublist_append_of_sublist_right ?_ | refine List.Sublist.cons _ ?_); done); try simp only [push_cast, Int.cast_ofNat_Int, reduceIte, Nat.reduceEqDiff, reduceCtorEq, Nat.reduceAdd, Nat.reduceSub, Nat.reduceMul, Int.reduceToNat, Nat.reduceLeDiff, encV_len, ok1_encV, hd_len, hd_st_ms, hd_st_line hk', newL_upd])
          | (exfalso; simp at hc; done)
          | (exfalso; omega)
          | exact false
          | fail "stuck"
      rename_i b8 bs
      refine EV.permG ?_ (cat_move [[_], [_, _, _], newR lb k, osg 67 o1 _] 0 3 (by simp) (by simp))
      simp only [List.eraseIdx_cons_succ, List.eraseIdx_cons_zero, List.getElem_cons_succ, List.getElem_cons_zero, List.insertIdx_zero, List.insertIdx_succ_cons, cat_two, cat_one, cat_nil, List.nil_append, List.cons_append, List.append_assoc, List.append_nil]
      refine EV.permG ?_ (cat_move [[_, _, _], newR lb k, osg 67 o1 _, [_]] 2 1 (by simp) (by simp))
      simp only [List.eraseIdx_cons_succ, List.eraseIdx_cons_zero, List.getElem_cons_succ, List.getElem_cons_zero, List.insertIdx_zero, List.insertIdx_succ_cons, cat_two, cat_one, cat_nil, List.nil_append, List.cons_append, List.append_assoc, List.append_nil]
      have ih3 := ih (k + 1, o1, upd lb k b) ⟨by dsimp only; omega, by dsimp only; rw [newC_upd]; exact ho1⟩ (by dsimp only; omega)
      simp only [newC_upd, newR_upd] at ih3
      refine EV.to ih3 ?_ (by (repeat' first | exact List.Sublist.refl _ | exact List.nil_sublist _ | exact List.sublist_append_left _ _ | refine List.Sublist.cons_cons _ ?_ | refine List.Sublist.append_left ?_ _ | refine List.sublist_append_of_sublist_right ?_ | refine List.Sublist.cons _ ?_))
      repeat' first
        | (refine List.forall_mem_cons.2 (And.intro ?_ ?_))
        | (intro _ hnil; cases hnil; done)
        | rfl
        | (refine env_w64 rfl (by first | rfl | (push_cast; first | rfl | omega)) (by omega) (by omega); done)
        | (simp (disch := omega) only [get_cons, get_nil, reduceIte, Nat.reduceEqDiff, Option.some.injEq, Value.int.injEq, w64, Int.natCast_add, Int.natCast_one, Int.cast_ofNat_Int, Int.natCast_zero]; done)
    · have e : k = 3 := by omega
      subst e
      refine EV.to (ρ' := [(6, pv mp 0), (50, vi (List.map expT ts).length), (51, vi (0 : Nat))]) (G' := (mp, Cl 65 (hdL (.slice a' (List.map expT ts).length c') (osv om 3) (newL lb 3) (osv none 0) noV)) :: (osg 69 none (newT 0) ++ (osg 67 om (newC 3) ++ newR lb 3))) ?_ ?env1 (List.Sublist.refl _)
      case env1 =>
        repeat' first
          | (refine List.forall_mem_cons.2 (And.intro ?_ ?_))
          | (intro _ hnil; cases hnil; done)
          | rfl
          | (refine env_w64 rfl (by first | rfl | (push_cast; first | rfl | omega)) (by omega) (by omega); done)
          | (simp (disch := omega) only [get_cons, get_nil, reduceIte, Nat.reduceEqDiff, Option.some.injEq, Value.int.injEq, w64, Int.natCast_add, Int.natCast_one, Int.cast_ofNat_Int, Int.natCast_zero]; done)
      refine EV.loop (fun x : Nat × Vec => ([(6, pv mp 0), (50, vi (List.map expT ts).length), (51, vi x.1)], N, (mp, Cl 65 (hdL (.slice a' (List.map expT ts).length c') (osv om 3) (newL lb 3) (osv x.2 x.1) noV)) :: (osg 69 x.2 (newT x.1) ++ (osg 67 om (newC 3) ++ newR lb 3))))
        (fun x => x.1 ≤ (List.map expT ts).length ∧ osok 11 x.2 x.1 (newT x.1)) (fun x => (List.map expT ts).length - x.1) (0, none) ⟨Nat.zero_le _, rfl, rfl⟩ ?_
      rintro ⟨i, ot⟩ ⟨hi, hot⟩ ih2
      dsimp only at hi hot ih2 ⊢
      repeat' first
          | refine EV.seq ?_
          | refine EV.skip ?_
          | refine EV.block ?_
          | refine EV.inBlock ?_
          | (refine EV.reg ?_; (conv => (arg 2; whnf)); simp only [push_cast, Int.cast_ofNat_Int, reduceIte, Nat.reduceEqDiff, reduceCtorEq, Nat.reduceAdd, Nat.reduceSub, Nat.reduceMul, Int.reduceToNat, Nat.reduceLeDiff, encV_len, ok1_encV])
          | assumption
          | (refine ConQ.call (view_none_q) ?_; try simp only [push_cast, Int.cast_ofNat_Int, reduceIte, Nat.reduceEqDiff, reduceCtorEq, Nat.reduceAdd, Nat.reduceSub, Nat.reduceMul, Int.reduceToNat, Nat.reduceLeDiff, encV_len, ok1_encV])
          | (refine Exists.intro _ (And.intro (view_none_q) ?_); try simp only [push_cast, Int.cast_ofNat_Int, reduceIte, Nat.reduceEqDiff, reduceCtorEq, Nat.reduceAdd, Nat.reduceSub, Nat.reduceMul, Int.reduceToNat, Nat.reduceLeDiff, encV_len, ok1_encV])
          | (refine condW.merge ?_ (fun hc K' hK => ?_) ?_; rotate_left)
          | (refine condQ.mk ?_ (fun hc => ?_) ?_; rotate_left; (try simp only [decide_eq_true_eq, decide_eq_false_iff_not, Bool.not_eq_true', Bool.not_eq_false', Bool.and_eq_true, Bool.or_eq_true, Bool.and_eq_false_iff, Bool.or_eq_false_iff] at hc))
          | (with_reducible rfl)
          | ((refine EV.cond rfl (fun h => ?_) (fun h => ?_) <;> try simp only [reduceCtorEq, reduceIte, if_true, if_false, Bool.not_eq_true', Bool.not_eq_false', decide_eq_true_eq, decide_eq_false_iff_not, Bool.and_eq_true, Bool.or_eq_true, Bool.and_eq_false_iff, Bool.or_eq_false_iff] at h) <;> try (exfalso; first | exact h True.intro | (exact h; done) | omega))
          | (refine EV.exit rfl ?_)
          | (with_reducible intro b; try simp only [push_cast, Int.cast_ofNat_Int, reduceIte, Nat.reduceEqDiff, reduceCtorEq, Nat.reduceAdd, Nat.reduceSub, Nat.reduceMul, Int.reduceToNat, Nat.reduceLeDiff, encV_len, ok1_encV])
          | with_reducible intro b
          | (refine And.intro (by omega) ?_)
          | (refine Exists.intro _ (And.intro (rd_M (by assumption)) ?_); try simp only [push_cast, Int.cast_ofNat_Int, reduceIte, Nat.reduceEqDiff, reduceCtorEq, Nat.reduceAdd, Nat.reduceSub, Nat.reduceMul, Int.reduceToNat, Nat.reduceLeDiff, encV_len, ok1_encV])
          | (refine Exists.intro _ (Exists.intro _ (Exists.intro _ (And.intro (rd_M (by assumption)) ?_))); try simp only [push_cast, Int.cast_ofNat_Int, reduceIte, Nat.reduceEqDiff, reduceCtorEq, Nat.reduceAdd, Nat.reduceSub, Nat.reduceMul, Int.reduceToNat, Nat.reduceLeDiff, encV_len, ok1_encV])
          | (refine Exists.intro _ (And.intro (by assumption) ?_); try simp only [push_cast, Int.cast_ofNat_Int, reduceIte, Nat.reduceEqDiff, reduceCtorEq, Nat.reduceAdd, Nat.reduceSub, Nat.reduceMul, Int.reduceToNat, Nat.reduceLeDiff, encV_len, ok1_encV])
          | (refine Exists.intro _ (Exists.intro _ (Exists.intro _ (And.intro (by assumption) ?_))); try simp only [push_cast, Int.cast_ofNat_Int, reduceIte, Nat.reduceEqDiff, reduceCtorEq, Nat.reduceAdd, Nat.reduceSub, Nat.reduceMul, Int.reduceToNat, Nat.reduceLeDiff, encV_len, ok1_encV])
          | (refine xr rfl (by simp only [List.length_cons, List.length_nil]; omega) ?_; try simp only [push_cast, Int.cast_ofNat_Int, reduceIte, Nat.reduceEqDiff, reduceCtorEq, Nat.reduceAdd, Nat.reduceSub, Nat.reduceMul, Int.reduceToNat, Nat.reduceLeDiff, encV_len, ok1_encV])
          | (refine xi rfl (by simp only [List.length_cons, List.length_nil]; omega) ?_; try simp only [push_cast, Int.cast_ofNat_Int, reduceIte, Nat.reduceEqDiff, reduceCtorEq, Nat.reduceAdd, Nat.reduceSub, Nat.reduceMul, Int.reduceToNat, Nat.reduceLeDiff, encV_len, ok1_encV])
          | (refine xs rfl (by simp only [List.length_cons, List.length_nil]; omega) ?_; try simp only [push_cast, Int.cast_ofNat_Int, reduceIte, Nat.reduceEqDiff, reduceCtorEq, Nat.reduceAdd, Nat.reduceSub, Nat.reduceMul, Int.reduceToNat, Nat.reduceLeDiff, encV_len, ok1_encV])
          | (refine xw ?_; simp only [push_cast, Int.cast_ofNat_Int, reduceIte, Nat.reduceEqDiff, reduceCtorEq, Nat.reduceAdd, Nat.reduceSub, Nat.reduceMul, Int.reduceToNat, Nat.reduceLeDiff, encV_len, ok1_encV])
          | (refine And.intro (PHeap.le_refl _) (And.intro (fun p hp => hp) ?_))
          | (refine And.intro (PHeap.le_refl _) (And.intro (fun p hp => List.mem_cons_of_mem _ hp) ?_))
          | (refine And.intro (PHeap.le_refl _) (And.intro (fun p hp => List.mem_cons_of_mem _ (List.mem_cons_of_mem _ hp)) ?_))
          | (refine And.intro (PHeap.le_refl _) (And.intro (mem_of_sub ?_) ?_); focus ((repeat' first | exact List.Sublist.refl _ | exact List.nil_sublist _ | exact List.sublist_append_left _ _ | refine List.Sublist.cons_cons _ ?_ | refine List.Sublist.append_left ?_ _ | refine List.sublist_append_of_sublist_right ?_ | refine List.Sublist.cons _ ?_); done); try simp only [push_cast, Int.cast_ofNat_Int, reduceIte, Nat.reduceEqDiff, reduceCtorEq, Nat.reduceAdd, Nat.reduceSub, Nat.reduceMul, Int.reduceToNat, Nat.reduceLeDiff, encV_len, ok1_encV])
          | (exfalso; simp at hc; done)
          | (exfalso; omega)
          | exact false
          | fail "stuck"
      · refine EV.any (t := R_view_New_15) _ (List.Sublist.cons_cons _ (List.sublist_append_right _ _)) ?_
        simp only [push_cast, Int.cast_ofNat_Int, reduceIte, Nat.reduceEqDiff, reduceCtorEq, Nat.reduceAdd, Nat.reduceSub, Nat.reduceMul, Int.reduceToNat, Nat.reduceLeDiff, R_view_New_15]
        repeat' first
            | refine EV.seq ?_
            | refine EV.skip ?_
            | refine EV.block ?_
            | refine EV.inBlock ?_
            | (refine EV.reg ?_; (conv => (arg 2; whnf)); simp only [push_cast, Int.cast_ofNat_Int, reduceIte, Nat.reduceEqDiff, reduceCtorEq, Nat.reduceAdd, Nat.reduceSub, Nat.reduceMul, Int.reduceToNat, Nat.reduceLeDiff, encV, hd_len])
            | (refine EV.any _ (List.Sublist.refl _) ?_; (conv => (arg 2; whnf)); simp only [push_cast, Int.cast_ofNat_Int, reduceIte, Nat.reduceEqDiff, reduceCtorEq, Nat.reduceAdd, Nat.reduceSub, Nat.reduceMul, Int.reduceToNat, Nat.reduceLeDiff, encV, hd_len])
            | (refine ConQ.call (view_none_q) ?_; try simp only [push_cast, Int.cast_ofNat_Int, reduceIte, Nat.reduceEqDiff, reduceCtorEq, Nat.reduceAdd, Nat.reduceSub, Nat.reduceMul, Int.reduceToNat, Nat.reduceLeDiff, encV, hd_len])
            | (refine Exists.intro _ (And.intro (view_none_q) ?_); try simp only [push_cast, Int.cast_ofNat_Int, reduceIte, Nat.reduceEqDiff, reduceCtorEq, Nat.reduceAdd, Nat.reduceSub, Nat.reduceMul, Int.reduceToNat, Nat.reduceLeDiff, encV, hd_len])
            | (refine Exists.intro _ (Exists.intro _ (Exists.intro _ (And.intro (rd_hd_th) ?_))); try simp only [push_cast, Int.cast_ofNat_Int, reduceIte, Nat.reduceEqDiff, reduceCtorEq, Nat.reduceAdd, Nat.reduceSub, Nat.reduceMul, Int.reduceToNat, Nat.reduceLeDiff, encV, hd_len])
            | (refine Exists.intro _ (And.intro (rd_hd_th) ?_); try simp only [push_cast, Int.cast_ofNat_Int, reduceIte, Nat.reduceEqDiff, reduceCtorEq, Nat.reduceAdd, Nat.reduceSub, Nat.reduceMul, Int.reduceToNat, Nat.reduceLeDiff, encV, hd_len])
            | assumption
            | (refine condW.merge ?_ (fun hc K' hK => ?_) ?_; rotate_left)
            | (refine condQ.mk ?_ (fun hc => ?_) ?_; rotate_left; (try simp only [decide_eq_true_eq, decide_eq_false_iff_not, Bool.not_eq_true', Bool.not_eq_false', Bool.and_eq_true, Bool.or_eq_true, Bool.and_eq_false_iff, Bool.or_eq_false_iff] at hc))
            | (with_reducible rfl)
            | ((refine EV.cond rfl (fun h => ?_) (fun h => ?_) <;> try simp only [reduceCtorEq, reduceIte, if_true, if_false, Bool.not_eq_true', Bool.not_eq_false', decide_eq_true_eq, decide_eq_false_iff_not, Bool.and_eq_true, Bool.or_eq_true, Bool.and_eq_false_iff, Bool.or_eq_false_iff] at h) <;> try (exfalso; first | exact h True.intro | (exact h; done) | omega))
            | (refine EV.exit rfl ?_)
            | (with_reducible intro b; try simp only [push_cast, Int.cast_ofNat_Int, reduceIte, Nat.reduceEqDiff, reduceCtorEq, Nat.reduceAdd, Nat.reduceSub, Nat.reduceMul, Int.reduceToNat, Nat.reduceLeDiff, encV, hd_len])
            | with_reducible intro b
            | (refine And.intro (by omega) ?_)
            | (refine Exists.intro _ (And.intro (rd_M (by assumption)) ?_); try simp only [push_cast, Int.cast_ofNat_Int, reduceIte, Nat.reduceEqDiff, reduceCtorEq, Nat.reduceAdd, Nat.reduceSub, Nat.reduceMul, Int.reduceToNat, Nat.reduceLeDiff, encV, hd_len])
            | (refine Exists.intro _ (Exists.intro _ (Exists.intro _ (And.intro (rd_M (by assumption)) ?_))); try simp only [push_cast, Int.cast_ofNat_Int, reduceIte, Nat.reduceEqDiff, reduceCtorEq, Nat.reduceAdd, Nat.reduceSub, Nat.reduceMul, Int.reduceToNat, Nat.reduceLeDiff, encV, hd_len])
            | (refine Exists.intro _ (And.intro (by assumption) ?_); try simp only [push_cast, Int.cast_ofNat_Int, reduceIte, Nat.reduceEqDiff, reduceCtorEq, Nat.reduceAdd, Nat.reduceSub, Nat.reduceMul, Int.reduceToNat, Nat.reduceLeDiff, encV, hd_len])
            | (refine Exists.intro _ (Exists.intro _ (Exists.intro _ (And.intro (by assumption) ?_))); try simp only [push_cast, Int.cast_ofNat_Int, reduceIte, Nat.reduceEqDiff, reduceCtorEq, Nat.reduceAdd, Nat.reduceSub, Nat.reduceMul, Int.reduceToNat, Nat.reduceLeDiff, encV, hd_len])
            | (refine xr rfl (by simp only [List.length_cons, List.length_nil]; omega) ?_; try simp only [push_cast, Int.cast_ofNat_Int, reduceIte, Nat.reduceEqDiff, reduceCtorEq, Nat.reduceAdd, Nat.reduceSub, Nat.reduceMul, Int.reduceToNat, Nat.reduceLeDiff, encV, hd_len])
            | (refine xi rfl (by simp only [List.length_cons, List.length_nil]; omega) ?_; try simp only [push_cast, Int.cast_ofNat_Int, reduceIte, Nat.reduceEqDiff, reduceCtorEq, Nat.reduceAdd, Nat.reduceSub, Nat.reduceMul, Int.reduceToNat, Nat.reduceLeDiff, encV, hd_len])
            | (refine xs rfl (by simp only [List.length_cons, List.length_nil]; omega) ?_; try simp only [push_cast, Int.cast_ofNat_Int, reduceIte, Nat.reduceEqDiff, reduceCtorEq, Nat.reduceAdd, Nat.reduceSub, Nat.reduceMul, Int.reduceToNat, Nat.reduceLeDiff, encV, hd_len])
            | (refine xw ?_; simp only [push_cast, Int.cast_ofNat_Int, reduceIte, Nat.reduceEqDiff, reduceCtorEq, Nat.reduceAdd, Nat.reduceSub, Nat.reduceMul, Int.reduceToNat, Nat.reduceLeDiff, encV, hd_len])
            | (refine And.intro (PHeap.le_refl _) (And.intro (fun p hp => hp) ?_))
            | (refine And.intro (PHeap.le_refl _) (And.intro (fun p hp => List.mem_cons_of_mem _ hp) ?_))
            | (refine And.intro (PHeap.le_refl _) (And.intro (fun p hp => List.mem_cons_of_mem _ (List.mem_cons_of_mem _ hp)) ?_))
            | (refine And.intro (PHeap.le_refl _) (And.intro (mem_of_sub ?_) ?_); focus ((repeat' first | exact List.Sublist.refl _ | exact List.nil_sublist _ | exact List.sublist_append_left _ _ | refine List.Sublist.cons_cons _ ?_ | refine List.Sublist.append_left ?_ _ | refine List.sublist_append_of_sublist_right ?_ | refine List.Sublist.cons _ ?_); done); try simp only [push_cast, Int.cast_ofNat_Int, reduceIte, Nat.reduceEqDiff, reduceCtorEq, Nat.reduceAdd, Nat.reduceSub, Nat.reduceMul, Int.reduceToNat, Nat.reduceLeDiff, encV, hd_len])
            | (exfalso; simp at hc; done)
            | (exfalso; omega)
            | exact false
            | fail "stuck"
        refine ⟨encPT (initT, none), Or.inr ⟨_, 0, rfl, rd_own' 0 rfl rfl (by simp)⟩, by simp [encPT, encThr, ok1_cons, ok1_nil, Value.oneCell'], Or.inl ⟨ot, _, rfl, _, hot, _, cat_pull [[_, _], osg 69 ot (newT i), osg 67 om (newC 3), newR lb 3] 1 (by simp), ?_, ?_, ?_⟩⟩
        · simp only [maxLen, List.length_map] at hi ⊢; omega
        · simp only [List.length_map] at hi; omega
        intro o1 ho1 _
        simp only [List.eraseIdx_cons_succ, List.eraseIdx_cons_zero, List.getElem_cons_succ, List.getElem_cons_zero, List.insertIdx_zero, List.insertIdx_succ_cons, cat_two, cat_one, cat_nil, List.nil_append, List.cons_append, List.append_assoc, List.append_nil]
        repeat' first
            | refine EV.seq ?_
            | refine EV.skip ?_
            | refine EV.block ?_
            | refine EV.inBlock ?_
            | (refine EV.reg ?_; (conv => (arg 2; whnf)); simp only [push_cast, Int.cast_ofNat_Int, reduceIte, Nat.reduceEqDiff, reduceCtorEq, Nat.reduceAdd, Nat.reduceSub, Nat.reduceMul, Int.reduceToNat, Nat.reduceLeDiff, hd_len, hd_st_th])
            | (refine EV.any _ (List.Sublist.refl _) ?_; (conv => (arg 2; whnf)); simp only [push_cast, Int.cast_ofNat_Int, reduceIte, Nat.reduceEqDiff, reduceCtorEq, Nat.reduceAdd, Nat.reduceSub, Nat.reduceMul, Int.reduceToNat, Nat.reduceLeDiff, hd_len, hd_st_th])
            | assumption
            | (refine condW.merge ?_ (fun hc K' hK => ?_) ?_; rotate_left)
            | (refine condQ.mk ?_ (fun hc => ?_) ?_; rotate_left; (try simp only [decide_eq_true_eq, decide_eq_false_iff_not, Bool.not_eq_true', Bool.not_eq_false', Bool.and_eq_true, Bool.or_eq_true, Bool.and_eq_false_iff, Bool.or_eq_false_iff] at hc))
            | (with_reducible rfl)
            | ((refine EV.cond rfl (fun h => ?_) (fun h => ?_) <;> try simp only [reduceCtorEq, reduceIte, if_true, if_false, Bool.not_eq_true', Bool.not_eq_false', decide_eq_true_eq, decide_eq_false_iff_not, Bool.and_eq_true, Bool.or_eq_true, Bool.and_eq_false_iff, Bool.or_eq_false_iff] at h) <;> try (exfalso; first | exact h True.intro | (exact h; done) | omega))
            | (refine EV.exit rfl ?_)
            | (with_reducible intro b; try simp only [push_cast, Int.cast_ofNat_Int, reduceIte, Nat.reduceEqDiff, reduceCtorEq, Nat.reduceAdd, Nat.reduceSub, Nat.reduceMul, Int.reduceToNat, Nat.reduceLeDiff, hd_len, hd_st_th])
            | with_reducible intro b
            | (refine And.intro (by omega) ?_)
            | (refine Exists.intro _ (And.intro (rd_M (by assumption)) ?_); try simp only [push_cast, Int.cast_ofNat_Int, reduceIte, Nat.reduceEqDiff, reduceCtorEq, Nat.reduceAdd, Nat.reduceSub, Nat.reduceMul, Int.reduceToNat, Nat.reduceLeDiff, hd_len, hd_st_th])
            | (refine Exists.intro _ (Exists.intro _ (Exists.intro _ (And.intro (rd_M (by assumption)) ?_))); try simp only [push_cast, Int.cast_ofNat_Int, reduceIte, Nat.reduceEqDiff, reduceCtorEq, Nat.reduceAdd, Nat.reduceSub, Nat.reduceMul, Int.reduceToNat, Nat.reduceLeDiff, hd_len, hd_st_th])
            | (refine Exists.intro _ (And.intro (by assumption) ?_); try simp only [push_cast, Int.cast_ofNat_Int, reduceIte, Nat.reduceEqDiff, reduceCtorEq, Nat.reduceAdd, Nat.reduceSub, Nat.reduceMul, Int.reduceToNat, Nat.reduceLeDiff, hd_len, hd_st_th])
            | (refine Exists.intro _ (Exists.intro _ (Exists.intro _ (And.intro (by assumption) ?_))); try simp only [push_cast, Int.cast_ofNat_Int, reduceIte, Nat.reduceEqDiff, reduceCtorEq, Nat.reduceAdd, Nat.reduceSub, Nat.reduceMul, Int.reduceToNat, Nat.reduceLeDiff, hd_len, hd_st_th])
            | (refine xr rfl (by simp only [List.length_cons, List.length_nil]; omega) ?_; try simp only [push_cast, Int.cast_ofNat_Int, reduceIte, Nat.reduceEqDiff, reduceCtorEq, Nat.reduceAdd, Nat.reduceSub, Nat.reduceMul, Int.reduceToNat, Nat.reduceLeDiff, hd_len, hd_st_th])
            | (refine xi rfl (by simp only [List.length_cons, List.length_nil]; omega) ?_; try simp only [push_cast, Int.cast_ofNat_Int, reduceIte, Nat.reduceEqDiff, reduceCtorEq, Nat.reduceAdd, Nat.reduceSub, Nat.reduceMul, Int.reduceToNat, Nat.reduceLeDiff, hd_len, hd_st_th])
            | (refine xs rfl (by simp only [List.length_cons, List.length_nil]; omega) ?_; try simp only [push_cast, Int.cast_ofNat_Int, reduceIte, Nat.reduceEqDiff, reduceCtorEq, Nat.reduceAdd, Nat.reduceSub, Nat.reduceMul, Int.reduceToNat, Nat.reduceLeDiff, hd_len, hd_st_th])
            | (refine xw ?_; simp only [push_cast, Int.cast_ofNat_Int, reduceIte, Nat.reduceEqDiff, reduceCtorEq, Nat.reduceAdd, Nat.reduceSub, Nat.reduceMul, Int.reduceToNat, Nat.reduceLeDiff, hd_len, hd_st_th])
            | (refine And.intro (PHeap.le_refl _) (And.intro (fun p hp => hp) ?_))
            | (refine And.intro (PHeap.le_refl _) (And.intro (fun p hp => List.mem_cons_of_mem _ hp) ?_))
            | (refine And.intro (PHeap.le_refl _) (And.intro (fun p hp => List.mem_cons_of_mem _ (List.mem_cons_of_mem _ hp)) ?_))
            | (refine And.intro (PHeap.le_refl _) (And.intro (mem_of_sub ?_) ?_); focus ((repeat' first | exact List.Sublist.refl _ | exact List.nil_sublist _ | exact List.sublist_append_left _ _ | refine List.Sublist.cons_cons _ ?_ | refine List.Sublist.append_left ?_ _ | refine List.sublist_append_of_sublist_right ?_ | refine List.Sublist.cons _ ?_); done); try simp only [push_cast, Int.cast_ofNat_Int, reduceIte, Nat.reduceEqDiff, reduceCtorEq, Nat.reduceAdd, Nat.reduceSub, Nat.reduceMul, Int.reduceToNat, Nat.reduceLeDiff, hd_len, hd_st_th])
            | (exfalso; simp at hc; done)
            | (exfalso; omega)
            | exact false
            | fail "stuck"
        refine EV.permG ?_ (cat_move [[_, _], osg 67 om (newC 3), newR lb 3, osg 69 o1 _] 3 1 (by simp) (by simp))
        simp only [List.eraseIdx_cons_succ, List.eraseIdx_cons_zero, List.getElem_cons_succ, List.getElem_cons_zero, List.insertIdx_zero, List.insertIdx_succ_cons, cat_two, cat_one, cat_nil, List.nil_append, List.cons_append, List.append_assoc, List.append_nil]
        simp only [List.length_map] at hi
        have hlt : i < (List.map expT ts).length := by simp only [List.length_map] at h ⊢; omega
        have ih3 := ih2 (i + 1, o1) ⟨by dsimp only; omega, by dsimp only; rw [newT_upd]; exact ho1⟩ (by dsimp only; omega)
        simp only [newT_upd] at ih3
        refine EV.to ih3 ?_ (by (repeat' first | exact List.Sublist.refl _ | exact List.nil_sublist _ | exact List.sublist_append_left _ _ | refine List.Sublist.cons_cons _ ?_ | refine List.Sublist.append_left ?_ _ | refine List.sublist_append_of_sublist_right ?_ | refine List.Sublist.cons _ ?_))
        repeat' first
          | (refine List.forall_mem_cons.2 (And.intro ?_ ?_))
          | (intro _ hnil; cases hnil; done)
          | rfl
          | (refine env_w64 rfl (by first | rfl | (push_cast; first | rfl | omega)) (by omega) (by omega); done)
          | (simp (disch := omega) only [get_cons, get_nil, reduceIte, Nat.reduceEqDiff, Option.some.injEq, Value.int.injEq, w64, Int.natCast_add, Int.natCast_one, Int.cast_ofNat_Int, Int.natCast_zero]; done)
      · have e : i = (List.map expT ts).length := by omega
        subst e
        obtain ⟨_, hne, hall⟩ := checkP_zero hck
        have htl : (List.map expT ts).length = ts.length := by simp
        obtain ⟨⟨mb, mc, ms⟩, rfl⟩ : ∃ x, om = some x := by
          cases om with
          | none => exact absurd hom.1 (by omega)
          | some x => exact ⟨x, rfl⟩
        obtain ⟨⟨tb, tc, tsp⟩, rfl⟩ : ∃ x, ot = some x := by
          cases ot with
          | none => exact absurd hot.1 (by omega)
          | some x => exact ⟨x, rfl⟩
        refine EV.to (ρ' := [(2, pv mp 0), (3, vi 0)]) (G' := PM.G ⟨a', c', (mb, mc, ms), fun j => (lb j, 1, []), (tb, tc, tsp), List.map expT ts, (VM.new (List.map expT ts)).msgs, (VM.new (List.map expT ts)).line, noV, List.replicate (List.map expT ts).length (initT, none)⟩ mp) ?_ ?env2 ?_
        case env2 =>
          repeat' first
            | (refine List.forall_mem_cons.2 (And.intro ?_ ?_))
            | (intro _ hnil; cases hnil; done)
            | rfl
            | (refine env_w64 rfl (by first | rfl | (push_cast; first | rfl | omega)) (by omega) (by omega); done)
            | (simp (disch := omega) only [get_cons, get_nil, reduceIte, Nat.reduceEqDiff, Option.some.injEq, Value.int.injEq, w64, Int.natCast_add, Int.natCast_one, Int.cast_ofNat_Int, Int.natCast_zero]; done)
        · refine EV.ret R_view_New_ok ?_
          simp only [push_cast, Int.cast_ofNat_Int, reduceIte, Nat.reduceEqDiff, reduceCtorEq, Nat.reduceAdd, Nat.reduceSub, Nat.reduceMul, Int.reduceToNat, Nat.reduceLeDiff, R_view_New]
          refine .inr ⟨hck, mp, rfl, _, rfl, ⟨?_, ?_, ?_, ?_⟩, ?_, hs1.mono hMN⟩
          · exact hom
          · intro l hl
            match l, hl with
            | 0, _ => exact ⟨rfl, rfl, Nat.le_refl _, by simp [maxLen]⟩
            | 1, _ => exact ⟨rfl, rfl, Nat.le_refl _, by simp [maxLen]⟩
            | 2, _ => exact ⟨rfl, rfl, Nat.le_refl _, by simp [maxLen]⟩
          · dsimp only
            rw [List.length_replicate]
            exact hot
          · intro q hq
            rw [List.eq_of_mem_replicate hq]
            exact ⟨rfl, rfl⟩
          · simp only [PM.vm, VM.new, List.map_replicate, List.length_map, List.map_const', initT]
        · have e1 : hdL (.slice a' (List.map expT ts).length c') (rowV mb (VM.new (List.map expT ts)).msgs.length mc) (lnH (VM.new (List.map expT ts)).line fun j => (lb j, 1, [])) (rowV tb (List.replicate (List.map expT ts).length (initT, (none : Vec))).length tc) noV =
              hdL (.slice a' (List.map expT ts).length c') (osv (some (mb, mc, ms)) 3) (newL lb 3) (osv (some (tb, tc, tsp)) (List.map expT ts).length) noV := by
            simp [hdL, lnH, newL, VM.new, oad, ocap]
          have e3 : List.flatMap encMsg (VM.new (List.map expT ts)).msgs = newC 3 := by simp [newC, VM.new, initM, List.range_succ]
          have e4 : (lnG (VM.new (List.map expT ts)).line fun j => (lb j, 1, [])) = newR lb 3 := by simp [lnG, newR, VM.new, List.range_succ]
          have e5 : rdsG (List.replicate (List.map expT ts).length (initT, (none : Vec))) = [] := by simp [rdsG, osg]
          simp only [PM.G]
          rw [e1, e3, e4, e5, List.append_nil]
          exact List.Sublist.refl _

end
end Go.EV

namespace Go.EV

theorem okOpE_exp {o : OpV} (h : okOp o = true) : ∀ x ∈ expOp o, okOpE x := by
  obtain ⟨h1, h2, h3⟩ := (okOp_iff o).1 h
  have hk : 0 ≤ o.kind ∧ o.kind < 6 ∧ isOrderP o.ord = true := by simp [mayR] at h1; exact ⟨h1.1.1, h1.1.2, h1.2⟩
  have hl : 0 ≤ o.loc ∧ o.loc < 3 := by
    simp only [fitsP, Bool.and_eq_true, decide_eq_true_eq] at h3
    exact h3.1
  intro x hx
  simp only [expOp] at hx
  split at hx
  · simp at hx; subst hx
    exact ⟨hk.1, hk.2.1, hl.1, hl.2, hk.2.2⟩
  · simp at hx
    rcases hx with rfl | rfl | rfl
    · exact ⟨by decide, by decide, by decide, by decide, by decide⟩
    · refine ⟨hk.1, hk.2.1, hl.1, hl.2, ?_⟩
      have : plainP o.kind o.ord = 1 ∨ plainP o.kind o.ord = 2 ∨ plainP o.kind o.ord = 3 ∨ plainP o.kind o.ord = o.ord := by
        simp only [plainP]; repeat' split
        all_goals simp
      dsimp only
      rcases this with h | h | h | h <;> rw [h]
      · decide
      · decide
      · decide
      · exact hk.2.2
    · exact ⟨by decide, by decide, by decide, by decide, by decide⟩

theorem expT_len (l : List OpV) : (expT l).length ≤ 3 * l.length := by
  induction l with
  | nil => simp [expT]
  | cons o l ih =>
    have := expOp_len o
    simp only [expT, List.flatMap_cons, List.length_append, List.length_cons] at ih ⊢
    omega

theorem flat_mem_len {ts : List (List OpV)} {l : List OpV} (h : l ∈ ts) : l.length ≤ ts.flatten.length := by
  induction ts with
  | nil => cases h
  | cons x ts ih =>
    rw [List.flatten_cons, List.length_append]
    rcases List.mem_cons.1 h with rfl | h
    · omega
    · have := ih h; omega

theorem new_inv {ts : List (List OpV)} (hck : checkP ts = 0) (hb : ts.flatten.length < 300000) {B : Nat} (hB : B < 1000000) (h3 : 3 ≤ B) : (VM.new (ts.map expT)).Inv B := by
  obtain ⟨hl, hne, hall⟩ := checkP_zero hck
  have hts : ts.length ≤ 3 := by
    simp only [limitsP] at hl
    simp at hl; omega
  refine ⟨⟨hB, by simp [VM.new], by simp [VM.new]; omega, by simpa [VM.new] using hts, ?_, ?_, ?_, ?_, ?_, by simpa [VM.new] using h3, ?_, ?_⟩, ?_, ?_⟩
  · intro i hi
    have : (VM.new (ts.map expT)).thr[i]! = ⟨noV, noV, noV, [], 0⟩ := by
      rw [getB hi]
      simp [VM.new]
    rw [this]; exact Nat.zero_le _
  · intro l hl o ho
    obtain ⟨l0, hl0, rfl⟩ := List.mem_map.1 hl
    simp only [expT, List.mem_flatMap] at ho
    obtain ⟨o0, ho0, hx⟩ := ho
    exact okOpE_exp (List.all_eq_true.1 hall o0 (List.mem_flatten.2 ⟨l0, hl0, ho0⟩)) o hx
  · intro l hl
    obtain ⟨l0, hl0, rfl⟩ := List.mem_map.1 hl
    have h1 := expT_len l0
    have h2 := flat_mem_len hl0
    omega
  · intro l hl; simp [VM.new, hl]
  · intro l hl; simp [VM.new, hl]; omega
  · intro l hl n hn
    simp [VM.new, hl] at hn ⊢; omega
  · intro t ht
    obtain ⟨_, _, rfl⟩ := List.mem_map.1 (show t ∈ (ts.map expT).map fun _ => (⟨noV, noV, noV, [], 0⟩ : Thr) from ht)
    exact Nat.zero_le _
  · intro l hl; simp [VM.new, hl]
  · intro l hl n hn
    simp [VM.new, hl] at hn
    subst hn
    match l, hl with
    | 0, _ => rfl
    | 1, _ => rfl
    | 2, _ => rfl

end Go.EV

namespace Go.EV
open Go.Proofs

section
variable {P : Program} {C : Cx P} {f : FuncId} {args : Array Value} {M : PHeap} {G G2 G3 : Own} {K : Value → PHeap → Own → Prop}

theorem CallW.freeze (hG : G.Perm (G2 ++ G3)) (h : CallW C f args (M.add G2) G3 K) : CallW C f args M G K :=
  ⟨h.1, fun w hs cs => h.2 w (hs.perm hG).freeze cs⟩

end

def saneL : List (List OpV) := [[⟨1, 0, 1, 0, 0⟩, ⟨0, 0, 0, 0, 0⟩]]
theorem sane_ck : checkP saneL = 0 := by decide
def sane0 : VM := VM.new (saneL.map expT)
def sane1 : VM := (sane0.step 0 0).1
def sane2 : VM := (sane1.step 0 0).1
theorem sane_e0 : (sane0.step 0 0).2 = 0 := by rfl
theorem sane_c1 : sane1.choicesR 0 = (1, 0) := by rfl
theorem sane_e1 : (sane1.step 0 0).2 = 0 := by rfl
theorem sane_over : sane2.over = true := by rfl

section
variable {M : PHeap}

set_option maxRecDepth 8000 in
theorem sane_q : ConQ Try.prog 9 #[] M (vb true) := by
  have iv0 : sane0.Inv 10 := new_inv sane_ck (by decide) (by decide) (by decide)
  have iv1 : sane1.Inv 12 := (step_inv iv0 (by decide) 0 0).1
  have iv2 : sane2.Inv 14 := (step_inv iv1 (by decide) 0 0).1
  refine Con.enter R_locklesslaw05_sane_ok (args := []) (by simp [R_locklesslaw05_sane]) fun w0 => ?_
  simp only [R_locklesslaw05_sane, argE]
  repeat' first
      | refine EV.seq ?_
      | refine EV.skip ?_
      | refine EV.block ?_
      | refine EV.inBlock ?_
      | (refine EV.reg ?_; (conv => (arg 2; whnf)); simp only [push_cast, Int.cast_ofNat_Int, reduceIte, Nat.reduceEqDiff, reduceCtorEq, Nat.reduceAdd, Nat.reduceSub, Nat.reduceMul, Int.reduceToNat, Nat.reduceLeDiff])
      | (refine EV.any _ (List.Sublist.refl _) ?_; (conv => (arg 2; whnf)); simp only [push_cast, Int.cast_ofNat_Int, reduceIte, Nat.reduceEqDiff, reduceCtorEq, Nat.reduceAdd, Nat.reduceSub, Nat.reduceMul, Int.reduceToNat, Nat.reduceLeDiff])
      | assumption
      | (refine condW.merge ?_ (fun hc K' hK => ?_) ?_; rotate_left)
      | (refine condQ.mk ?_ (fun hc => ?_) ?_; rotate_left; (try simp only [decide_eq_true_eq, decide_eq_false_iff_not, Bool.not_eq_true', Bool.not_eq_false', Bool.and_eq_true, Bool.or_eq_true, Bool.and_eq_false_iff, Bool.or_eq_false_iff] at hc))
      | (with_reducible rfl)
      | ((refine EV.cond rfl (fun h => ?_) (fun h => ?_) <;> try simp only [reduceCtorEq, reduceIte, if_true, if_false, Bool.not_eq_true', Bool.not_eq_false', decide_eq_true_eq, decide_eq_false_iff_not, Bool.and_eq_true, Bool.or_eq_true, Bool.and_eq_false_iff, Bool.or_eq_false_iff] at h) <;> try (exfalso; first | exact h True.intro | (exact h; done) | omega))
      | (refine EV.exit rfl ?_)
      | (with_reducible intro b; try simp only [push_cast, Int.cast_ofNat_Int, reduceIte, Nat.reduceEqDiff, reduceCtorEq, Nat.reduceAdd, Nat.reduceSub, Nat.reduceMul, Int.reduceToNat, Nat.reduceLeDiff])
      | with_reducible intro b
      | (refine And.intro (by omega) ?_)
      | (refine Exists.intro _ (And.intro (rd_M (by assumption)) ?_); try simp only [push_cast, Int.cast_ofNat_Int, reduceIte, Nat.reduceEqDiff, reduceCtorEq, Nat.reduceAdd, Nat.reduceSub, Nat.reduceMul, Int.reduceToNat, Nat.reduceLeDiff])
      | (refine Exists.intro _ (Exists.intro _ (Exists.intro _ (And.intro (rd_M (by assumption)) ?_))); try simp only [push_cast, Int.cast_ofNat_Int, reduceIte, Nat.reduceEqDiff, reduceCtorEq, Nat.reduceAdd, Nat.reduceSub, Nat.reduceMul, Int.reduceToNat, Nat.reduceLeDiff])
      | (refine Exists.intro _ (And.intro (by assumption) ?_); try simp only [push_cast, Int.cast_ofNat_Int, reduceIte, Nat.reduceEqDiff, reduceCtorEq, Nat.reduceAdd, Nat.reduceSub, Nat.reduceMul, Int.reduceToNat, Nat.reduceLeDiff])
      | (refine Exists.intro _ (Exists.intro _ (Exists.intro _ (And.intro (by assumption) ?_))); try simp only [push_cast, Int.cast_ofNat_Int, reduceIte, Nat.reduceEqDiff, reduceCtorEq, Nat.reduceAdd, Nat.reduceSub, Nat.reduceMul, Int.reduceToNat, Nat.reduceLeDiff])
      | (refine xr rfl (by simp only [List.length_cons, List.length_nil]; omega) ?_; try simp only [push_cast, Int.cast_ofNat_Int, reduceIte, Nat.reduceEqDiff, reduceCtorEq, Nat.reduceAdd, Nat.reduceSub, Nat.reduceMul, Int.reduceToNat, Nat.reduceLeDiff])
      | (refine xi rfl (by simp only [List.length_cons, List.length_nil]; omega) ?_; try simp only [push_cast, Int.cast_ofNat_Int, reduceIte, Nat.reduceEqDiff, reduceCtorEq, Nat.reduceAdd, Nat.reduceSub, Nat.reduceMul, Int.reduceToNat, Nat.reduceLeDiff])
      | (refine xs rfl (by simp only [List.length_cons, List.length_nil]; omega) ?_; try simp only [push_cast, Int.cast_ofNat_Int, reduceIte, Nat.reduceEqDiff, reduceCtorEq, Nat.reduceAdd, Nat.reduceSub, Nat.reduceMul, Int.reduceToNat, Nat.reduceLeDiff])
      | (refine xw ?_; simp only [push_cast, Int.cast_ofNat_Int, reduceIte, Nat.reduceEqDiff, reduceCtorEq, Nat.reduceAdd, Nat.reduceSub, Nat.reduceMul, Int.reduceToNat, Nat.reduceLeDiff])
      | (refine And.intro (PHeap.le_refl _) (And.intro (fun p hp => hp) ?_))
      | (refine And.intro (PHeap.le_refl _) (And.intro (fun p hp => List.mem_cons_of_mem _ hp) ?_))
      | (refine And.intro (PHeap.le_refl _) (And.intro (fun p hp => List.mem_cons_of_mem _ (List.mem_cons_of_mem _ hp)) ?_))
      | (refine And.intro (PHeap.le_refl _) (And.intro (mem_of_sub ?_) ?_); focus ((repeat' first | exact List.Sublist.refl _ | exact List.nil_sublist _ | exact List.sublist_append_left _ _ | refine List.Sublist.cons_cons _ ?_ | refine List.Sublist.append_left ?_ _ | refine List.sublist_append_of_sublist_right ?_ | refine List.Sublist.cons _ ?_); done); try simp only [push_cast, Int.cast_ofNat_Int, reduceIte, Nat.reduceEqDiff, reduceCtorEq, Nat.reduceAdd, Nat.reduceSub, Nat.reduceMul, Int.reduceToNat, Nat.reduceLeDiff])
      | (exfalso; simp at hc; done)
      | (exfalso; omega)
      | exact false
      | fail "stuck"
  rename_i b1
  have hs : SlSl (M.add [(b, Cl 53 [.slice (some ⟨b1, 0, none⟩) 2 2]), (b1, Cl 55 [vi 1, vi 0, vi 1, vi 0, vi 0, vi 0, vi 0, vi 0, vi 0, vi 0])]) 5 encOp (.slice (some ⟨b, 0, none⟩) 1 1) saneL := by
    refine ⟨_, _, [.slice (some ⟨b1, 0, none⟩) 2 2], rfl, rfl, Or.inr ⟨b, 0, rfl, rd_own' 0 rfl rfl (by simp [saneL])⟩, fun i h h' => ?_⟩
    match i, h' with
    | 0, _ => exact ⟨_, _, rfl, Or.inr ⟨b1, 0, rfl, rd_own' 1 rfl rfl (by simp [saneL])⟩⟩
  refine CallW.freeze (G3 := []) (by rw [List.append_nil]) ?_
  refine Con.callA (G1 := []) (view_New_c saneL _ hs (by decide) (by decide)) (List.Perm.refl _) ?_
  rintro v M1 G1 hM1 (⟨h, _⟩ | ⟨_, mp, p, rfl, rfl, ok, hvm, hpg⟩)
  · exact absurd sane_ck h
  have hv0 : p.vm = sane0 := hvm
  simp only [push_cast, Int.cast_ofNat_Int, reduceIte, Nat.reduceEqDiff, reduceCtorEq, Nat.reduceAdd, Nat.reduceSub, Nat.reduceMul, Int.reduceToNat, Nat.reduceLeDiff]
  repeat' first
      | refine EV.seq ?_
      | refine EV.skip ?_
      | refine EV.block ?_
      | refine EV.inBlock ?_
      | (refine EV.reg ?_; (conv => (arg 2; whnf)); simp only [push_cast, Int.cast_ofNat_Int, reduceIte, Nat.reduceEqDiff, reduceCtorEq, Nat.reduceAdd, Nat.reduceSub, Nat.reduceMul, Int.reduceToNat, Nat.reduceLeDiff])
      | (refine EV.any _ (List.Sublist.refl _) ?_; (conv => (arg 2; whnf)); simp only [push_cast, Int.cast_ofNat_Int, reduceIte, Nat.reduceEqDiff, reduceCtorEq, Nat.reduceAdd, Nat.reduceSub, Nat.reduceMul, Int.reduceToNat, Nat.reduceLeDiff])
      | (refine condW.intro (fun hc => ?_) (fun hc => ?_) <;> try simp only [ne_eq, Bool.not_true, Bool.not_false, not_true_eq_false, not_false_eq_true, reduceCtorEq] at hc <;> try (exfalso; first | exact hc | omega | (simp at hc; done)))
      | assumption
      | (refine condQ.mk ?_ (fun hc => ?_) ?_; rotate_left; (try simp only [decide_eq_true_eq, decide_eq_false_iff_not, Bool.not_eq_true', Bool.not_eq_false', Bool.and_eq_true, Bool.or_eq_true, Bool.and_eq_false_iff, Bool.or_eq_false_iff] at hc))
      | (with_reducible rfl)
      | ((refine EV.cond rfl (fun h => ?_) (fun h => ?_) <;> try simp only [reduceCtorEq, reduceIte, if_true, if_false, Bool.not_eq_true', Bool.not_eq_false', decide_eq_true_eq, decide_eq_false_iff_not, Bool.and_eq_true, Bool.or_eq_true, Bool.and_eq_false_iff, Bool.or_eq_false_iff] at h) <;> try (exfalso; first | exact h True.intro | (exact h; done) | omega))
      | (refine EV.exit rfl ?_)
      | (with_reducible intro b; try simp only [push_cast, Int.cast_ofNat_Int, reduceIte, Nat.reduceEqDiff, reduceCtorEq, Nat.reduceAdd, Nat.reduceSub, Nat.reduceMul, Int.reduceToNat, Nat.reduceLeDiff])
      | with_reducible intro b
      | (refine And.intro (by omega) ?_)
      | (refine Exists.intro _ (And.intro (rd_M (by assumption)) ?_); try simp only [push_cast, Int.cast_ofNat_Int, reduceIte, Nat.reduceEqDiff, reduceCtorEq, Nat.reduceAdd, Nat.reduceSub, Nat.reduceMul, Int.reduceToNat, Nat.reduceLeDiff])
      | (refine Exists.intro _ (Exists.intro _ (Exists.intro _ (And.intro (rd_M (by assumption)) ?_))); try simp only [push_cast, Int.cast_ofNat_Int, reduceIte, Nat.reduceEqDiff, reduceCtorEq, Nat.reduceAdd, Nat.reduceSub, Nat.reduceMul, Int.reduceToNat, Nat.reduceLeDiff])
      | (refine Exists.intro _ (And.intro (by assumption) ?_); try simp only [push_cast, Int.cast_ofNat_Int, reduceIte, Nat.reduceEqDiff, reduceCtorEq, Nat.reduceAdd, Nat.reduceSub, Nat.reduceMul, Int.reduceToNat, Nat.reduceLeDiff])
      | (refine Exists.intro _ (Exists.intro _ (Exists.intro _ (And.intro (by assumption) ?_))); try simp only [push_cast, Int.cast_ofNat_Int, reduceIte, Nat.reduceEqDiff, reduceCtorEq, Nat.reduceAdd, Nat.reduceSub, Nat.reduceMul, Int.reduceToNat, Nat.reduceLeDiff])
      | (refine xr rfl (by simp only [List.length_cons, List.length_nil]; omega) ?_; try simp only [push_cast, Int.cast_ofNat_Int, reduceIte, Nat.reduceEqDiff, reduceCtorEq, Nat.reduceAdd, Nat.reduceSub, Nat.reduceMul, Int.reduceToNat, Nat.reduceLeDiff])
      | (refine xi rfl (by simp only [List.length_cons, List.length_nil]; omega) ?_; try simp only [push_cast, Int.cast_ofNat_Int, reduceIte, Nat.reduceEqDiff, reduceCtorEq, Nat.reduceAdd, Nat.reduceSub, Nat.reduceMul, Int.reduceToNat, Nat.reduceLeDiff])
      | (refine xs rfl (by simp only [List.length_cons, List.length_nil]; omega) ?_; try simp only [push_cast, Int.cast_ofNat_Int, reduceIte, Nat.reduceEqDiff, reduceCtorEq, Nat.reduceAdd, Nat.reduceSub, Nat.reduceMul, Int.reduceToNat, Nat.reduceLeDiff])
      | (refine xw ?_; simp only [push_cast, Int.cast_ofNat_Int, reduceIte, Nat.reduceEqDiff, reduceCtorEq, Nat.reduceAdd, Nat.reduceSub, Nat.reduceMul, Int.reduceToNat, Nat.reduceLeDiff])
      | (refine And.intro (PHeap.le_refl _) (And.intro (fun p hp => hp) ?_))
      | (refine And.intro (PHeap.le_refl _) (And.intro (fun p hp => List.mem_cons_of_mem _ hp) ?_))
      | (refine And.intro (PHeap.le_refl _) (And.intro (fun p hp => List.mem_cons_of_mem _ (List.mem_cons_of_mem _ hp)) ?_))
      | (refine And.intro (PHeap.le_refl _) (And.intro (mem_of_sub ?_) ?_); focus ((repeat' first | exact List.Sublist.refl _ | exact List.nil_sublist _ | exact List.sublist_append_left _ _ | refine List.Sublist.cons_cons _ ?_ | refine List.Sublist.append_left ?_ _ | refine List.sublist_append_of_sublist_right ?_ | refine List.Sublist.cons _ ?_); done); try simp only [push_cast, Int.cast_ofNat_Int, reduceIte, Nat.reduceEqDiff, reduceCtorEq, Nat.reduceAdd, Nat.reduceSub, Nat.reduceMul, Int.reduceToNat, Nat.reduceLeDiff])
      | (exfalso; simp at hc; done)
      | (exfalso; omega)
      | exact false
      | fail "stuck"
  have wf0 : p.vm.Wf 10 := hv0 ▸ iv0.wf
  refine Con.callA (view_Step_c p ok hpg wf0 (by decide) 0 0) (by rw [List.append_nil]) ?_
  rintro v M2 G2 hM2 ⟨rfl, p2, rfl, ok2, hvm2, e1, e2⟩
  have hv1 : p2.vm = sane1 := by rw [hvm2, hv0]; rfl
  have hpg2 : SlSl M2 5 encOp (.slice p2.pg p2.prog.length p2.pc) p2.prog := by
    have : p2.prog = p.prog := (congrArg VM.prog hv1).trans (((step_inv iv0 (by decide) 0 0).2.pr).trans (congrArg VM.prog hv0).symm)
    rw [e1, e2, this]; exact hpg.mono hM2
  have wf1 : p2.vm.Wf 12 := hv1 ▸ iv1.wf
  rw [hv0, sane_e0]
  simp only [push_cast, Int.cast_ofNat_Int, reduceIte, Nat.reduceEqDiff, reduceCtorEq, Nat.reduceAdd, Nat.reduceSub, Nat.reduceMul, Int.reduceToNat, Nat.reduceLeDiff]
  repeat' first
      | refine EV.seq ?_
      | refine EV.skip ?_
      | refine EV.block ?_
      | refine EV.inBlock ?_
      | (refine EV.reg ?_; (conv => (arg 2; whnf)); simp only [push_cast, Int.cast_ofNat_Int, reduceIte, Nat.reduceEqDiff, reduceCtorEq, Nat.reduceAdd, Nat.reduceSub, Nat.reduceMul, Int.reduceToNat, Nat.reduceLeDiff, hv1, sane_c1])
      | (refine EV.any _ (List.Sublist.refl _) ?_; (conv => (arg 2; whnf)); simp only [push_cast, Int.cast_ofNat_Int, reduceIte, Nat.reduceEqDiff, reduceCtorEq, Nat.reduceAdd, Nat.reduceSub, Nat.reduceMul, Int.reduceToNat, Nat.reduceLeDiff, hv1, sane_c1])
      | (refine ConQ.call (view_Choices_q (PM.rdM ok2 hpg2 (fun q hq => by simp [hq])) wf1 _) ?_; try simp only [push_cast, Int.cast_ofNat_Int, reduceIte, Nat.reduceEqDiff, reduceCtorEq, Nat.reduceAdd, Nat.reduceSub, Nat.reduceMul, Int.reduceToNat, Nat.reduceLeDiff, hv1, sane_c1])
      | (refine Exists.intro _ (And.intro (view_Choices_q (PM.rdM ok2 hpg2 (fun q hq => by simp [hq])) wf1 _) ?_); try simp only [push_cast, Int.cast_ofNat_Int, reduceIte, Nat.reduceEqDiff, reduceCtorEq, Nat.reduceAdd, Nat.reduceSub, Nat.reduceMul, Int.reduceToNat, Nat.reduceLeDiff, hv1, sane_c1])
      | (refine condW.intro (fun hc => ?_) (fun hc => ?_) <;> try simp only [ne_eq, Bool.not_true, Bool.not_false, not_true_eq_false, not_false_eq_true, reduceCtorEq] at hc <;> try (exfalso; first | exact hc | omega | (simp at hc; done)))
      | assumption
      | (refine condQ.mk ?_ (fun hc => ?_) ?_; rotate_left; (try simp only [decide_eq_true_eq, decide_eq_false_iff_not, Bool.not_eq_true', Bool.not_eq_false', Bool.and_eq_true, Bool.or_eq_true, Bool.and_eq_false_iff, Bool.or_eq_false_iff] at hc))
      | (with_reducible rfl)
      | ((refine EV.cond rfl (fun h => ?_) (fun h => ?_) <;> try simp only [reduceCtorEq, reduceIte, if_true, if_false, Bool.not_eq_true', Bool.not_eq_false', decide_eq_true_eq, decide_eq_false_iff_not, Bool.and_eq_true, Bool.or_eq_true, Bool.and_eq_false_iff, Bool.or_eq_false_iff] at h) <;> try (exfalso; first | exact h True.intro | (exact h; done) | omega))
      | (refine EV.exit rfl ?_)
      | (with_reducible intro b; try simp only [push_cast, Int.cast_ofNat_Int, reduceIte, Nat.reduceEqDiff, reduceCtorEq, Nat.reduceAdd, Nat.reduceSub, Nat.reduceMul, Int.reduceToNat, Nat.reduceLeDiff, hv1, sane_c1])
      | with_reducible intro b
      | (refine And.intro (by omega) ?_)
      | (refine Exists.intro _ (And.intro (rd_M (by assumption)) ?_); try simp only [push_cast, Int.cast_ofNat_Int, reduceIte, Nat.reduceEqDiff, reduceCtorEq, Nat.reduceAdd, Nat.reduceSub, Nat.reduceMul, Int.reduceToNat, Nat.reduceLeDiff, hv1, sane_c1])
      | (refine Exists.intro _ (Exists.intro _ (Exists.intro _ (And.intro (rd_M (by assumption)) ?_))); try simp only [push_cast, Int.cast_ofNat_Int, reduceIte, Nat.reduceEqDiff, reduceCtorEq, Nat.reduceAdd, Nat.reduceSub, Nat.reduceMul, Int.reduceToNat, Nat.reduceLeDiff, hv1, sane_c1])
      | (refine Exists.intro _ (And.intro (by assumption) ?_); try simp only [push_cast, Int.cast_ofNat_Int, reduceIte, Nat.reduceEqDiff, reduceCtorEq, Nat.reduceAdd, Nat.reduceSub, Nat.reduceMul, Int.reduceToNat, Nat.reduceLeDiff, hv1, sane_c1])
      | (refine Exists.intro _ (Exists.intro _ (Exists.intro _ (And.intro (by assumption) ?_))); try simp only [push_cast, Int.cast_ofNat_Int, reduceIte, Nat.reduceEqDiff, reduceCtorEq, Nat.reduceAdd, Nat.reduceSub, Nat.reduceMul, Int.reduceToNat, Nat.reduceLeDiff, hv1, sane_c1])
      | (refine xr rfl (by simp only [List.length_cons, List.length_nil]; omega) ?_; try simp only [push_cast, Int.cast_ofNat_Int, reduceIte, Nat.reduceEqDiff, reduceCtorEq, Nat.reduceAdd, Nat.reduceSub, Nat.reduceMul, Int.reduceToNat, Nat.reduceLeDiff, hv1, sane_c1])
      | (refine xi rfl (by simp only [List.length_cons, List.length_nil]; omega) ?_; try simp only [push_cast, Int.cast_ofNat_Int, reduceIte, Nat.reduceEqDiff, reduceCtorEq, Nat.reduceAdd, Nat.reduceSub, Nat.reduceMul, Int.reduceToNat, Nat.reduceLeDiff, hv1, sane_c1])
      | (refine xs rfl (by simp only [List.length_cons, List.length_nil]; omega) ?_; try simp only [push_cast, Int.cast_ofNat_Int, reduceIte, Nat.reduceEqDiff, reduceCtorEq, Nat.reduceAdd, Nat.reduceSub, Nat.reduceMul, Int.reduceToNat, Nat.reduceLeDiff, hv1, sane_c1])
      | (refine xw ?_; simp only [push_cast, Int.cast_ofNat_Int, reduceIte, Nat.reduceEqDiff, reduceCtorEq, Nat.reduceAdd, Nat.reduceSub, Nat.reduceMul, Int.reduceToNat, Nat.reduceLeDiff, hv1, sane_c1])
      | (refine And.intro (PHeap.le_refl _) (And.intro (fun p hp => hp) ?_))
      | (refine And.intro (PHeap.le_refl _) (And.intro (fun p hp => List.mem_cons_of_mem _ hp) ?_))
      | (refine And.intro (PHeap.le_refl _) (And.intro (fun p hp => List.mem_cons_of_mem _ (List.mem_cons_of_mem _ hp)) ?_))
      | (refine And.intro (PHeap.le_refl _) (And.intro (mem_of_sub ?_) ?_); focus ((repeat' first | exact List.Sublist.refl _ | exact List.nil_sublist _ | exact List.sublist_append_left _ _ | refine List.Sublist.cons_cons _ ?_ | refine List.Sublist.append_left ?_ _ | refine List.sublist_append_of_sublist_right ?_ | refine List.Sublist.cons _ ?_); done); try simp only [push_cast, Int.cast_ofNat_Int, reduceIte, Nat.reduceEqDiff, reduceCtorEq, Nat.reduceAdd, Nat.reduceSub, Nat.reduceMul, Int.reduceToNat, Nat.reduceLeDiff, hv1, sane_c1])
      | (exfalso; simp at hc; done)
      | (exfalso; omega)
      | exact false
      | fail "stuck"
  refine Con.callA (view_Step_c p2 ok2 hpg2 wf1 (by decide) 0 0) (by rw [List.append_nil]) ?_
  rintro v M3 G3 hM3 ⟨rfl, p3, rfl, ok3, hvm3, e3, e4⟩
  have hv2 : p3.vm = sane2 := by rw [hvm3, hv1]; rfl
  have hpg3 : SlSl M3 5 encOp (.slice p3.pg p3.prog.length p3.pc) p3.prog := by
    have : p3.prog = p2.prog := (congrArg VM.prog hv2).trans (((step_inv iv1 (by decide) 0 0).2.pr).trans (congrArg VM.prog hv1).symm)
    rw [e3, e4, this]; exact hpg2.mono hM3
  have wf2 : p3.vm.Wf 14 := hv2 ▸ iv2.wf
  rw [hv1, sane_e1]
  simp only [push_cast, Int.cast_ofNat_Int, reduceIte, Nat.reduceEqDiff, reduceCtorEq, Nat.reduceAdd, Nat.reduceSub, Nat.reduceMul, Int.reduceToNat, Nat.reduceLeDiff]
  repeat' first
      | refine EV.seq ?_
      | refine EV.skip ?_
      | refine EV.block ?_
      | refine EV.inBlock ?_
      | (refine EV.reg ?_; (conv => (arg 2; whnf)); simp only [push_cast, Int.cast_ofNat_Int, reduceIte, Nat.reduceEqDiff, reduceCtorEq, Nat.reduceAdd, Nat.reduceSub, Nat.reduceMul, Int.reduceToNat, Nat.reduceLeDiff, hv2, sane_over])
      | (refine EV.any _ (List.Sublist.refl _) ?_; (conv => (arg 2; whnf)); simp only [push_cast, Int.cast_ofNat_Int, reduceIte, Nat.reduceEqDiff, reduceCtorEq, Nat.reduceAdd, Nat.reduceSub, Nat.reduceMul, Int.reduceToNat, Nat.reduceLeDiff, hv2, sane_over])
      | (refine ConQ.call (view_Over_q (PM.rdM ok3 hpg3 (fun q hq => by simp [hq])) wf2) ?_; try simp only [push_cast, Int.cast_ofNat_Int, reduceIte, Nat.reduceEqDiff, reduceCtorEq, Nat.reduceAdd, Nat.reduceSub, Nat.reduceMul, Int.reduceToNat, Nat.reduceLeDiff, hv2, sane_over])
      | (refine Exists.intro _ (And.intro (view_Over_q (PM.rdM ok3 hpg3 (fun q hq => by simp [hq])) wf2) ?_); try simp only [push_cast, Int.cast_ofNat_Int, reduceIte, Nat.reduceEqDiff, reduceCtorEq, Nat.reduceAdd, Nat.reduceSub, Nat.reduceMul, Int.reduceToNat, Nat.reduceLeDiff, hv2, sane_over])
      | (refine condW.intro (fun hc => ?_) (fun hc => ?_) <;> try simp only [ne_eq, Bool.not_true, Bool.not_false, not_true_eq_false, not_false_eq_true, reduceCtorEq] at hc <;> try (exfalso; first | exact hc | omega | (simp at hc; done)))
      | assumption
      | (refine condQ.mk ?_ (fun hc => ?_) ?_; rotate_left; (try simp only [decide_eq_true_eq, decide_eq_false_iff_not, Bool.not_eq_true', Bool.not_eq_false', Bool.and_eq_true, Bool.or_eq_true, Bool.and_eq_false_iff, Bool.or_eq_false_iff] at hc))
      | (with_reducible rfl)
      | ((refine EV.cond rfl (fun h => ?_) (fun h => ?_) <;> try simp only [reduceCtorEq, reduceIte, if_true, if_false, Bool.not_eq_true', Bool.not_eq_false', decide_eq_true_eq, decide_eq_false_iff_not, Bool.and_eq_true, Bool.or_eq_true, Bool.and_eq_false_iff, Bool.or_eq_false_iff] at h) <;> try (exfalso; first | exact h True.intro | (exact h; done) | omega))
      | (refine EV.exit rfl ?_)
      | (refine EV.ret R_locklesslaw05_sane_ok ?_; simp only [push_cast, Int.cast_ofNat_Int, reduceIte, Nat.reduceEqDiff, reduceCtorEq, Nat.reduceAdd, Nat.reduceSub, Nat.reduceMul, Int.reduceToNat, Nat.reduceLeDiff, hv2, sane_over, R_locklesslaw05_sane])
      | (with_reducible intro b; try simp only [push_cast, Int.cast_ofNat_Int, reduceIte, Nat.reduceEqDiff, reduceCtorEq, Nat.reduceAdd, Nat.reduceSub, Nat.reduceMul, Int.reduceToNat, Nat.reduceLeDiff, hv2, sane_over])
      | with_reducible intro b
      | (refine And.intro (by omega) ?_)
      | (refine Exists.intro _ (And.intro (rd_M (by assumption)) ?_); try simp only [push_cast, Int.cast_ofNat_Int, reduceIte, Nat.reduceEqDiff, reduceCtorEq, Nat.reduceAdd, Nat.reduceSub, Nat.reduceMul, Int.reduceToNat, Nat.reduceLeDiff, hv2, sane_over])
      | (refine Exists.intro _ (Exists.intro _ (Exists.intro _ (And.intro (rd_M (by assumption)) ?_))); try simp only [push_cast, Int.cast_ofNat_Int, reduceIte, Nat.reduceEqDiff, reduceCtorEq, Nat.reduceAdd, Nat.reduceSub, Nat.reduceMul, Int.reduceToNat, Nat.reduceLeDiff, hv2, sane_over])
      | (refine Exists.intro _ (And.intro (by assumption) ?_); try simp only [push_cast, Int.cast_ofNat_Int, reduceIte, Nat.reduceEqDiff, reduceCtorEq, Nat.reduceAdd, Nat.reduceSub, Nat.reduceMul, Int.reduceToNat, Nat.reduceLeDiff, hv2, sane_over])
      | (refine Exists.intro _ (Exists.intro _ (Exists.intro _ (And.intro (by assumption) ?_))); try simp only [push_cast, Int.cast_ofNat_Int, reduceIte, Nat.reduceEqDiff, reduceCtorEq, Nat.reduceAdd, Nat.reduceSub, Nat.reduceMul, Int.reduceToNat, Nat.reduceLeDiff, hv2, sane_over])
      | (refine xr rfl (by simp only [List.length_cons, List.length_nil]; omega) ?_; try simp only [push_cast, Int.cast_ofNat_Int, reduceIte, Nat.reduceEqDiff, reduceCtorEq, Nat.reduceAdd, Nat.reduceSub, Nat.reduceMul, Int.reduceToNat, Nat.reduceLeDiff, hv2, sane_over])
      | (refine xi rfl (by simp only [List.length_cons, List.length_nil]; omega) ?_; try simp only [push_cast, Int.cast_ofNat_Int, reduceIte, Nat.reduceEqDiff, reduceCtorEq, Nat.reduceAdd, Nat.reduceSub, Nat.reduceMul, Int.reduceToNat, Nat.reduceLeDiff, hv2, sane_over])
      | (refine xs rfl (by simp only [List.length_cons, List.length_nil]; omega) ?_; try simp only [push_cast, Int.cast_ofNat_Int, reduceIte, Nat.reduceEqDiff, reduceCtorEq, Nat.reduceAdd, Nat.reduceSub, Nat.reduceMul, Int.reduceToNat, Nat.reduceLeDiff, hv2, sane_over])
      | (refine xw ?_; simp only [push_cast, Int.cast_ofNat_Int, reduceIte, Nat.reduceEqDiff, reduceCtorEq, Nat.reduceAdd, Nat.reduceSub, Nat.reduceMul, Int.reduceToNat, Nat.reduceLeDiff, hv2, sane_over])
      | (refine And.intro (PHeap.le_refl _) (And.intro (fun p hp => hp) ?_))
      | (refine And.intro (PHeap.le_refl _) (And.intro (fun p hp => List.mem_cons_of_mem _ hp) ?_))
      | (refine And.intro (PHeap.le_refl _) (And.intro (fun p hp => List.mem_cons_of_mem _ (List.mem_cons_of_mem _ hp)) ?_))
      | (refine And.intro (PHeap.le_refl _) (And.intro (mem_of_sub ?_) ?_); focus ((repeat' first | exact List.Sublist.refl _ | exact List.nil_sublist _ | exact List.sublist_append_left _ _ | refine List.Sublist.cons_cons _ ?_ | refine List.Sublist.append_left ?_ _ | refine List.sublist_append_of_sublist_right ?_ | refine List.Sublist.cons _ ?_); done); try simp only [push_cast, Int.cast_ofNat_Int, reduceIte, Nat.reduceEqDiff, reduceCtorEq, Nat.reduceAdd, Nat.reduceSub, Nat.reduceMul, Int.reduceToNat, Nat.reduceLeDiff, hv2, sane_over])
      | (exfalso; simp at hc; done)
      | (exfalso; omega)
      | exact false
      | fail "stuck"

end
end Go.EV

namespace Go.EV
open Go.Proofs

variable {P : Program} {f : FuncId} {args : Array Value}

/-- What is in the world at the start, to be read. -/
def heapOf (w : World) : PHeap := fun b o => w.heap[b]? = some o

theorem St_kept {w w' : World} {M0 M : PHeap} {G : Own} (h : EV.St w [] M0 M G w') : w.keptBut w' (fun _ => False) := by
  refine ⟨h.os, h.output, fun i hi => ?_⟩
  have e := h.frame i hi (by simp)
  rw [e]
  cases w.heap[i]? with
  | none => rfl
  | some o => cases o <;> simp

/-- A contract, read at one world. -/
theorem Con.at {w : World} {Φ : Value → PHeap → Own → Prop} (h : Con P f args (heapOf w) [] Φ) : Calls P f args w fun e w' => ∃ v, e = .returned v ∧ (∃ M' G', Φ v M' G') ∧ w.keptBut w' (fun _ => False) ∧ w.heap.size ≤ w'.heap.size := by
  intro cs
  obtain ⟨e, w', fr, ⟨v, he, M', G', h1, h2⟩, r⟩ := h.2 w (St.enter (G := []) (fun b o hb => hb) (by simp) (by simp) (by simp)) cs
  exact ⟨e, w', fr, ⟨v, he, ⟨M', G', h2⟩, St_kept h1, h1.size⟩, r⟩

theorem post_of_kept {H : Type} {enc : TypeId × Value → H} {f : Func} {s : ChangeSpec} {apart fresh handsOn : Bool} {W W' : World} {args : Array Value} {v : Value} {ds gs : List (DataW H)} {before pa pv : List MemPlace}
    (hW : DataW.Whole enc P f.params.toList s.vars apart W args.toList ds gs before)
    (hres : ∀ (b : Nat) (sp : Nat → Bool) (hd : Bool), DataW.TrodAll enc P W' b sp hd f.resultTypes.toList (v.resultList f.resultTypes.size) (s.fn H (ds ++ gs)).results [])
    (hargs : ∀ sp : Nat → Bool, (∀ p ∈ before, sp p.block = true) → DataW.TrodAll enc P W' 0 sp true f.params.toList args.toList (s.fn H (ds ++ gs)).args pa)
    (hvars : ∀ sp : Nat → Bool, (∀ p ∈ before, sp p.block = true) → DataW.TrodVars enc P W' sp s.vars (s.fn H (ds ++ gs)).vars pv)
    (hps : before = pa ++ pv) (hk : W.keptBut W' (fun _ => False)) :
    s.post enc P f apart fresh handsOn false W args v W' := by
  have hold : ∀ p ∈ before, (fun b => decide (b < W.heap.size)) p.block = true := fun p hp => by simpa using hW.lt p hp
  exact ⟨ds, gs, before, [], pa, pv, hW, hres _ _ _, hargs _ hold, hvars _ hold, World.keptBut_mono (fun p hp => hp.elim) hk, fun h => by cases h⟩

end Go.EV

namespace Go.EV
open Go.Proofs
abbrev encTurn (t : Int × Int) : List Value := [vi t.1, vi t.2]

section
variable {H : Type} {enc : TypeId × Value → H} {P : Program} {W : World} {base : Nat} {sp : Nat → Bool} {held : Bool}

theorem mapM_some {α β : Type} {f : α → Option β} : ∀ {l : List α} {r : List β}, l.mapM f = some r → r.length = l.length ∧ ∀ i (h : i < l.length), ∃ y, f l[i] = some y ∧ r[i]? = some y
  | [], r, h => by simp at h; subst h; simp
  | x :: l, r, h => by
    simp only [List.mapM_cons, Option.bind_eq_bind, Option.pure_def, Option.bind_eq_some_iff] at h
    obtain ⟨y, hy, r', hr', e⟩ := h
    cases e
    obtain ⟨h1, h2⟩ := mapM_some hr'
    refine ⟨by simp [h1], fun i hi => ?_⟩
    cases i with
    | zero => exact ⟨y, hy, rfl⟩
    | succ i => exact h2 i (by simpa using hi)

theorem cells_rd {a : Addr} {n : Nat} {cs : List Value} (h : W.cells? base a n = some cs) (hn : 0 < n) : ∃ b off, a = ⟨b, off, none⟩ ∧ rd (heapOf W) b off n cs := by
  unfold World.cells? at h
  split at h
  · obtain ⟨h1, h2⟩ := mapM_some h
    rw [List.length_range] at h1
    obtain ⟨ab, ao, sa⟩ := a
    have hspot : sa = none := by
      obtain ⟨y, hy, _⟩ := h2 0 (by simpa using hn)
      simp only [List.getElem_range, World.cell?, Addr.add] at hy
      cases sa with
      | none => rfl
      | some s => exfalso; revert hy; simp; split <;> simp
    subst hspot
    refine ⟨ab, ao, rfl, ?_⟩
    have hcell : ∀ i, i < n → ∃ y, W.cell? ⟨ab, ao + i, none⟩ = some y ∧ cs[i]? = some y := fun i hi => by
      obtain ⟨y, hy, e⟩ := h2 i (by simpa using hi)
      rw [List.getElem_range, addr_add] at hy
      exact ⟨y, hy, e⟩
    cases hb : W.heap[ab]? with
    | none => obtain ⟨y, hy, _⟩ := hcell 0 hn; simp [World.cell?, hb] at hy
    | some ob =>
      cases ob with
      | cells c T fz =>
        have hc : ∀ i, i < n → c[ao + i]? = cs[i]? := fun i hi => by
          obtain ⟨y, hy, e⟩ := hcell i hi
          simp [World.cell?, hb] at hy
          rw [hy, e]
        have hle : ao + n ≤ c.size := by
          obtain ⟨y, hy, e⟩ := hcell (n - 1) (by omega)
          have h3 := hc (n - 1) (by omega)
          rw [e] at h3
          have := (Array.getElem?_eq_some_iff.1 h3).1
          omega
        refine ⟨c, T, fz, hb, hle, ?_⟩
        apply List.ext_getElem?
        intro i
        rw [List.getElem?_take]
        by_cases hi : i < n
        · rw [if_pos hi, List.getElem?_drop, ← hc i hi]; simp
        · rw [if_neg hi, List.getElem?_eq_none (by omega)]
      | _ => obtain ⟨y, hy, _⟩ := hcell 0 hn; simp [World.cell?, hb] at hy
  · cases h

theorem rd_join {b off n k : Nat} {xs ys : List Value} (h1 : rd (heapOf W) b off n xs) (h2 : rd (heapOf W) b (off + n) k ys) : rd (heapOf W) b off (n + k) (xs ++ ys) := by
  obtain ⟨c, T, fz, e1, l1, rfl⟩ := h1
  obtain ⟨c', T', fz', e2, l2, rfl⟩ := h2
  have : (Obj.cells c T fz) = Obj.cells c' T' fz' := Option.some.inj (e1.symm.trans e2)
  cases this
  refine ⟨c, T, fz, e1, by omega, ?_⟩
  rw [← List.drop_drop, List.take_add]

theorem rd_rows {α : Type} {e' : α → List Value} {sz b off : Nat} (henc : ∀ z, (e' z).length = sz) : ∀ (zs : List α), 0 < zs.length → (∀ i (h : i < zs.length), rd (heapOf W) b (off + i * sz) sz (e' zs[i])) → rd (heapOf W) b off (zs.length * sz) (zs.flatMap e') := by
  intro zs
  induction zs generalizing off with
  | nil => intro h; exact absurd h (by simp)
  | cons z zs ih =>
    intro _ hr
    have h0 := hr 0 (by simp)
    simp only [Nat.zero_mul, Nat.add_zero, List.getElem_cons_zero] at h0
    cases hz : zs with
    | nil => simpa [hz] using h0
    | cons z' zs' =>
      have h1 := ih (off := off + sz) (by rw [hz]; simp) (fun i hi => by
        have := hr (i + 1) (by simpa using hi)
        rw [Nat.succ_mul] at this
        rw [show off + sz + i * sz = off + (i * sz + sz) by omega]
        simpa using this)
      have := rd_join h0 h1
      rw [hz] at this
      simpa [Nat.succ_mul, Nat.add_comm, Nat.add_left_comm] using this

theorem weightsAll_mem {e : TypeId} {ds : List (DataW H)} (h : (DataW.weightsAll P e ds).all (· ≤ reachBytes) = true) : ∀ d ∈ ds, (d.weights P e).all (· ≤ reachBytes) = true := by
  induction ds with
  | nil => intro d hd; cases hd
  | cons d ds ih =>
    rw [DataW.weightsAll, List.all_append, Bool.and_eq_true] at h
    intro d' hd
    rcases List.mem_cons.1 hd with rfl | hd
    · exact h.1
    · exact ih h.2 d' hd

/-- A slice that comes in. -/
theorem slice_in {α : Type} {e' : α → List Value} {Q : α → Prop} {t e : TypeId} {sz m : Nat} {v : Value} {x : DataW H × List MemPlace} (ht : P.underlying t = some (.slice e)) (hc : P.cellsOf e = sz) (hpos : 0 < sz) (hby : 0 < P.bytesOf e) (henc : ∀ z, (e' z).length = sz)
    (h : DataW.trod enc P W base sp held m t [v] = some x) (hw : (x.1.weights P t).all (· ≤ reachBytes) = true)
    (hel : ∀ m cs y, DataW.trod enc P W base sp held m e cs = some y → (y.1.weights P e).all (· ≤ reachBytes) = true → ∃ z, cs = e' z ∧ Q z) :
    ∃ (zs : List α) (a : Option Addr) (c : Nat), v = .slice a zs.length c ∧ rdS (heapOf W) sz a zs.length (zs.flatMap e') ∧ zs.length ≤ reachBytes ∧ ∀ z ∈ zs, Q z := by
  cases m with
  | zero => simp [DataW.trod] at h
  | succ m =>
    unfold DataW.trod at h
    rw [ht] at h
    split at h <;> (try (cases h; done)) <;> (try (rename_i hu _ _; cases hu; done)) <;> (try (rename_i hu _; cases hu; done)) <;> (try (rename_i hu; cases hu; done))
    · rename_i hv
      simp only [List.cons.injEq, and_true] at hv
      exact ⟨[], none, 0, hv, .inl ⟨by simp, rfl⟩, Nat.zero_le _, fun z hz => by cases hz⟩
    · rename_i e0 a len cap hu hv
      cases hu
      simp only [List.cons.injEq, and_true] at hv
      subst hv
      split at h
      · rename_i hcond
        simp only [Option.bind_eq_some_iff] at h
        obtain ⟨elems, he, h⟩ := h
        obtain ⟨rest, _, h⟩ := Option.map_eq_some_iff.1 h
        subst h
        obtain ⟨hel1, he2⟩ := mapM_some he
        rw [List.length_range] at hel1
        rw [hc] at he2
        dsimp only at hw
        unfold DataW.weights at hw
        rw [ht] at hw
        dsimp only at hw
        rw [List.all_cons, Bool.and_eq_true, List.all_append, Bool.and_eq_true] at hw
        obtain ⟨hw1, hw2, _⟩ := hw
        have hlb : len ≤ reachBytes := by
          have h1 : (elems.length + rest.length) * P.bytesOf e ≤ reachBytes := by simpa using hw1
          have h2 : elems.length * 1 ≤ (elems.length + rest.length) * P.bytesOf e := Nat.mul_le_mul (by omega) hby
          omega
        have hz : ∀ i : Fin len, ∃ z, W.cells? base (a.add (i.1 * sz)) sz = some (e' z) ∧ Q z := fun i => by
          obtain ⟨y, hy, hy2⟩ := he2 i.1 (by simp)
          rw [List.getElem_range] at hy
          simp only [Option.bind_eq_some_iff] at hy
          obtain ⟨cs, hcs, hy⟩ := hy
          have hym : y ∈ elems := List.mem_of_getElem? hy2
          obtain ⟨z, rfl, hq⟩ := hel _ _ _ hy (weightsAll_mem hw2 y.1 (List.mem_map.2 ⟨y, hym, rfl⟩))
          exact ⟨z, hcs, hq⟩
        obtain ⟨zs, hzs⟩ : ∃ zs, zs = List.ofFn fun i : Fin len => Classical.choose (hz i) := ⟨_, rfl⟩
        have hlen : zs.length = len := by rw [hzs]; simp
        have hall : ∀ i (h : i < zs.length), W.cells? base (a.add (i * sz)) sz = some (e' zs[i]) ∧ Q zs[i] := fun i hi => by
          subst hzs
          simp only [List.getElem_ofFn]
          exact Classical.choose_spec (hz ⟨i, by simpa using hi⟩)
        refine ⟨zs, some a, cap, by rw [hlen], ?_, by omega, fun z hz' => ?_⟩
        · by_cases h0 : zs.length = 0
          · refine .inl ⟨by rw [h0]; simp, ?_⟩
            rw [List.length_eq_zero_iff.1 h0]; rfl
          · obtain ⟨b, off, hab, _⟩ := cells_rd (hall 0 (by omega)).1 hpos
            rw [Nat.zero_mul] at hab
            have hab2 : a = ⟨b, off, none⟩ := by rw [← hab]; simp [Addr.add]
            refine .inr ⟨b, off, by rw [hab2], rd_rows henc zs (by omega) fun i hi => ?_⟩
            obtain ⟨b', off', hab', hr⟩ := cells_rd (hall i hi).1 hpos
            rw [hab2, addr_add] at hab'
            cases hab'
            exact hr
        · obtain ⟨i, hi, rfl⟩ := List.mem_iff_getElem.1 hz'
          exact (hall i hi).2
      · cases h

theorem int_in {t : TypeId} {m : Nat} {cs : List Value} {x : DataW H × List MemPlace} (ht : P.underlying t = some (.int .i64)) (h : DataW.trod enc P W base sp held m t cs = some x) : ∃ n, cs = [vi n] := by
  cases m with
  | zero => simp [DataW.trod] at h
  | succ m =>
    unfold DataW.trod at h
    rw [ht] at h
    split at h <;> (try (cases h; done)) <;> (try (rename_i hu _ _; cases hu; done)) <;> (try (rename_i hu _; cases hu; done)) <;> (try (rename_i hu; cases hu; done))
    rename_i k1 k2 n1 hu
    cases hu
    split at h
    · rename_i hk
      obtain ⟨rfl, _⟩ := hk
      exact ⟨n1, rfl⟩
    · cases h

theorem sameAt_kept {W' : World} (hf : ∀ b, b < W.heap.size → W'.heap[b]? = W.heap[b]?) {p : MemPlace} (hp : p.block < W.heap.size) : W.sameAt W' p := by
  cases p with
  | cell b off => simp only [World.sameAt, World.cell?, hf b hp]
  | map b => exact hf b hp

theorem trodAll_kept {W' : World} (K : Kids P (· < P.types.size)) (hsz : ∀ {t e : TypeId}, t < P.types.size → P.underlying t = some (.slice e) → 0 < P.cellsOf e) (hf : ∀ b, b < W.heap.size → W'.heap[b]? = W.heap[b]?) {sp' : Nat → Bool} :
    ∀ {ts : List TypeId} {vs : List Value} {ds : List (DataW H)} {ps : List MemPlace}, (∀ t ∈ ts, t < P.types.size) → DataW.TrodAll enc P W 0 (fun _ => true) true ts vs ds ps → (∀ p ∈ ps, p.block < W.heap.size) → (∀ p ∈ ps, sp' p.block = true) → DataW.TrodAll enc P W' 0 sp' true ts vs ds ps
  | [], [], [], ps, _, h, _, _ => h
  | t :: ts, v :: vs, d :: ds, ps, hts, h, hb, hs => by
    obtain ⟨p, q, ⟨m, h1⟩, h2, rfl⟩ := h
    refine ⟨p, q, ⟨m, DataW.trod_stays K hsz (fun h => by cases h) (hts t (by simp)) h1 (fun r hr => sameAt_kept hf (hb r (by simp [hr]))) (fun r hr => hs r (by simp [hr]))⟩, ?_, rfl⟩
    exact trodAll_kept K hsz hf (fun t ht => hts t (by simp [ht])) h2 (fun r hr => hb r (by simp [hr])) (fun r hr => hs r (by simp [hr]))

theorem Con.at2 {f : FuncId} {args : Array Value} {Φ : Value → PHeap → Own → Prop} (h : Con P f args (heapOf W) [] Φ) : Calls P f args W fun e W' => ∃ v, e = .returned v ∧ (∃ M' G', Φ v M' G') ∧ W.keptBut W' (fun _ => False) ∧ ∀ b, b < W.heap.size → W'.heap[b]? = W.heap[b]? := by
  intro cs
  obtain ⟨e, w', fr, ⟨v, he, M', G', h1, h2⟩, r⟩ := h.2 W (St.enter (G := []) (fun b o hb => hb) (by simp) (by simp) (by simp)) cs
  exact ⟨e, w', fr, ⟨v, he, ⟨M', G', h2⟩, St_kept h1, fun b hb => h1.frame b hb (by simp)⟩, r⟩

end
end Go.EV
