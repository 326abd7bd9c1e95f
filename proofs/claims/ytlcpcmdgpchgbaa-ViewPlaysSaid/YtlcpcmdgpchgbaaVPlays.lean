/- slices.Clone. Playing a machine of views: the plain law. The reference: Own, Same, Mod. view.Play. The reference: Play. The reference: Own, Same. Play is that of the document. Play is that of the document: the statement. -/
import Derived.Test.YtlcpcmdgpchgbaaVPae
import Derived.Test.YtlcpcmdgpchgbaaVPaf
set_option maxRecDepth 8000
set_option linter.unusedSimpArgs false
set_option linter.unusedVariables false
namespace Go.EV
open Go.Proofs

/-- What a clone is. -/
def CloneR (T : TypeId) (sz n : Nat) (xs : List Value) (v : Value) (_ : PHeap) (G' : Own) : Prop := ∃ ov, v = osv ov n ∧ osok sz ov n xs ∧ G' = osg T ov xs

theorem ok1_op (o : OpV) : ok1 (encOp o) := by simp [encOp, ok1_cons, ok1_nil, Value.oneCell']
theorem ok1_flatMap {α : Type} {enc : α → List Value} (h : ∀ x, ok1 (enc x)) (xs : List α) : ok1 (xs.flatMap enc) := fun v hv => by
  obtain ⟨x, _, hx⟩ := List.mem_flatMap.1 hv
  exact h x v hx

section
variable {P : Program} {C : Cx P} {f : FuncId} {args : Array Value} {M : PHeap} {G : Own} {K : Value → PHeap → Own → Prop}
/-- A call that hands back a clone, which is never changed again. -/
theorem Con.callZ {Mr : PHeap} {T : TypeId} {sz n : Nat} {xs : List Value} (h : Con P f args Mr [] (CloneR T sz n xs)) (hMr : Mr.le (M.add G)) (hk : ∀ ov M' (_ : M.le M') (_ : rdS M' sz (oad ov) n xs), K (osv ov n) M' G) : CallW C f args M G K := by
  refine ⟨h.1, fun w hs cs => ?_⟩
  obtain ⟨e, w', fr, ⟨v, he, M', G', h1, ov, rfl, hov, rfl⟩, r⟩ := h.2 w (St.part (G1 := []) (G2 := G) hs hMr) cs
  have h2 := St.callB (G1 := []) (G2 := G) hs h1
  exact ⟨e, w', fr, ⟨_, he, _, G, h2.freeze, hk ov _ (PHeap.le_add _ _) (rd_osg hov (fun q hq => hq))⟩, r⟩
end

section
variable {M : PHeap}

theorem clone_int_c (n : Nat) (xs : List Value) (a : Option Addr) (c : Nat) (hx : rdS M 1 a n xs) (hok : ok1 xs) (hb : n < 1000000) : Con Try.prog 55 #[.slice a n c] M [] (CloneR 3 1 n xs) := by
  refine Con.enter Q56_ok (args := [.slice a n c]) (by simp [Q56]) fun w0 => ?_
  simp only [Q56, argE]
  cases a with
  | none =>
    have h0 : n = 0 ∧ xs = [] := by
      rcases hx with ⟨h1, h2⟩ | ⟨b, off, h1, _⟩
      · exact ⟨by omega, h2⟩
      · cases h1
    obtain ⟨rfl, rfl⟩ := h0
    repeat' first
        | refine EV.seq ?_
        | (refine EV.reg ?_; (conv => (arg 2; whnf)); simp only [push_cast, Int.cast_ofNat_Int, reduceIte, Nat.reduceEqDiff, reduceCtorEq, Nat.reduceAdd, Nat.reduceSub, Nat.reduceMul, Int.reduceToNat, Nat.reduceLeDiff, Option.isNone_none])
        | ((refine EV.cond rfl (fun h => ?_) (fun h => ?_) <;> try simp only [reduceCtorEq, reduceIte, if_true, if_false, Bool.not_eq_true', Bool.not_eq_false', decide_eq_true_eq, decide_eq_false_iff_not, Bool.and_eq_true, Bool.or_eq_true, Bool.and_eq_false_iff, Bool.or_eq_false_iff] at h) <;> try (exfalso; first | exact h True.intro | (exact h; done) | omega | (simp only [not_true_eq_false, false_or, or_false] at h; omega)))
        | (refine EV.ret Q56_ok ?_; simp only [push_cast, Int.cast_ofNat_Int, reduceIte, Nat.reduceEqDiff, reduceCtorEq, Nat.reduceAdd, Nat.reduceSub, Nat.reduceMul, Int.reduceToNat, Nat.reduceLeDiff, Option.isNone_none, Q56])
        | fail
    exact ⟨none, rfl, ⟨rfl, rfl⟩, rfl⟩
  | some ad =>
    repeat' first
        | refine EV.seq ?_
        | refine EV.skip ?_
        | (refine EV.reg ?_; (conv => (arg 2; whnf)); simp only [push_cast, Int.cast_ofNat_Int, reduceIte, Nat.reduceEqDiff, reduceCtorEq, Nat.reduceAdd, Nat.reduceSub, Nat.reduceMul, Int.reduceToNat, Nat.reduceLeDiff, Option.isNone_some])
        | ((refine EV.cond rfl (fun h => ?_) (fun h => ?_) <;> try simp only [reduceCtorEq, reduceIte, if_true, if_false, Bool.not_eq_true', Bool.not_eq_false', decide_eq_true_eq, decide_eq_false_iff_not, Bool.and_eq_true, Bool.or_eq_true, Bool.and_eq_false_iff, Bool.or_eq_false_iff] at h) <;> try (exfalso; first | exact h True.intro | (exact h; done) | omega | (simp only [not_true_eq_false, false_or, or_false] at h; omega)))
        | (with_reducible intro b; try simp only [push_cast, Int.cast_ofNat_Int, reduceIte, Nat.reduceEqDiff, reduceCtorEq, Nat.reduceAdd, Nat.reduceSub, Nat.reduceMul, Int.reduceToNat, Nat.reduceLeDiff, Option.isNone_some])
        | fail
    refine ⟨_, rdS_M hx, hok, Or.inl ⟨some (b, 0, []), 0, rfl, [], ⟨rfl, rfl, Nat.le_refl _, by simp [maxLen]⟩, [], List.Perm.refl _, ?_, ?_, ?_⟩⟩
    · simp only [maxLen]; omega
    · omega
    intro o' ho' hn
    simp only [Nat.zero_add, List.nil_append] at ho' hn ⊢
    repeat' first
        | (refine EV.ret Q56_ok ?_; simp only [push_cast, Int.cast_ofNat_Int, reduceIte, Nat.reduceEqDiff, reduceCtorEq, Nat.reduceAdd, Nat.reduceSub, Nat.reduceMul, Int.reduceToNat, Nat.reduceLeDiff, Q56])
        | fail
    exact ⟨o', rfl, ho', rfl⟩

theorem clone_op_c (n : Nat) (xs : List Value) (a : Option Addr) (c : Nat) (hx : rdS M 5 a n xs) (hok : ok1 xs) (hb : n < 1000000) : Con Try.prog 53 #[.slice a n c] M [] (CloneR 55 5 n xs) := by
  refine Con.enter Q55_ok (args := [.slice a n c]) (by simp [Q55]) fun w0 => ?_
  simp only [Q55, argE]
  cases a with
  | none =>
    have h0 : n = 0 ∧ xs = [] := by
      rcases hx with ⟨h1, h2⟩ | ⟨b, off, h1, _⟩
      · exact ⟨by omega, h2⟩
      · cases h1
    obtain ⟨rfl, rfl⟩ := h0
    repeat' first
        | refine EV.seq ?_
        | (refine EV.reg ?_; (conv => (arg 2; whnf)); simp only [push_cast, Int.cast_ofNat_Int, reduceIte, Nat.reduceEqDiff, reduceCtorEq, Nat.reduceAdd, Nat.reduceSub, Nat.reduceMul, Int.reduceToNat, Nat.reduceLeDiff, Option.isNone_none])
        | ((refine EV.cond rfl (fun h => ?_) (fun h => ?_) <;> try simp only [reduceCtorEq, reduceIte, if_true, if_false, Bool.not_eq_true', Bool.not_eq_false', decide_eq_true_eq, decide_eq_false_iff_not, Bool.and_eq_true, Bool.or_eq_true, Bool.and_eq_false_iff, Bool.or_eq_false_iff] at h) <;> try (exfalso; first | exact h True.intro | (exact h; done) | omega | (simp only [not_true_eq_false, false_or, or_false] at h; omega)))
        | (refine EV.ret Q55_ok ?_; simp only [push_cast, Int.cast_ofNat_Int, reduceIte, Nat.reduceEqDiff, reduceCtorEq, Nat.reduceAdd, Nat.reduceSub, Nat.reduceMul, Int.reduceToNat, Nat.reduceLeDiff, Option.isNone_none, Q55])
        | fail
    exact ⟨none, rfl, ⟨rfl, rfl⟩, rfl⟩
  | some ad =>
    repeat' first
        | refine EV.seq ?_
        | refine EV.skip ?_
        | (refine EV.reg ?_; (conv => (arg 2; whnf)); simp only [push_cast, Int.cast_ofNat_Int, reduceIte, Nat.reduceEqDiff, reduceCtorEq, Nat.reduceAdd, Nat.reduceSub, Nat.reduceMul, Int.reduceToNat, Nat.reduceLeDiff, Option.isNone_some])
        | ((refine EV.cond rfl (fun h => ?_) (fun h => ?_) <;> try simp only [reduceCtorEq, reduceIte, if_true, if_false, Bool.not_eq_true', Bool.not_eq_false', decide_eq_true_eq, decide_eq_false_iff_not, Bool.and_eq_true, Bool.or_eq_true, Bool.and_eq_false_iff, Bool.or_eq_false_iff] at h) <;> try (exfalso; first | exact h True.intro | (exact h; done) | omega | (simp only [not_true_eq_false, false_or, or_false] at h; omega)))
        | (with_reducible intro b; try simp only [push_cast, Int.cast_ofNat_Int, reduceIte, Nat.reduceEqDiff, reduceCtorEq, Nat.reduceAdd, Nat.reduceSub, Nat.reduceMul, Int.reduceToNat, Nat.reduceLeDiff, Option.isNone_some])
        | fail
    refine ⟨_, rdS_M hx, hok, Or.inl ⟨some (b, 0, []), 0, rfl, [], ⟨rfl, rfl, Nat.le_refl _, by simp [maxLen]⟩, [], List.Perm.refl _, ?_, ?_, ?_⟩⟩
    · simp only [maxLen]; omega
    · omega
    intro o' ho' hn
    simp only [Nat.zero_add, List.nil_append] at ho' hn ⊢
    repeat' first
        | (refine EV.ret Q55_ok ?_; simp only [push_cast, Int.cast_ofNat_Int, reduceIte, Nat.reduceEqDiff, reduceCtorEq, Nat.reduceAdd, Nat.reduceSub, Nat.reduceMul, Int.reduceToNat, Nat.reduceLeDiff, Q55])
        | fail
    exact ⟨o', rfl, ho', rfl⟩

theorem clone_msg_c (n : Nat) (xs : List Value) (a : Option Addr) (c : Nat) (hx : rdS M 5 a n xs) (hok : ok1 xs) (hb : n < 1000000) : Con Try.prog 54 #[.slice a n c] M [] (CloneR 67 5 n xs) := by
  refine Con.enter Q57_ok (args := [.slice a n c]) (by simp [Q57]) fun w0 => ?_
  simp only [Q57, argE]
  cases a with
  | none =>
    have h0 : n = 0 ∧ xs = [] := by
      rcases hx with ⟨h1, h2⟩ | ⟨b, off, h1, _⟩
      · exact ⟨by omega, h2⟩
      · cases h1
    obtain ⟨rfl, rfl⟩ := h0
    repeat' first
        | refine EV.seq ?_
        | (refine EV.reg ?_; (conv => (arg 2; whnf)); simp only [push_cast, Int.cast_ofNat_Int, reduceIte, Nat.reduceEqDiff, reduceCtorEq, Nat.reduceAdd, Nat.reduceSub, Nat.reduceMul, Int.reduceToNat, Nat.reduceLeDiff, Option.isNone_none])
        | ((refine EV.cond rfl (fun h => ?_) (fun h => ?_) <;> try simp only [reduceCtorEq, reduceIte, if_true, if_false, Bool.not_eq_true', Bool.not_eq_false', decide_eq_true_eq, decide_eq_false_iff_not, Bool.and_eq_true, Bool.or_eq_true, Bool.and_eq_false_iff, Bool.or_eq_false_iff] at h) <;> try (exfalso; first | exact h True.intro | (exact h; done) | omega | (simp only [not_true_eq_false, false_or, or_false] at h; omega)))
        | (refine EV.ret Q57_ok ?_; simp only [push_cast, Int.cast_ofNat_Int, reduceIte, Nat.reduceEqDiff, reduceCtorEq, Nat.reduceAdd, Nat.reduceSub, Nat.reduceMul, Int.reduceToNat, Nat.reduceLeDiff, Option.isNone_none, Q57])
        | fail
    exact ⟨none, rfl, ⟨rfl, rfl⟩, rfl⟩
  | some ad =>
    repeat' first
        | refine EV.seq ?_
        | refine EV.skip ?_
        | (refine EV.reg ?_; (conv => (arg 2; whnf)); simp only [push_cast, Int.cast_ofNat_Int, reduceIte, Nat.reduceEqDiff, reduceCtorEq, Nat.reduceAdd, Nat.reduceSub, Nat.reduceMul, Int.reduceToNat, Nat.reduceLeDiff, Option.isNone_some])
        | ((refine EV.cond rfl (fun h => ?_) (fun h => ?_) <;> try simp only [reduceCtorEq, reduceIte, if_true, if_false, Bool.not_eq_true', Bool.not_eq_false', decide_eq_true_eq, decide_eq_false_iff_not, Bool.and_eq_true, Bool.or_eq_true, Bool.and_eq_false_iff, Bool.or_eq_false_iff] at h) <;> try (exfalso; first | exact h True.intro | (exact h; done) | omega | (simp only [not_true_eq_false, false_or, or_false] at h; omega)))
        | (with_reducible intro b; try simp only [push_cast, Int.cast_ofNat_Int, reduceIte, Nat.reduceEqDiff, reduceCtorEq, Nat.reduceAdd, Nat.reduceSub, Nat.reduceMul, Int.reduceToNat, Nat.reduceLeDiff, Option.isNone_some])
        | fail
    refine ⟨_, rdS_M hx, hok, Or.inl ⟨some (b, 0, []), 0, rfl, [], ⟨rfl, rfl, Nat.le_refl _, by simp [maxLen]⟩, [], List.Perm.refl _, ?_, ?_, ?_⟩⟩
    · simp only [maxLen]; omega
    · omega
    intro o' ho' hn
    simp only [Nat.zero_add, List.nil_append] at ho' hn ⊢
    repeat' first
        | (refine EV.ret Q57_ok ?_; simp only [push_cast, Int.cast_ofNat_Int, reduceIte, Nat.reduceEqDiff, reduceCtorEq, Nat.reduceAdd, Nat.reduceSub, Nat.reduceMul, Int.reduceToNat, Nat.reduceLeDiff, Q57])
        | fail
    exact ⟨o', rfl, ho', rfl⟩

theorem clone_thr_c (n : Nat) (xs : List Value) (a : Option Addr) (c : Nat) (hx : rdS M 11 a n xs) (hok : ok1 xs) (hb : n < 1000000) : Con Try.prog 56 #[.slice a n c] M [] (CloneR 69 11 n xs) := by
  refine Con.enter Q58_ok (args := [.slice a n c]) (by simp [Q58]) fun w0 => ?_
  simp only [Q58, argE]
  cases a with
  | none =>
    have h0 : n = 0 ∧ xs = [] := by
      rcases hx with ⟨h1, h2⟩ | ⟨b, off, h1, _⟩
      · exact ⟨by omega, h2⟩
      · cases h1
    obtain ⟨rfl, rfl⟩ := h0
    repeat' first
        | refine EV.seq ?_
        | (refine EV.reg ?_; (conv => (arg 2; whnf)); simp only [push_cast, Int.cast_ofNat_Int, reduceIte, Nat.reduceEqDiff, reduceCtorEq, Nat.reduceAdd, Nat.reduceSub, Nat.reduceMul, Int.reduceToNat, Nat.reduceLeDiff, Option.isNone_none])
        | ((refine EV.cond rfl (fun h => ?_) (fun h => ?_) <;> try simp only [reduceCtorEq, reduceIte, if_true, if_false, Bool.not_eq_true', Bool.not_eq_false', decide_eq_true_eq, decide_eq_false_iff_not, Bool.and_eq_true, Bool.or_eq_true, Bool.and_eq_false_iff, Bool.or_eq_false_iff] at h) <;> try (exfalso; first | exact h True.intro | (exact h; done) | omega | (simp only [not_true_eq_false, false_or, or_false] at h; omega)))
        | (refine EV.ret Q58_ok ?_; simp only [push_cast, Int.cast_ofNat_Int, reduceIte, Nat.reduceEqDiff, reduceCtorEq, Nat.reduceAdd, Nat.reduceSub, Nat.reduceMul, Int.reduceToNat, Nat.reduceLeDiff, Option.isNone_none, Q58])
        | fail
    exact ⟨none, rfl, ⟨rfl, rfl⟩, rfl⟩
  | some ad =>
    repeat' first
        | refine EV.seq ?_
        | refine EV.skip ?_
        | (refine EV.reg ?_; (conv => (arg 2; whnf)); simp only [push_cast, Int.cast_ofNat_Int, reduceIte, Nat.reduceEqDiff, reduceCtorEq, Nat.reduceAdd, Nat.reduceSub, Nat.reduceMul, Int.reduceToNat, Nat.reduceLeDiff, Option.isNone_some])
        | ((refine EV.cond rfl (fun h => ?_) (fun h => ?_) <;> try simp only [reduceCtorEq, reduceIte, if_true, if_false, Bool.not_eq_true', Bool.not_eq_false', decide_eq_true_eq, decide_eq_false_iff_not, Bool.and_eq_true, Bool.or_eq_true, Bool.and_eq_false_iff, Bool.or_eq_false_iff] at h) <;> try (exfalso; first | exact h True.intro | (exact h; done) | omega | (simp only [not_true_eq_false, false_or, or_false] at h; omega)))
        | (with_reducible intro b; try simp only [push_cast, Int.cast_ofNat_Int, reduceIte, Nat.reduceEqDiff, reduceCtorEq, Nat.reduceAdd, Nat.reduceSub, Nat.reduceMul, Int.reduceToNat, Nat.reduceLeDiff, Option.isNone_some])
        | fail
    refine ⟨_, rdS_M hx, hok, Or.inl ⟨some (b, 0, []), 0, rfl, [], ⟨rfl, rfl, Nat.le_refl _, by simp [maxLen]⟩, [], List.Perm.refl _, ?_, ?_, ?_⟩⟩
    · simp only [maxLen]; omega
    · omega
    intro o' ho' hn
    simp only [Nat.zero_add, List.nil_append] at ho' hn ⊢
    repeat' first
        | (refine EV.ret Q58_ok ?_; simp only [push_cast, Int.cast_ofNat_Int, reduceIte, Nat.reduceEqDiff, reduceCtorEq, Nat.reduceAdd, Nat.reduceSub, Nat.reduceMul, Int.reduceToNat, Nat.reduceLeDiff, Q58])
        | fail
    exact ⟨o', rfl, ho', rfl⟩

end
end Go.EV

namespace Go.EV

def modP (c n : Int) : Int := if c.tmod n < 0 then c.tmod n + n else c.tmod n
def VM.turnP (m : VM) (who : Int) (f : Int → Int) : VM := if (m.choicesR who).2 = 0 then (m.step who (f (m.choicesR who).1)).1 else m
def VM.played (m : VM) (turns : List (Int × Int)) : VM := turns.foldl (fun m t => m.turnP t.1 (modP t.2)) m
def VM.ends (m : VM) (who : Nat) : Nat → VM
  | 0 => m
  | k + 1 => (VM.ends m who k).turnP who (· - 1)
def VM.endAll (m : VM) : Nat → VM
  | 0 => m
  | k + 1 => (VM.endAll m k).ends k ((VM.endAll m k).leftOf k).toNat

theorem modP_eq {c n : Int} (hn : 0 < n) : (c.tmod n + n).tmod n = modP c n := by
  have h1 : c.tmod n < n := Int.tmod_lt_of_pos c hn
  have h2 : -n < c.tmod n := by
    have := Int.lt_tmod_of_pos c hn
    omega
  unfold modP
  split
  · rw [Int.tmod_eq_of_lt (by omega) (by omega)]
  · rw [Int.tmod_eq_emod_of_nonneg (by omega)]
    rw [Int.add_emod_right, Int.emod_eq_of_lt (by omega) h1]
theorem modP_range {c n : Int} (hn : 0 < n) : 0 ≤ modP c n ∧ modP c n < n := by
  have h1 : c.tmod n < n := Int.tmod_lt_of_pos c hn
  have h2 : -n < c.tmod n := by
    have := Int.lt_tmod_of_pos c hn
    omega
  unfold modP
  split <;> omega

section
variable {m : VM} {B w : Nat}

theorem VM.choices_pos (wf : m.Wf B) (o : OpV) (ho : okOpE o) : 0 < (m.choices w o).length := by
  have hl : o.loc.toNat < 3 := by have := ho.2.2.1; have := ho.2.2.2.1; omega
  have hp := wf.lp _ hl
  unfold VM.choices
  split
  · simp
  · have hlow : m.low w o < (m.line o.loc.toNat).length := place_lt m.line _ _ hp
    obtain ⟨k, hk⟩ : ∃ k, m.low w o + k = (m.line o.loc.toNat).length - 1 := ⟨(m.line o.loc.toNat).length - 1 - m.low w o, by omega⟩
    have hb : m.bound o.loc.toNat (m.low w o + k) = false := by
      simp only [VM.bound, Bool.and_eq_false_iff, decide_eq_false_iff_not]; left; omega
    obtain ⟨x, hx⟩ : ∃ x, x ∈ m.choicesAt o (m.low w o + k) := by
      unfold VM.choicesAt
      rw [hb]
      cases o.writes (m.msgAt o.loc.toNat (m.low w o + k)).word
      · exact ⟨(m.low w o + k, false), by simp⟩
      · exact ⟨(m.low w o + k, true), by simp⟩
    exact List.length_pos_of_mem (a := x) (List.mem_flatMap.2 ⟨k, List.mem_range.2 (by omega), hx⟩)

theorem VM.does_next (hw : w < m.thr.length) (o : OpV) (c : Nat × Bool) (i : Nat) : (m.does w o c).thr[i]!.next = if i = w then m.thr[w]!.next + 1 else m.thr[i]!.next := by
  have h0 : ∀ i : Nat, (m.nexts w).thr[i]!.next = if i = w then m.thr[w]!.next + 1 else m.thr[i]!.next := fun i => by
    simp only [VM.nexts, VM.setThr]
    rw [set_get _ _ _ _ hw]
    split <;> rfl
  have hw1 : w < (m.nexts w).thr.length := by simpa [VM.nexts, VM.setThr] using hw
  have key : ∀ (m' : VM) (hw' : w < m'.thr.length) (t' : Thr), t'.next = m'.thr[w]!.next → ∀ i : Nat, (m'.thr.set w t')[i]!.next = m'.thr[i]!.next := fun m' hw' t' ht i => by
    rw [set_get _ _ _ _ hw']
    split
    · rename_i e; subst e; exact ht
    · rfl
  have kr : ∀ (m' : VM) (hw' : w < m'.thr.length) n, ∀ i : Nat, (m'.reads w n o).thr[i]!.next = m'.thr[i]!.next := fun m' hw' n i => by
    simp only [VM.reads, VM.setThr]; exact key m' hw' _ (by rfl) i
  have kw : ∀ (m' : VM) (hw' : w < m'.thr.length) a x b, ∀ i : Nat, (m'.writes w a x o b).thr[i]!.next = m'.thr[i]!.next := fun m' hw' a x b i => by
    simp only [VM.writes]; exact key m' hw' _ (by rfl) i
  have kf : ∀ (m' : VM) (hw' : w < m'.thr.length), ∀ i : Nat, (m'.fenced w o).thr[i]!.next = m'.thr[i]!.next := fun m' hw' i => by
    simp only [VM.fenced]; exact key m' hw' _ (by rfl) i
  have hwr : ∀ n, w < ((m.nexts w).reads w n o).thr.length := fun n => by simpa [VM.reads, VM.setThr] using hw1
  rw [← h0 i]
  simp only [VM.does]
  split
  · exact kf _ hw1 i
  · split
    · split
      · exact kw _ hw1 _ _ _ i
      · rfl
    · split
      · rw [kw _ (hwr _) _ _ _ i, kr _ hw1 _ i]
      · exact kr _ hw1 _ i

theorem VM.turn_ok2 {w : Nat} (hw : w < m.thr.length) (h2 : m.thr[w]!.next ≠ m.prog[w]!.length) : m.turn w = (m.prog[w]![m.thr[w]!.next]!, 0) := by
  simp only [VM.turn, Int.toNat_natCast]
  rw [if_neg (by omega), if_neg h2]

theorem VM.choicesR_pos (wf : m.Wf B) {who : Int} (h : (m.choicesR who).2 = 0) : 0 < (m.choicesR who).1 := by
  unfold VM.choicesR at h ⊢
  rcases turn_cases m who with h1 | ⟨h1, w, rfl, hw, h2, e⟩
  · rw [if_pos h1] at h; exact absurd h h1
  · rw [if_neg (by simpa using h1), Int.toNat_natCast]
    have := VM.choices_pos (w := w) wf _ (e ▸ op_ok wf hw h2)
    dsimp only; omega

theorem VM.choicesR_len (wf : m.Wf B) (who : Int) : (m.choicesR who).1 ≤ 2 * B + 1 := by
  unfold VM.choicesR
  rcases turn_cases m who with h1 | ⟨h1, w, rfl, hw, h2, e⟩
  · rw [if_pos h1]; dsimp only; omega
  · rw [if_neg (by simpa using h1), Int.toNat_natCast]
    have ho := op_ok wf hw h2
    rw [← e] at ho
    have hl : (m.turn w).1.loc.toNat < 3 := by have := ho.2.2.1; have := ho.2.2.2.1; omega
    have hll := wf.ll _ hl
    have : (m.choices w (m.turn w).1).length ≤ 2 * B + 1 := by
      unfold VM.choices
      split
      · simp
      · have := fromN_len (m.choicesAt (m.turn w).1) (m.low w (m.turn w).1) (fun k => by unfold VM.choicesAt; split <;> split <;> simp) ((m.line (m.turn w).1.loc.toNat).length - m.low w (m.turn w).1)
        have e2 : m.choicesFrom (m.turn w).1 (m.low w (m.turn w).1) ((m.line (m.turn w).1.loc.toNat).length - m.low w (m.turn w).1) = fromN (m.choicesAt (m.turn w).1) (m.low w (m.turn w).1) ((m.line (m.turn w).1.loc.toNat).length - m.low w (m.turn w).1) := rfl
        rw [e2]; omega
    dsimp only; omega

theorem VM.turnP_inv (iv : m.Inv B) (hB : B + 2 < 1000000) (who : Int) (f : Int → Int) : (m.turnP who f).Inv (B + 2) ∧ m.Le (m.turnP who f) := by
  unfold VM.turnP
  split
  · exact step_inv iv hB who _
  · exact ⟨⟨iv.wf.up (by omega) hB, iv.nd, iv.ow⟩, .refl m⟩

/-- The last choice of a thread that is not at its end. -/
theorem VM.turnP_left (iv : m.Inv B) {w : Nat} (hw : w < m.thr.length) (h : 0 < m.leftOf w) (i : Nat) : (m.turnP w (· - 1)).leftOf i = if i = w then m.leftOf w - 1 else m.leftOf i := by
  have h2 : m.thr[w]!.next ≠ m.prog[w]!.length := by unfold VM.leftOf at h; omega
  have ht := VM.turn_ok2 hw h2
  have ho := op_ok iv.wf hw h2
  have hp := VM.choices_pos (w := w) iv.wf _ ho
  have hc : m.choicesR w = (((m.choices w (m.prog[w]![m.thr[w]!.next]!)).length : Int), 0) := by
    simp only [VM.choicesR, ht, ne_eq, not_true_eq_false, if_false, Int.toNat_natCast]
  have hs : ∃ c, (m.step w (((m.choices w (m.prog[w]![m.thr[w]!.next]!)).length : Int) - 1)).1 = m.does w (m.prog[w]![m.thr[w]!.next]!) c := by
    simp only [VM.step, ht, ne_eq, not_true_eq_false, if_false, Int.toNat_natCast]
    rw [if_neg (by omega)]
    exact ⟨_, rfl⟩
  obtain ⟨c, hs⟩ := hs
  have e : m.turnP w (· - 1) = m.does w (m.prog[w]![m.thr[w]!.next]!) c := by
    simp only [VM.turnP, hc, if_true]; exact hs
  have hpr : (m.turnP w (· - 1)).prog = m.prog := by
    unfold VM.turnP
    split
    · unfold VM.step; split
      · rfl
      · split
        · rfl
        · dsimp only
          simp only [VM.does]
          split
          · rfl
          · split
            · split <;> rfl
            · split <;> rfl
    · rfl
  unfold VM.leftOf
  rw [hpr, e, VM.does_next hw]
  split
  · rename_i e; subst e; omega
  · rfl

theorem VM.ends_inv (iv : m.Inv B) {w : Nat} (hw : w < m.thr.length) : ∀ k : Nat, (k : Int) ≤ m.leftOf w → B + 2 * k < 1000000 →
    (m.ends w k).Inv (B + 2 * k) ∧ m.Le (m.ends w k) ∧ ∀ i, (m.ends w k).leftOf i = if i = w then m.leftOf w - k else m.leftOf i
  | 0, _, _ => ⟨by show m.Inv (B + 2 * 0); simpa using iv, .refl m, fun i => by simp only [VM.ends]; split <;> simp_all⟩
  | k + 1, hk, hB => by
    obtain ⟨i1, l1, f1⟩ := VM.ends_inv iv hw k (by omega) (by omega)
    have hw1 : w < (m.ends w k).thr.length := by rw [l1.tl]; exact hw
    obtain ⟨i2, l2⟩ := VM.turnP_inv i1 (by omega) w (· - 1)
    have hl : 0 < (m.ends w k).leftOf w := by rw [f1 w, if_pos rfl]; omega
    refine ⟨?_, l1.trans l2, fun i => ?_⟩
    · have : B + 2 * (k + 1) = B + 2 * k + 2 := by omega
      rw [this]; exact i2
    · show ((m.ends w k).turnP w (· - 1)).leftOf i = _
      rw [VM.turnP_left i1 hw1 hl i, f1 w, if_pos rfl, f1 i]
      split
      · push_cast; omega
      · rfl

def VM.leftSum (m : VM) (n : Nat) : Nat := ((List.range n).map fun i => (m.leftOf i).toNat).sum

theorem VM.endAll_inv (iv : m.Inv B) : ∀ k, k ≤ m.thr.length → B + 2 * m.leftSum k < 1000000 →
    (m.endAll k).Inv (B + 2 * m.leftSum k) ∧ m.Le (m.endAll k) ∧ ∀ i, i < m.thr.length → (m.endAll k).leftOf i = if i < k then 0 else m.leftOf i
  | 0, _, _ => ⟨by show m.Inv (B + 2 * 0); simpa using iv, .refl m, fun i _ => by simp [VM.endAll]⟩
  | k + 1, hk, hB => by
    have hs : m.leftSum (k + 1) = m.leftSum k + (m.leftOf k).toNat := by simp [VM.leftSum, List.range_succ]
    rw [hs] at hB ⊢
    obtain ⟨i1, l1, f1⟩ := VM.endAll_inv iv k (by omega) (by omega)
    have hk1 : k < (m.endAll k).thr.length := by rw [l1.tl]; omega
    have hl0 : 0 ≤ m.leftOf k := by have := iv.wf.nx k (by omega); unfold VM.leftOf; omega
    have e : (m.endAll k).leftOf k = m.leftOf k := by rw [f1 k (by omega), if_neg (by omega)]
    obtain ⟨i2, l2, f2⟩ := VM.ends_inv i1 hk1 ((m.endAll k).leftOf k).toNat (by rw [e]; omega) (by rw [e]; omega)
    refine ⟨?_, l1.trans l2, fun i hi => ?_⟩
    · have : B + 2 * (m.leftSum k + (m.leftOf k).toNat) = B + 2 * m.leftSum k + 2 * ((m.endAll k).leftOf k).toNat := by rw [e]; omega
      rw [this]; exact i2
    · show ((m.endAll k).ends k ((m.endAll k).leftOf k).toNat).leftOf i = _
      rw [f2 i, e, f1 i hi]
      by_cases h1 : i = k
      · subst h1; rw [if_pos rfl, if_pos (by omega)]; omega
      · rw [if_neg h1]
        by_cases h2 : i < k
        · rw [if_pos h2, if_pos (by omega)]
        · rw [if_neg h2, if_neg (by omega)]

theorem VM.leftSum_le {K : Nat} : ∀ n, (∀ i, i < n → m.leftOf i ≤ K) → m.leftSum n ≤ n * K
  | 0, _ => by simp [VM.leftSum]
  | n + 1, h => by
    have hs : m.leftSum (n + 1) = m.leftSum n + (m.leftOf n).toNat := by simp [VM.leftSum, List.range_succ]
    have h1 := VM.leftSum_le n (fun i hi => h i (by omega))
    have h2 := h n (by omega)
    rw [hs, Nat.succ_mul]; omega

theorem VM.endAll_over (iv : m.Inv B) (hB : B + 2 * m.leftSum m.thr.length < 1000000) : (m.endAll m.thr.length).over = true := by
  obtain ⟨_, l1, f1⟩ := VM.endAll_inv iv m.thr.length (Nat.le_refl _) hB
  have : ((m.endAll m.thr.length).lefts (m.endAll m.thr.length).thr.length).any (fun x => decide (0 < x)) = false := by
    rw [List.any_eq_false]
    intro x hx
    obtain ⟨i, hi, rfl⟩ := List.mem_map.1 hx
    have hi' := List.mem_range.1 hi
    rw [l1.tl] at hi'
    rw [f1 i hi', if_pos hi']
    simp
  unfold VM.over
  rw [this]; rfl

theorem VM.played_inv (iv : m.Inv B) : ∀ turns : List (Int × Int), B + 2 * turns.length < 1000000 → (m.played turns).Inv (B + 2 * turns.length) ∧ m.Le (m.played turns) := by
  intro turns
  induction turns generalizing m B with
  | nil => intro _; exact ⟨by show m.Inv (B + 2 * 0); simpa using iv, .refl m⟩
  | cons t ts ih =>
    intro hB
    rw [List.length_cons] at hB ⊢
    obtain ⟨i1, l1⟩ := VM.turnP_inv iv (by omega) t.1 (modP t.2)
    obtain ⟨i2, l2⟩ := ih i1 (by omega)
    have : B + 2 * (ts.length + 1) = B + 2 + 2 * ts.length := by omega
    rw [this]
    exact ⟨i2, l1.trans l2⟩

theorem VM.played_take (m : VM) {xs : List (Int × Int)} {j : Nat} (h : j < xs.length) : m.played (xs.take (j + 1)) = (m.played (xs.take j)).turnP xs[j].1 (modP xs[j].2) := by
  rw [VM.played, List.take_succ_eq_append_getElem h, List.foldl_append]; rfl

end

/-- What a play comes to. -/
def playP (ts : List (List OpV)) (turns : List (Int × Int)) : List Int × Int :=
  if checkP ts ≠ 0 then ([], checkP ts)
  else if 100 < turns.length then ([], 1)
  else ((((VM.new (ts.map expT)).played turns).endAll ts.length).outcome, 0)

end Go.EV

namespace Go.EV
open Go.Proofs

section
variable {M : PHeap}

theorem ref_Mod_q (c n : Int) (hn : 0 < n) (hb : n < 1000000000) : ConQ Try.prog 40 #[vi c, vi n] M (vi (modP c n)) := by
  have hn0 : (n = 0) = False := eq_false (by omega)
  have t1 : c.tmod n < n := Int.tmod_lt_of_pos c hn
  have t2 : -n < c.tmod n := by
    have := Int.lt_tmod_of_pos c hn
    omega
  have hw : IntKind.i64.wrap (c.tmod n + n) = c.tmod n + n := w64 (by omega) (by omega)
  refine Con.enter Q19_ok (args := [vi c, vi n]) (by simp [Q19]) fun w0 => ?_
  simp only [Q19, argE]
  repeat' first
      | refine EV.seq ?_
      | refine EV.skip ?_
      | (refine EV.reg ?_; (conv => (arg 2; whnf)); simp only [push_cast, Int.cast_ofNat_Int, reduceIte, Nat.reduceEqDiff, reduceCtorEq, Nat.reduceAdd, Nat.reduceSub, Nat.reduceMul, Int.reduceToNat, Nat.reduceLeDiff, hn0, hw, onv_some])
      | ((refine EV.cond rfl (fun h => ?_) (fun h => ?_) <;> try simp only [reduceCtorEq, reduceIte, if_true, if_false, Bool.not_eq_true', Bool.not_eq_false', decide_eq_true_eq, decide_eq_false_iff_not, Bool.and_eq_true, Bool.or_eq_true, Bool.and_eq_false_iff, Bool.or_eq_false_iff] at h) <;> try (exfalso; first | exact h True.intro | (exact h; done) | omega | (simp only [not_true_eq_false, false_or, or_false] at h; omega)))
      | (refine EV.ret Q19_ok ?_; simp only [push_cast, Int.cast_ofNat_Int, reduceIte, Nat.reduceEqDiff, reduceCtorEq, Nat.reduceAdd, Nat.reduceSub, Nat.reduceMul, Int.reduceToNat, Nat.reduceLeDiff, hn0, hw, onv_some, Q19])
      | fail
  all_goals (unfold modP; simp_all <;> omega)

theorem view_S2_q (c0 c n : Int) (b : Nat) (hrd : rd M b 0 2 [vi c0, vi c]) (hn : 0 < n) (hb : n < 1000000000) : ConQ Try.prog 35 #[vi n, pv b 0] M (vi (modP c n)) := by
  have hn0 : (n = 0) = False := eq_false (by omega)
  have t1 : c.tmod n < n := Int.tmod_lt_of_pos c hn
  have t2 : -n < c.tmod n := by
    have := Int.lt_tmod_of_pos c hn
    omega
  have hw : IntKind.i64.wrap (c.tmod n + n) = c.tmod n + n := w64 (by omega) (by omega)
  have he := modP_eq (c := c) hn
  have h1 : rd M b 1 1 [vi c] := hrd.part0 1 1 (by omega) rfl
  refine Con.enter Q91_ok (args := [vi n, pv b 0]) (by simp [Q91]) fun w0 => ?_
  simp only [Q91, argE]
  repeat' first
      | refine EV.seq ?_
      | (refine EV.reg ?_; (conv => (arg 2; whnf)); simp only [push_cast, Int.cast_ofNat_Int, reduceIte, Nat.reduceEqDiff, reduceCtorEq, Nat.reduceAdd, Nat.reduceSub, Nat.reduceMul, Int.reduceToNat, Nat.reduceLeDiff, hn0, hw, onv_some, he])
      | (refine EV.ret Q91_ok ?_; simp only [push_cast, Int.cast_ofNat_Int, reduceIte, Nat.reduceEqDiff, reduceCtorEq, Nat.reduceAdd, Nat.reduceSub, Nat.reduceMul, Int.reduceToNat, Nat.reduceLeDiff, hn0, hw, onv_some, he, Q91])
      | (refine And.intro (by omega) ?_)
      | (refine Exists.intro _ (And.intro (rd_M (by assumption)) ?_); try simp only [push_cast, Int.cast_ofNat_Int, reduceIte, Nat.reduceEqDiff, reduceCtorEq, Nat.reduceAdd, Nat.reduceSub, Nat.reduceMul, Int.reduceToNat, Nat.reduceLeDiff, hn0, hw, onv_some, he])
      | fail

theorem view_S3_q (n : Int) (hn : 0 < n) (hb : n < 1000000000) : ConQ Try.prog 37 #[vi n] M (vi (n - 1)) := by
  have hw : IntKind.i64.wrap (n - 1) = n - 1 := w64 (by omega) (by omega)
  refine Con.enter Q92_ok (args := [vi n]) (by simp [Q92]) fun w0 => ?_
  simp only [Q92, argE]
  repeat' first
      | refine EV.seq ?_
      | (refine EV.reg ?_; (conv => (arg 2; whnf)); simp only [push_cast, Int.cast_ofNat_Int, reduceIte, Nat.reduceEqDiff, reduceCtorEq, Nat.reduceAdd, Nat.reduceSub, Nat.reduceMul, Int.reduceToNat, Nat.reduceLeDiff, hw])
      | (refine EV.ret Q92_ok ?_; simp only [push_cast, Int.cast_ofNat_Int, reduceIte, Nat.reduceEqDiff, reduceCtorEq, Nat.reduceAdd, Nat.reduceSub, Nat.reduceMul, Int.reduceToNat, Nat.reduceLeDiff, hw, Q92])
      | fail

end
end Go.EV

namespace Go.EV
open Go.Proofs

section
variable {M : PHeap} {mp bb : Nat} {B : Nat}

/-- What picks a choice out of so many. -/
def Picks (M : PHeap) (f : FuncId) (caps : Array Value) (fv : Int → Int) (B : Nat) : Prop := ∀ M', M.le M' → ∀ n : Int, 0 < n → n ≤ 2 * B + 1 → ConQ Try.prog f (#[vi n] ++ caps) M' (vi (fv n))

def TurnedV (mp : Nat) (p : PM) (m' : VM) (_ : Value) (_ : PHeap) (G' : Own) : Prop := ∃ p2 : PM, G' = p2.G mp ∧ p2.Ok ∧ p2.vm = m' ∧ p2.pg = p.pg ∧ p2.pc = p.pc

set_option maxRecDepth 8000 in
set_option maxHeartbeats 8000000 in
theorem view_Play_S1_c (p : PM) (ok : p.Ok) (hpg : SlSl M 5 encOp (.slice p.pg p.prog.length p.pc) p.prog) (wf : p.vm.Wf B) (hB : B + 2 < 1000000) (hbx : rd M bb 0 1 [pv mp 0]) (who : Int) (f : FuncId) (caps : Array Value) (fv : Int → Int) (hp : Picks M f caps fv B) :
    Con Try.prog 34 #[vi who, .func (.func f) #[] caps, pv bb 0] M (p.G mp) (TurnedV mp p (p.vm.turnP who fv)) := by
  refine Con.enter Q90_ok (args := [vi who, .func (.func f) #[] caps, pv bb 0]) (by simp [Q90]) fun w0 => ?_
  simp only [Q90, argE]
  have hcl := VM.choicesR_len wf who
  by_cases h0 : (p.vm.choicesR who).2 = 0
  · have hcp := VM.choicesR_pos wf h0
    have e : p.vm.turnP who fv = (p.vm.step who (fv (p.vm.choicesR who).1)).1 := by simp only [VM.turnP, h0, if_true]
    rw [e]
    repeat' first
        | refine EV.seq ?_
        | (refine EV.reg ?_; (conv => (arg 2; whnf)); simp only [push_cast, Int.cast_ofNat_Int, reduceIte, Nat.reduceEqDiff, reduceCtorEq, Nat.reduceAdd, Nat.reduceSub, Nat.reduceMul, Int.reduceToNat, Nat.reduceLeDiff])
        | (refine ConQ.call (view_Choices_q (PM.rdM ok hpg (fun q hq => by simp [hq])) wf _) ?_; try simp only [push_cast, Int.cast_ofNat_Int, reduceIte, Nat.reduceEqDiff, reduceCtorEq, Nat.reduceAdd, Nat.reduceSub, Nat.reduceMul, Int.reduceToNat, Nat.reduceLeDiff])
        | ((refine EV.cond rfl (fun h => ?_) (fun h => ?_) <;> try simp only [reduceCtorEq, reduceIte, if_true, if_false, Bool.not_eq_true', Bool.not_eq_false', decide_eq_true_eq, decide_eq_false_iff_not, Bool.and_eq_true, Bool.or_eq_true, Bool.and_eq_false_iff, Bool.or_eq_false_iff] at h) <;> try (exfalso; first | exact h True.intro | (exact h; done) | omega | (simp only [not_true_eq_false, false_or, or_false] at h; omega)))
        | (refine Exists.intro _ (And.intro (rd_M (by assumption)) ?_); try simp only [push_cast, Int.cast_ofNat_Int, reduceIte, Nat.reduceEqDiff, reduceCtorEq, Nat.reduceAdd, Nat.reduceSub, Nat.reduceMul, Int.reduceToNat, Nat.reduceLeDiff])
        | fail
    · refine EV.any (t := Q90_2) _ (List.nil_sublist _) ?_
      simp only [push_cast, Int.cast_ofNat_Int, reduceIte, Nat.reduceEqDiff, reduceCtorEq, Nat.reduceAdd, Nat.reduceSub, Nat.reduceMul, Int.reduceToNat, Nat.reduceLeDiff, Q90_2]
      repeat' first
          | (refine Exists.intro _ (And.intro (rd_M (by assumption)) ?_); try simp only [push_cast, Int.cast_ofNat_Int, reduceIte, Nat.reduceEqDiff, reduceCtorEq, Nat.reduceAdd, Nat.reduceSub, Nat.reduceMul, Int.reduceToNat, Nat.reduceLeDiff])
          | fail
      refine ConQ.call (hp _ (PHeap.le_add _ _) _ hcp (by omega)) ?_
      refine And.intro (PHeap.le_refl _) (And.intro (fun _ h => absurd h List.not_mem_nil) ?_)
      refine Con.callB (Mr := M) (G2 := []) (view_Step_c p ok hpg wf hB who _) (PHeap.le_add _ _) (by rw [List.append_nil]) ?_
      rintro v1 M1 G1 ⟨rfl, p2, rfl, ok2, hvm2, e1, e2⟩
      refine EV.done Q90_ok ?_
      simp only [push_cast, Int.cast_ofNat_Int, reduceIte, Nat.reduceEqDiff, reduceCtorEq, Nat.reduceAdd, Nat.reduceSub, Nat.reduceMul, Int.reduceToNat, Nat.reduceLeDiff, Q90]
      exact ⟨p2, rfl, ok2, hvm2, e1, e2⟩
  · have e : p.vm.turnP who fv = p.vm := by simp only [VM.turnP, h0, if_false]
    rw [e]
    repeat' first
        | refine EV.seq ?_
        | refine EV.skip ?_
        | (refine EV.reg ?_; (conv => (arg 2; whnf)); simp only [push_cast, Int.cast_ofNat_Int, reduceIte, Nat.reduceEqDiff, reduceCtorEq, Nat.reduceAdd, Nat.reduceSub, Nat.reduceMul, Int.reduceToNat, Nat.reduceLeDiff])
        | (refine ConQ.call (view_Choices_q (PM.rdM ok hpg (fun q hq => by simp [hq])) wf _) ?_; try simp only [push_cast, Int.cast_ofNat_Int, reduceIte, Nat.reduceEqDiff, reduceCtorEq, Nat.reduceAdd, Nat.reduceSub, Nat.reduceMul, Int.reduceToNat, Nat.reduceLeDiff])
        | ((refine EV.cond rfl (fun h => ?_) (fun h => ?_) <;> try simp only [reduceCtorEq, reduceIte, if_true, if_false, Bool.not_eq_true', Bool.not_eq_false', decide_eq_true_eq, decide_eq_false_iff_not, Bool.and_eq_true, Bool.or_eq_true, Bool.and_eq_false_iff, Bool.or_eq_false_iff] at h) <;> try (exfalso; first | exact h True.intro | (exact h; done) | omega | (simp only [not_true_eq_false, false_or, or_false] at h; omega)))
        | (refine Exists.intro _ (And.intro (rd_M (by assumption)) ?_); try simp only [push_cast, Int.cast_ofNat_Int, reduceIte, Nat.reduceEqDiff, reduceCtorEq, Nat.reduceAdd, Nat.reduceSub, Nat.reduceMul, Int.reduceToNat, Nat.reduceLeDiff])
        | fail
    refine EV.done Q90_ok ?_
    simp only [push_cast, Int.cast_ofNat_Int, reduceIte, Nat.reduceEqDiff, reduceCtorEq, Nat.reduceAdd, Nat.reduceSub, Nat.reduceMul, Int.reduceToNat, Nat.reduceLeDiff, Q90]
    exact ⟨p, rfl, ok, rfl, rfl, rfl⟩

set_option maxRecDepth 8000 in
set_option maxHeartbeats 8000000 in
theorem view_Play_c (ts : List (List OpV)) (s : Value) (hs : SlSl M 5 encOp s ts) (hb : ts.flatten.length < 60) (hb' : ts.length < 60) (turns : List (Int × Int)) (tv : Value) (htv : Sl M 2 encTurn tv turns) (hbt : turns.length < 1000000) :
    Con Try.prog 14 #[.agg #[s], tv] M [] (RowT (playP ts turns).1 (playP ts turns).2) := by
  have hs0 := hs
  obtain ⟨a, c, vs, rfl, _⟩ := hs
  obtain ⟨ta, tc, rfl, hrt⟩ := htv
  refine Con.enter Q89_ok (args := [.agg #[.slice a ts.length c], .slice ta turns.length tc]) (by simp [Q89]) fun w0 => ?_
  simp only [Q89, argE]
  repeat' first
      | refine EV.seq ?_
      | (refine EV.reg ?_; (conv => (arg 2; whnf)); simp only [push_cast, Int.cast_ofNat_Int, reduceIte, Nat.reduceEqDiff, reduceCtorEq, Nat.reduceAdd, Nat.reduceSub, Nat.reduceMul, Int.reduceToNat, Nat.reduceLeDiff])
      | ((first | with_reducible intro b | refine xr rfl (by simp only [List.length_cons, List.length_nil]; omega) ?_ | fail); try simp only [push_cast, Int.cast_ofNat_Int, reduceIte, Nat.reduceEqDiff, reduceCtorEq, Nat.reduceAdd, Nat.reduceSub, Nat.reduceMul, Int.reduceToNat, Nat.reduceLeDiff])
      | fail
  refine Con.callA (G1 := []) (view_New_c ts _ hs0 (by omega) (by omega)) (List.Perm.refl _) ?_
  rintro v M1 G1 hM1 h1
  rcases h1 with ⟨hne, rfl⟩ | ⟨hck, mp, p, rfl, rfl, ok, hvm, hpg⟩
  · simp only [push_cast, Int.cast_ofNat_Int, reduceIte, Nat.reduceEqDiff, reduceCtorEq, Nat.reduceAdd, Nat.reduceSub, Nat.reduceMul, Int.reduceToNat, Nat.reduceLeDiff]
    repeat' first
        | refine EV.seq ?_
        | (refine EV.reg ?_; (conv => (arg 2; whnf)); simp only [push_cast, Int.cast_ofNat_Int, reduceIte, Nat.reduceEqDiff, reduceCtorEq, Nat.reduceAdd, Nat.reduceSub, Nat.reduceMul, Int.reduceToNat, Nat.reduceLeDiff])
        | ((refine EV.cond rfl (fun h => ?_) (fun h => ?_) <;> try simp only [reduceCtorEq, reduceIte, if_true, if_false, Bool.not_eq_true', Bool.not_eq_false', decide_eq_true_eq, decide_eq_false_iff_not, Bool.and_eq_true, Bool.or_eq_true, Bool.and_eq_false_iff, Bool.or_eq_false_iff] at h) <;> try (exfalso; first | exact h True.intro | (exact h; done) | omega | (simp only [not_true_eq_false, false_or, or_false] at h; omega)))
        | (with_reducible intro b; try simp only [push_cast, Int.cast_ofNat_Int, reduceIte, Nat.reduceEqDiff, reduceCtorEq, Nat.reduceAdd, Nat.reduceSub, Nat.reduceMul, Int.reduceToNat, Nat.reduceLeDiff])
        | (refine xw ?_; simp only [push_cast, Int.cast_ofNat_Int, reduceIte, Nat.reduceEqDiff, reduceCtorEq, Nat.reduceAdd, Nat.reduceSub, Nat.reduceMul, Int.reduceToNat, Nat.reduceLeDiff])
        | fail
    refine EV.weaken (G' := []) ?_ (fun _ _ h => h) (List.nil_sublist _)
    refine EV.ret Q89_ok ?_
    simp only [push_cast, Int.cast_ofNat_Int, reduceIte, Nat.reduceEqDiff, reduceCtorEq, Nat.reduceAdd, Nat.reduceSub, Nat.reduceMul, Int.reduceToNat, Nat.reduceLeDiff, Q89]
    have e : playP ts turns = ([], checkP ts) := by simp only [playP, ne_eq, hne, not_false_eq_true, if_true]
    rw [e]
    exact ⟨none, rfl, ⟨rfl, rfl⟩, rfl⟩
  · simp only [push_cast, Int.cast_ofNat_Int, reduceIte, Nat.reduceEqDiff, reduceCtorEq, Nat.reduceAdd, Nat.reduceSub, Nat.reduceMul, Int.reduceToNat, Nat.reduceLeDiff]
    repeat' first
        | refine EV.seq ?_
        | refine EV.skip ?_
        | refine EV.block ?_
        | (refine EV.reg ?_; (conv => (arg 2; whnf)); simp only [push_cast, Int.cast_ofNat_Int, reduceIte, Nat.reduceEqDiff, reduceCtorEq, Nat.reduceAdd, Nat.reduceSub, Nat.reduceMul, Int.reduceToNat, Nat.reduceLeDiff])
        | ((refine EV.cond rfl (fun h => ?_) (fun h => ?_) <;> try simp only [reduceCtorEq, reduceIte, if_true, if_false, Bool.not_eq_true', Bool.not_eq_false', decide_eq_true_eq, decide_eq_false_iff_not, Bool.and_eq_true, Bool.or_eq_true, Bool.and_eq_false_iff, Bool.or_eq_false_iff] at h) <;> try (exfalso; first | exact h True.intro | (exact h; done) | omega | (simp only [not_true_eq_false, false_or, or_false] at h; omega)))
        | (with_reducible intro b; try simp only [push_cast, Int.cast_ofNat_Int, reduceIte, Nat.reduceEqDiff, reduceCtorEq, Nat.reduceAdd, Nat.reduceSub, Nat.reduceMul, Int.reduceToNat, Nat.reduceLeDiff])
        | (refine xw ?_; simp only [push_cast, Int.cast_ofNat_Int, reduceIte, Nat.reduceEqDiff, reduceCtorEq, Nat.reduceAdd, Nat.reduceSub, Nat.reduceMul, Int.reduceToNat, Nat.reduceLeDiff])
        | fail
    · refine EV.weaken (G' := []) ?_ (fun _ _ h => h) (List.nil_sublist _)
      refine EV.ret Q89_ok ?_
      simp only [push_cast, Int.cast_ofNat_Int, reduceIte, Nat.reduceEqDiff, reduceCtorEq, Nat.reduceAdd, Nat.reduceSub, Nat.reduceMul, Int.reduceToNat, Nat.reduceLeDiff, Q89]
      have e : playP ts turns = ([], 1) := by
        unfold playP
        rw [if_neg (by simp [hck]), if_pos (by omega)]
      rw [e]
      exact ⟨none, rfl, ⟨rfl, rfl⟩, rfl⟩
    have ep : playP ts turns = ((((VM.new (ts.map expT)).played turns).endAll ts.length).outcome, 0) := by
      unfold playP
      rw [if_neg (by simp [hck]), if_neg (by omega)]
    rw [ep]
    have iv0 := new_inv hck (by omega) (show 10 < 1000000 by decide) (by decide)
    have htl : (VM.new (ts.map expT)).thr.length = ts.length := by simp [VM.new]
    have hm0p : (VM.new (ts.map expT)).prog = ts.map expT := rfl
    generalize VM.new (ts.map expT) = m0 at hvm iv0 htl hm0p ⊢
    have ivm := iv0
    rw [← hvm] at iv0
    obtain ⟨bb, hbb⟩ : ∃ x, x = b := ⟨_, rfl⟩
    subst hbb
    refine EV.to (ρ' := [(6, pv bb 0), (8, .func (.func 34) #[] #[pv bb 0]), (24, .slice ta turns.length tc), (25, vi turns.length), (26, vi (0 : Nat))]) (G' := [(bb, Cl 28 [pv mp 0])] ++ p.G mp) ?_ ?env0 (List.Sublist.cons_cons _ (List.Sublist.cons _ (List.Sublist.refl _)))
    case env0 =>
      repeat' first
        | (refine List.forall_mem_cons.2 (And.intro ?_ ?_))
        | (intro _ hnil; cases hnil; done)
        | rfl
        | fail
    refine EV.freeze ?_
    generalize hN : M1.add [(bb, Cl 28 [pv mp 0])] = N
    have hMN : M1.le N := hN ▸ PHeap.le_add _ _
    have hbx : rd N bb 0 1 [pv mp 0] := hN ▸ rd_own' 0 rfl rfl (by simp)
    have hrtN := (hrt.mono hM1).mono hMN
    have hpgN := hpg.mono hMN
    clear hN
    refine EV.loop (fun x : Nat × PHeap × PM => ([(6, pv bb 0), (8, .func (.func 34) #[] #[pv bb 0]), (24, .slice ta turns.length tc), (25, vi turns.length), (26, vi x.1)], x.2.1, x.2.2.G mp))
      (fun x => x.1 ≤ turns.length ∧ N.le x.2.1 ∧ x.2.2.Ok ∧ SlSl x.2.1 5 encOp (.slice x.2.2.pg x.2.2.prog.length x.2.2.pc) x.2.2.prog ∧ x.2.2.vm = m0.played (turns.take x.1) ∧ x.2.2.vm.Inv (10 + 2 * x.1)) (fun x => turns.length - x.1) (0, N, p) ⟨Nat.zero_le _, PHeap.le_refl _, ok, hpgN, hvm, iv0⟩ ?_
    rintro ⟨i, Ni, p⟩ ⟨hi, hNi, ok, hpg, hvi, iv⟩ ih
    dsimp only at hi hNi ok hpg hvi iv ih ⊢
    repeat' first
        | refine EV.seq ?_
        | refine EV.skip ?_
        | refine EV.block ?_
        | (refine EV.reg ?_; (conv => (arg 2; whnf)); simp only [push_cast, Int.cast_ofNat_Int, reduceIte, Nat.reduceEqDiff, reduceCtorEq, Nat.reduceAdd, Nat.reduceSub, Nat.reduceMul, Int.reduceToNat, Nat.reduceLeDiff])
        | ((refine EV.cond rfl (fun h => ?_) (fun h => ?_) <;> try simp only [reduceCtorEq, reduceIte, if_true, if_false, Bool.not_eq_true', Bool.not_eq_false', decide_eq_true_eq, decide_eq_false_iff_not, Bool.and_eq_true, Bool.or_eq_true, Bool.and_eq_false_iff, Bool.or_eq_false_iff] at h) <;> try (exfalso; first | exact h True.intro | (exact h; done) | omega | (simp only [not_true_eq_false, false_or, or_false] at h; omega)))
        | (refine EV.exit rfl ?_)
        | fail
    · have hi' : i < turns.length := by omega
      obtain ⟨tb, to, rfl, hat⟩ := Sl.at (enc := encTurn) (fun _ => rfl) (by omega) (hrtN.mono hNi) (by omega)
      have hr2 := hat i hi'
      repeat' first
          | (refine EV.reg ?_; (conv => (arg 2; whnf)); simp only [push_cast, Int.cast_ofNat_Int, reduceIte, Nat.reduceEqDiff, reduceCtorEq, Nat.reduceAdd, Nat.reduceSub, Nat.reduceMul, Int.reduceToNat, Nat.reduceLeDiff])
          | (with_reducible intro b; try simp only [push_cast, Int.cast_ofNat_Int, reduceIte, Nat.reduceEqDiff, reduceCtorEq, Nat.reduceAdd, Nat.reduceSub, Nat.reduceMul, Int.reduceToNat, Nat.reduceLeDiff])
          | (refine And.intro (by omega) ?_)
          | ((first | refine Exists.intro _ (And.intro (rd_M (by assumption)) ?_) | refine xi rfl (by simp only [List.length_cons, List.length_nil]; omega) ?_ | fail); try simp only [push_cast, Int.cast_ofNat_Int, reduceIte, Nat.reduceEqDiff, reduceCtorEq, Nat.reduceAdd, Nat.reduceSub, Nat.reduceMul, Int.reduceToNat, Nat.reduceLeDiff])
          | (refine xw ?_; simp only [push_cast, Int.cast_ofNat_Int, reduceIte, Nat.reduceEqDiff, reduceCtorEq, Nat.reduceAdd, Nat.reduceSub, Nat.reduceMul, Int.reduceToNat, Nat.reduceLeDiff])
          | fail
      rw [show (#[Value.int IntKind.i64 turns[i].1, Value.func (.func 35) #[] #[pv b 0]] ++ #[pv bb 0] : Array Value) = #[vi turns[i].1, .func (.func 35) #[] #[pv b 0], pv bb 0] from rfl]
      refine CallW.freeze (G2 := [_]) (G3 := p.G mp) (List.Perm.refl _) ?_
      generalize hN2 : Ni.add [(b, Cl 34 [vi turns[i].1, vi turns[i].2])] = N2
      have hL : Ni.le N2 := hN2 ▸ PHeap.le_add _ _
      have hrd2 : rd N2 b 0 2 [vi turns[i].1, vi turns[i].2] := hN2 ▸ rd_own' 0 rfl rfl (by simp)
      clear hN2
      have hpick : Picks N2 35 #[pv b 0] (modP turns[i].2) (10 + 2 * i) := fun M' hM n h1 h2 => view_S2_q turns[i].1 turns[i].2 n b (hrd2.mono hM) h1 (by omega)
      refine Con.callB (Mr := N2) (G2 := []) (view_Play_S1_c p ok (hpg.mono hL) iv.wf (by omega) ((hbx.mono hNi).mono hL) turns[i].1 _ _ _ hpick) (PHeap.le_add _ _) (by rw [List.append_nil]) ?_
      rintro v2 M2 G2 ⟨p2, rfl, ok2, hvm2, e1, e2⟩
      obtain ⟨iv2, le2⟩ := VM.turnP_inv iv (by omega) turns[i].1 (modP turns[i].2)
      rw [← hvm2] at iv2 le2
      have hpg2 : SlSl N2 5 encOp (.slice p2.pg p2.prog.length p2.pc) p2.prog := by
        have : p2.prog = p.prog := le2.pr
        rw [e1, e2, this]; exact hpg.mono hL
      simp only [push_cast, Int.cast_ofNat_Int, reduceIte, Nat.reduceEqDiff, reduceCtorEq, Nat.reduceAdd, Nat.reduceSub, Nat.reduceMul, Int.reduceToNat, Nat.reduceLeDiff]
      repeat' first
          | refine EV.inBlock ?_
          | (refine EV.reg ?_; (conv => (arg 2; whnf)); simp only [push_cast, Int.cast_ofNat_Int, reduceIte, Nat.reduceEqDiff, reduceCtorEq, Nat.reduceAdd, Nat.reduceSub, Nat.reduceMul, Int.reduceToNat, Nat.reduceLeDiff])
          | fail
      have he : 10 + 2 * (i + 1) = 10 + 2 * i + 2 := by omega
      refine EV.to (ih (i + 1, N2, p2) ⟨by dsimp only; omega, PHeap.le_trans hNi hL, ok2, hpg2, by dsimp only; rw [hvm2, hvi, VM.played_take _ hi'], by dsimp only; rw [he]; exact iv2⟩ (by dsimp only; omega)) ?_ (by (repeat' first | exact List.Sublist.refl _ | exact List.nil_sublist _ | exact List.sublist_append_left _ _ | refine List.Sublist.cons_cons _ ?_ | refine List.Sublist.append_left ?_ _ | refine List.sublist_append_of_sublist_right ?_ | refine List.Sublist.cons _ ?_))
      repeat' first
        | (refine List.forall_mem_cons.2 (And.intro ?_ ?_))
        | (intro _ hnil; cases hnil; done)
        | rfl
        | (refine env_w64 rfl (by first | rfl | (push_cast; first | rfl | omega)) (by omega) (by omega); done)
        | fail
    · have e : i = turns.length := by omega
      subst e
      rw [List.take_length] at hvi
      have hbi := hbx.mono hNi
      have hf5 := (PM.rdM (M := Ni) (G := p.G mp) ok hpg (fun q hq => hq)).f5
      have lep := (VM.played_inv ivm turns (by omega)).2
      rw [← hvi] at lep ⊢
      have hpr1 : p.vm.prog = ts.map expT := lep.pr.trans hm0p
      have htl1 : p.vm.thr.length = ts.length := lep.tl.trans htl
      have iv1 : p.vm.Inv 300 := ⟨iv.wf.up (by omega) (by omega), iv.nd, iv.ow⟩
      generalize hm1 : p.vm = m1 at iv1 hf5 hpr1 htl1 ⊢
      have hn3 := iv1.wf.t3
      have hK : ∀ i, i < m1.thr.length → m1.leftOf i ≤ (180 : Nat) := fun i hi => by
        have h1 : m1.prog[i]!.length ≤ 180 := by
          rw [hpr1, getB (by rw [List.length_map]; omega), List.getElem_map]
          have h2 := expT_len ts[i]
          have h3 := flat_mem_len (l := ts[i]) (List.getElem_mem _)
          omega
        unfold VM.leftOf; omega
      have hS : ∀ w, w ≤ m1.thr.length → m1.leftSum w ≤ 540 := fun w hw => by
        have := VM.leftSum_le (m := m1) (K := 180) w (fun i hi => hK i (by omega))
        have h2 : w * 180 ≤ 3 * 180 := Nat.mul_le_mul_right _ (by omega)
        omega
      repeat' first
          | refine EV.block ?_
          | ((first | refine Exists.intro _ (And.intro (rd_M (by assumption)) ?_) | refine Exists.intro _ (Exists.intro _ (Exists.intro _ (And.intro (by assumption) ?_))) | fail); try simp only [push_cast, Int.cast_ofNat_Int, reduceIte, Nat.reduceEqDiff, reduceCtorEq, Nat.reduceAdd, Nat.reduceSub, Nat.reduceMul, Int.reduceToNat, Nat.reduceLeDiff])
          | fail
      refine EV.to (ρ' := [(6, pv bb 0), (8, .func (.func 34) #[] #[pv bb 0]), (40, vi m1.thr.length), (41, vi (0 : Nat))]) (G' := p.G mp) ?_ ?env1 (List.Sublist.refl _)
      case env1 =>
        repeat' first
          | (refine List.forall_mem_cons.2 (And.intro ?_ ?_))
          | (intro _ hnil; cases hnil; done)
          | rfl
          | fail
      refine EV.loop (fun x : Nat × PM => ([(6, pv bb 0), (8, .func (.func 34) #[] #[pv bb 0]), (40, vi m1.thr.length), (41, vi x.1)], Ni, x.2.G mp))
        (fun x => x.1 ≤ m1.thr.length ∧ x.2.Ok ∧ SlSl Ni 5 encOp (.slice x.2.pg x.2.prog.length x.2.pc) x.2.prog ∧ x.2.vm = m1.endAll x.1) (fun x => m1.thr.length - x.1) (0, p) ⟨Nat.zero_le _, ok, hpg, hm1⟩ ?_
      rintro ⟨w, p⟩ ⟨hw, ok, hpg, hvw⟩ ih2
      dsimp only at hw ok hpg hvw ih2 ⊢
      have hSw := hS w hw
      obtain ⟨ivw, lew, fw⟩ := VM.endAll_inv iv1 w hw (by omega)
      rw [← hvw] at ivw lew fw
      have rM := PM.rdM (M := Ni) (G := p.G mp) ok hpg (fun q hq => hq)
      repeat' first
          | refine EV.seq ?_
          | refine EV.skip ?_
          | refine EV.block ?_
          | (refine EV.reg ?_; (conv => (arg 2; whnf)); simp only [push_cast, Int.cast_ofNat_Int, reduceIte, Nat.reduceEqDiff, reduceCtorEq, Nat.reduceAdd, Nat.reduceSub, Nat.reduceMul, Int.reduceToNat, Nat.reduceLeDiff])
          | ((refine EV.cond rfl (fun h => ?_) (fun h => ?_) <;> try simp only [reduceCtorEq, reduceIte, if_true, if_false, Bool.not_eq_true', Bool.not_eq_false', decide_eq_true_eq, decide_eq_false_iff_not, Bool.and_eq_true, Bool.or_eq_true, Bool.and_eq_false_iff, Bool.or_eq_false_iff] at h) <;> try (exfalso; first | exact h True.intro | (exact h; done) | omega | (simp only [not_true_eq_false, false_or, or_false] at h; omega)))
          | (refine EV.exit rfl ?_)
          | (refine Exists.intro _ (And.intro (rd_M (by assumption)) ?_); try simp only [push_cast, Int.cast_ofNat_Int, reduceIte, Nat.reduceEqDiff, reduceCtorEq, Nat.reduceAdd, Nat.reduceSub, Nat.reduceMul, Int.reduceToNat, Nat.reduceLeDiff])
          | fail
      · have hw' : w < m1.thr.length := by omega
        have hwl : w < p.vm.thr.length := by rw [lew.tl]; exact hw'
        have hlw : p.vm.leftOf w = m1.leftOf w := by rw [fw w hw', if_neg (by omega)]
        have hl0 : 0 ≤ m1.leftOf w := by have := iv1.wf.nx w hw'; unfold VM.leftOf; omega
        have hKw := hK w hw'
        repeat' first
            | fail
        refine Con.callB (Mr := Ni.add (p.G mp)) (G1 := []) (G2 := p.G mp) (view_left_c rM ivw.wf) (PHeap.le_refl _) (List.Perm.refl _) ?_
        rintro v3 M3 G3 ⟨ov, rfl, hov, rfl⟩
        have hll : (p.vm.lefts p.vm.thr.length).length = p.vm.thr.length := by simp [VM.lefts]
        obtain ⟨⟨ob, oc, os⟩, rfl⟩ : ∃ x, ov = some x := by
          cases ov with
          | none => exfalso; have := hov.1; omega
          | some x => exact ⟨x, rfl⟩
        have hrd : rd (Ni.add (p.G mp ++ osg 3 (some (ob, oc, os)) ((p.vm.lefts p.vm.thr.length).map vi))) ob w 1 [vi (p.vm.leftOf w)] := by
          have h1 := (rd_mem0 (M := Ni) (G := p.G mp ++ osg 3 (some (ob, oc, os)) ((p.vm.lefts p.vm.thr.length).map vi)) (T := 3) (b := ob) (xs := (p.vm.lefts p.vm.thr.length).map vi) (sp := os) (List.mem_append_right _ (List.mem_singleton.2 rfl)) (List.length_map ..)).part0 w 1 (by omega) (map_part vi _ (by omega))
          have e : (p.vm.lefts p.vm.thr.length)[w]! = p.vm.leftOf w := by rw [getB (by omega)]; simp [VM.lefts]
          rwa [e] at h1
        simp only [push_cast, Int.cast_ofNat_Int, reduceIte, Nat.reduceEqDiff, reduceCtorEq, Nat.reduceAdd, Nat.reduceSub, Nat.reduceMul, Int.reduceToNat, Nat.reduceLeDiff, osv_sl]
        repeat' first
            | refine EV.block ?_
            | (refine And.intro (by omega) ?_)
            | (refine Exists.intro _ (And.intro (by assumption) ?_); try simp only [push_cast, Int.cast_ofNat_Int, reduceIte, Nat.reduceEqDiff, reduceCtorEq, Nat.reduceAdd, Nat.reduceSub, Nat.reduceMul, Int.reduceToNat, Nat.reduceLeDiff])
            | fail
        rw [hlw]
        refine EV.to (ρ' := [(6, pv bb 0), (8, .func (.func 34) #[] #[pv bb 0]), (11, vi w), (40, vi m1.thr.length), (41, vi w), (48, vi (m1.leftOf w)), (49, vi (0 : Nat))]) (G' := p.G mp) ?_ ?env2 (List.sublist_append_left _ _)
        case env2 =>
          repeat' first
            | (refine List.forall_mem_cons.2 (And.intro ?_ ?_))
            | (intro _ hnil; cases hnil; done)
            | rfl
            | fail
        refine EV.loop (fun x : Nat × PM => ([(6, pv bb 0), (8, .func (.func 34) #[] #[pv bb 0]), (11, vi w), (40, vi m1.thr.length), (41, vi w), (48, vi (m1.leftOf w)), (49, vi x.1)], Ni, x.2.G mp))
          (fun x => (x.1 : Int) ≤ m1.leftOf w ∧ x.2.Ok ∧ SlSl Ni 5 encOp (.slice x.2.pg x.2.prog.length x.2.pc) x.2.prog ∧ x.2.vm = p.vm.ends w x.1) (fun x => (m1.leftOf w).toNat - x.1) (0, p) ⟨by exact_mod_cast hl0, ok, hpg, rfl⟩ ?_
        rintro ⟨k, pk⟩ ⟨hk, okk, hpgk, hvk⟩ ih3
        dsimp only at hk okk hpgk hvk ih3 ⊢
        obtain ⟨ivk, lek, fk⟩ := VM.ends_inv ivw hwl k (by rw [hlw]; exact hk) (by omega)
        rw [← hvk] at ivk lek fk
        repeat' first
            | refine EV.seq ?_
            | refine EV.skip ?_
            | refine EV.block ?_
            | refine EV.inBlock ?_
            | (refine EV.reg ?_; (conv => (arg 2; whnf)); simp only [push_cast, Int.cast_ofNat_Int, reduceIte, Nat.reduceEqDiff, reduceCtorEq, Nat.reduceAdd, Nat.reduceSub, Nat.reduceMul, Int.reduceToNat, Nat.reduceLeDiff])
            | ((refine EV.cond rfl (fun h => ?_) (fun h => ?_) <;> try simp only [reduceCtorEq, reduceIte, if_true, if_false, Bool.not_eq_true', Bool.not_eq_false', decide_eq_true_eq, decide_eq_false_iff_not, Bool.and_eq_true, Bool.or_eq_true, Bool.and_eq_false_iff, Bool.or_eq_false_iff] at h) <;> try (exfalso; first | exact h True.intro | (exact h; done) | omega | (simp only [not_true_eq_false, false_or, or_false] at h; omega)))
            | (refine EV.exit rfl ?_)
            | fail
        · rw [show (#[vi (w : Int), Value.func (.func 37) #[] #[]] ++ #[pv bb 0] : Array Value) = #[vi (w : Int), .func (.func 37) #[] #[], pv bb 0] from rfl]
          have hpick : Picks Ni 37 #[] (fun n => n - 1) (300 + 2 * m1.leftSum w + 2 * k) := fun M' hM n h1 h2 => view_S3_q n h1 (by omega)
          refine Con.callB (Mr := Ni) (G2 := []) (view_Play_S1_c pk okk hpgk ivk.wf (by omega) hbi (w : Int) _ _ _ hpick) (PHeap.le_add _ _) (by rw [List.append_nil]) ?_
          rintro v4 M4 G4 ⟨p4, rfl, ok4, hvm4, e1, e2⟩
          have le4 := (VM.turnP_inv ivk (by omega) w (fun n => n - 1)).2
          rw [← hvm4] at le4
          have hpg4 : SlSl Ni 5 encOp (.slice p4.pg p4.prog.length p4.pc) p4.prog := by
            have : p4.prog = pk.prog := le4.pr
            rw [e1, e2, this]; exact hpgk
          simp only [push_cast, Int.cast_ofNat_Int, reduceIte, Nat.reduceEqDiff, reduceCtorEq, Nat.reduceAdd, Nat.reduceSub, Nat.reduceMul, Int.reduceToNat, Nat.reduceLeDiff]
          repeat' first
              | refine EV.inBlock ?_
              | (refine EV.reg ?_; (conv => (arg 2; whnf)); simp only [push_cast, Int.cast_ofNat_Int, reduceIte, Nat.reduceEqDiff, reduceCtorEq, Nat.reduceAdd, Nat.reduceSub, Nat.reduceMul, Int.reduceToNat, Nat.reduceLeDiff])
              | fail
          refine EV.to (ih3 (k + 1, p4) ⟨by dsimp only; omega, ok4, hpg4, by dsimp only; rw [hvm4, hvk]; rfl⟩ (by dsimp only; omega)) ?_ (by (repeat' first | exact List.Sublist.refl _ | exact List.nil_sublist _ | exact List.sublist_append_left _ _ | refine List.Sublist.cons_cons _ ?_ | refine List.Sublist.append_left ?_ _ | refine List.sublist_append_of_sublist_right ?_ | refine List.Sublist.cons _ ?_))
          repeat' first
            | (refine List.forall_mem_cons.2 (And.intro ?_ ?_))
            | (intro _ hnil; cases hnil; done)
            | rfl
            | (refine env_w64 rfl (by first | rfl | (push_cast; first | rfl | omega)) (by omega) (by omega); done)
            | fail
        · have hkk : k = (m1.leftOf w).toNat := by omega
          refine EV.to (ih2 (w + 1, pk) ⟨by dsimp only; omega, okk, hpgk, ?_⟩ (by dsimp only; omega)) ?_ (by (repeat' first | exact List.Sublist.refl _ | exact List.nil_sublist _ | exact List.sublist_append_left _ _ | refine List.Sublist.cons_cons _ ?_ | refine List.Sublist.append_left ?_ _ | refine List.sublist_append_of_sublist_right ?_ | refine List.Sublist.cons _ ?_))
          · dsimp only
            rw [hvk, hkk]
            show p.vm.ends w (m1.leftOf w).toNat = (m1.endAll w).ends w ((m1.endAll w).leftOf w).toNat
            rw [← hvw, hlw]
          · repeat' first
              | (refine List.forall_mem_cons.2 (And.intro ?_ ?_))
              | (intro _ hnil; cases hnil; done)
              | rfl
              | (refine env_w64 rfl (by first | rfl | (push_cast; first | rfl | omega)) (by omega) (by omega); done)
              | fail
      · have e : w = m1.thr.length := by omega
        subst e
        refine Con.callB (Mr := Ni.add (p.G mp)) (G1 := []) (G2 := p.G mp) (view_outcome_c rM ivw.wf) (PHeap.le_refl _) (List.Perm.refl _) ?_
        rintro v3 M3 G3 ⟨ov, rfl, hov, rfl⟩
        refine EV.weaken (G' := osg 3 ov (p.vm.outcome.map vi)) ?_ (fun _ _ h => h) (List.sublist_append_right _ _)
        refine EV.ret Q89_ok ?_
        simp only [push_cast, Int.cast_ofNat_Int, reduceIte, Nat.reduceEqDiff, reduceCtorEq, Nat.reduceAdd, Nat.reduceSub, Nat.reduceMul, Int.reduceToNat, Nat.reduceLeDiff, Q89]
        rw [← htl1, ← hvw]
        exact ⟨ov, rfl, hov, rfl⟩

end
end Go.EV

namespace Go.EV
open Go.Proofs

section
variable {M : PHeap} {mp : Nat} {B : Nat}

/-- The reference's machine, and the machine of views that goes with it. -/
structure Ghost (M : PHeap) (q : RP) (m : VM) (B : Nat) : Prop where
  ok : q.Ok
  vs : q.Vs M
  iv : m.Inv B
  s : Sim m q.rm
theorem Ghost.wf {q : RP} {m : VM} (g : Ghost M q m B) : q.rm.Wf B := g.s.wf g.iv.wf
theorem Ghost.mono {q : RP} {m : VM} (g : Ghost M q m B) {M' : PHeap} (h : M.le M') : Ghost M' q m B := ⟨g.ok, g.vs.mono h, g.iv, g.s⟩
theorem Ghost.step {q q2 : RP} {m : VM} (g : Ghost M q m B) (hB : B + 2 < 1000000) {M' : PHeap} {x y : Int} (h1 : q2.Ok) (h2 : q2.Vs M') (h3 : q2.rm = (q.rm.step x y).1) : Ghost M' q2 (m.step x y).1 (B + 2) :=
  ⟨h1, h2, (step_inv g.iv hB x y).1, h3 ▸ (g.s.step g.iv x y).1⟩
theorem Ghost.up {q : RP} {m : VM} (g : Ghost M q m B) {B' : Nat} (h : B ≤ B') (hB : B' < 1000000) : Ghost M q m B' := ⟨g.ok, g.vs, ⟨g.iv.wf.up h hB, g.iv.nd, g.iv.ow⟩, g.s⟩
theorem Ghost.choices {q : RP} {m : VM} (g : Ghost M q m B) {G : Own} (h : ∀ x ∈ q.G mp, x ∈ G) (who : Int) : ConQ Try.prog 39 #[pv mp 0, vi who] (M.add G) (ie (m.choicesR who)) :=
  g.s.choicesR g.iv who ▸ ref_Choices_q (RP.rdX g.ok g.vs h) g.wf who

set_option maxRecDepth 8000 in
set_option maxHeartbeats 8000000 in
theorem ref_Play_c (ts : List (List OpV)) (s : Value) (hs : SlSl M 5 encOp s ts) (hb : ts.flatten.length < 60) (hb' : ts.length < 60) (turns : List (Int × Int)) (tv : Value) (htv : Sl M 2 encTurn tv turns) (hbt : turns.length < 1000000) :
    Con Try.prog 15 #[.agg #[s], tv] M [] (RowT (playP ts turns).1 (playP ts turns).2) := by
  have hs0 := hs
  obtain ⟨a, c, vs, rfl, _⟩ := hs
  obtain ⟨ta, tc, rfl, hrt⟩ := htv
  refine Con.enter Q44_ok (args := [.agg #[.slice a ts.length c], .slice ta turns.length tc]) (by simp [Q44]) fun w0 => ?_
  simp only [Q44, argE]
  repeat' first
      | refine EV.seq ?_
      | (refine EV.reg ?_; (conv => (arg 2; whnf)); simp only [push_cast, Int.cast_ofNat_Int, reduceIte, Nat.reduceEqDiff, reduceCtorEq, Nat.reduceAdd, Nat.reduceSub, Nat.reduceMul, Int.reduceToNat, Nat.reduceLeDiff])
      | ((first | with_reducible intro b | refine xr rfl (by simp only [List.length_cons, List.length_nil]; omega) ?_ | fail); try simp only [push_cast, Int.cast_ofNat_Int, reduceIte, Nat.reduceEqDiff, reduceCtorEq, Nat.reduceAdd, Nat.reduceSub, Nat.reduceMul, Int.reduceToNat, Nat.reduceLeDiff])
      | fail
  refine Con.callA (G1 := []) (ref_New_c ts _ hs0 (by omega) (by omega)) (List.Perm.refl _) ?_
  rintro v M1 G1 hM1 h1
  rcases h1 with ⟨hne, rfl⟩ | ⟨hck, mp, q, rfl, rfl, ok, vs, hrm⟩
  · simp only [push_cast, Int.cast_ofNat_Int, reduceIte, Nat.reduceEqDiff, reduceCtorEq, Nat.reduceAdd, Nat.reduceSub, Nat.reduceMul, Int.reduceToNat, Nat.reduceLeDiff]
    repeat' first
        | refine EV.seq ?_
        | (refine EV.reg ?_; (conv => (arg 2; whnf)); simp only [push_cast, Int.cast_ofNat_Int, reduceIte, Nat.reduceEqDiff, reduceCtorEq, Nat.reduceAdd, Nat.reduceSub, Nat.reduceMul, Int.reduceToNat, Nat.reduceLeDiff])
        | ((refine EV.cond rfl (fun h => ?_) (fun h => ?_) <;> try simp only [reduceCtorEq, reduceIte, if_true, if_false, Bool.not_eq_true', Bool.not_eq_false', decide_eq_true_eq, decide_eq_false_iff_not, Bool.and_eq_true, Bool.or_eq_true, Bool.and_eq_false_iff, Bool.or_eq_false_iff] at h) <;> try (exfalso; first | exact h True.intro | (exact h; done) | omega | (simp only [not_true_eq_false, false_or, or_false] at h; omega)))
        | fail
    refine EV.weaken (G' := []) ?_ (fun _ _ h => h) (List.nil_sublist _)
    refine EV.ret Q44_ok ?_
    simp only [push_cast, Int.cast_ofNat_Int, reduceIte, Nat.reduceEqDiff, reduceCtorEq, Nat.reduceAdd, Nat.reduceSub, Nat.reduceMul, Int.reduceToNat, Nat.reduceLeDiff, Q44]
    have e : playP ts turns = ([], checkP ts) := by simp only [playP, ne_eq, hne, not_false_eq_true, if_true]
    rw [e]
    exact ⟨none, rfl, ⟨rfl, rfl⟩, rfl⟩
  · simp only [push_cast, Int.cast_ofNat_Int, reduceIte, Nat.reduceEqDiff, reduceCtorEq, Nat.reduceAdd, Nat.reduceSub, Nat.reduceMul, Int.reduceToNat, Nat.reduceLeDiff]
    repeat' first
        | refine EV.seq ?_
        | refine EV.skip ?_
        | refine EV.block ?_
        | (refine EV.reg ?_; (conv => (arg 2; whnf)); simp only [push_cast, Int.cast_ofNat_Int, reduceIte, Nat.reduceEqDiff, reduceCtorEq, Nat.reduceAdd, Nat.reduceSub, Nat.reduceMul, Int.reduceToNat, Nat.reduceLeDiff])
        | ((refine EV.cond rfl (fun h => ?_) (fun h => ?_) <;> try simp only [reduceCtorEq, reduceIte, if_true, if_false, Bool.not_eq_true', Bool.not_eq_false', decide_eq_true_eq, decide_eq_false_iff_not, Bool.and_eq_true, Bool.or_eq_true, Bool.and_eq_false_iff, Bool.or_eq_false_iff] at h) <;> try (exfalso; first | exact h True.intro | (exact h; done) | omega | (simp only [not_true_eq_false, false_or, or_false] at h; omega)))
        | fail
    · refine EV.weaken (G' := []) ?_ (fun _ _ h => h) (List.nil_sublist _)
      refine EV.ret Q44_ok ?_
      simp only [push_cast, Int.cast_ofNat_Int, reduceIte, Nat.reduceEqDiff, reduceCtorEq, Nat.reduceAdd, Nat.reduceSub, Nat.reduceMul, Int.reduceToNat, Nat.reduceLeDiff, Q44]
      have e : playP ts turns = ([], 1) := by
        unfold playP
        rw [if_neg (by simp [hck]), if_pos (by omega)]
      rw [e]
      exact ⟨none, rfl, ⟨rfl, rfl⟩, rfl⟩
    have ep : playP ts turns = ((((VM.new (ts.map expT)).played turns).endAll ts.length).outcome, 0) := by
      unfold playP
      rw [if_neg (by simp [hck]), if_neg (by omega)]
    rw [ep]
    have iv0 := new_inv hck (by omega) (show 10 < 1000000 by decide) (by decide)
    have htl : (VM.new (ts.map expT)).thr.length = ts.length := by simp [VM.new]
    have hm0p : (VM.new (ts.map expT)).prog = ts.map expT := rfl
    have sim0 : Sim (VM.new (ts.map expT)) q.rm := by rw [hrm]; exact Sim.new _
    generalize VM.new (ts.map expT) = m0 at sim0 iv0 htl hm0p ⊢
    have g0 : Ghost M1 q m0 10 := ⟨ok, vs, iv0, sim0⟩
    refine EV.to (ρ' := [(1, .slice ta turns.length tc), (6, pv mp 0), (8, vi (0 : Nat))]) (G' := q.G mp) ?_ ?env0 (List.Sublist.cons _ (List.Sublist.refl _))
    case env0 =>
      repeat' first
        | (refine List.forall_mem_cons.2 (And.intro ?_ ?_))
        | (intro _ hnil; cases hnil; done)
        | rfl
        | fail
    refine EV.loop (fun x : Nat × PHeap × RP => ([(1, .slice ta turns.length tc), (6, pv mp 0), (8, vi x.1)], x.2.1, x.2.2.G mp))
      (fun x => x.1 ≤ turns.length ∧ M1.le x.2.1 ∧ Ghost x.2.1 x.2.2 (m0.played (turns.take x.1)) (10 + 2 * x.1)) (fun x => turns.length - x.1) (0, M1, q) ⟨Nat.zero_le _, PHeap.le_refl _, g0⟩ ?_
    rintro ⟨i, Ni, q⟩ ⟨hi, hNi, g⟩ ih
    dsimp only at hi hNi g ih ⊢
    repeat' first
        | refine EV.seq ?_
        | refine EV.skip ?_
        | refine EV.block ?_
        | (refine EV.reg ?_; (conv => (arg 2; whnf)); simp only [push_cast, Int.cast_ofNat_Int, reduceIte, Nat.reduceEqDiff, reduceCtorEq, Nat.reduceAdd, Nat.reduceSub, Nat.reduceMul, Int.reduceToNat, Nat.reduceLeDiff])
        | ((refine EV.cond rfl (fun h => ?_) (fun h => ?_) <;> try simp only [reduceCtorEq, reduceIte, if_true, if_false, Bool.not_eq_true', Bool.not_eq_false', decide_eq_true_eq, decide_eq_false_iff_not, Bool.and_eq_true, Bool.or_eq_true, Bool.and_eq_false_iff, Bool.or_eq_false_iff] at h) <;> try (exfalso; first | exact h True.intro | (exact h; done) | omega | (simp only [not_true_eq_false, false_or, or_false] at h; omega)))
        | (refine EV.exit rfl ?_)
        | fail
    · have hi' : i < turns.length := by omega
      obtain ⟨tb, to, rfl, hat⟩ := Sl.at (enc := encTurn) (fun _ => rfl) (by omega) ((hrt.mono hM1).mono hNi) (by omega)
      have hr0 := (hat i hi').part' 0 1 (by omega) rfl
      have hr1 := (hat i hi').part' 1 1 (by omega) rfl
      have qc := g.choices (mp := mp) (G := q.G mp) (fun x hx => hx) turns[i].1
      have hcl := VM.choicesR_len g.iv.wf turns[i].1
      have hpt := VM.played_take m0 hi'
      have he : 10 + 2 * (i + 1) = 10 + 2 * i + 2 := by omega
      generalize m0.played (turns.take i) = m at g qc hcl hpt
      by_cases h0 : (m.choicesR turns[i].1).2 = 0
      · have hcp := VM.choicesR_pos g.iv.wf h0
        repeat' first
            | refine EV.seq ?_
            | (refine EV.reg ?_; (conv => (arg 2; whnf)); simp only [push_cast, Int.cast_ofNat_Int, reduceIte, Nat.reduceEqDiff, reduceCtorEq, Nat.reduceAdd, Nat.reduceSub, Nat.reduceMul, Int.reduceToNat, Nat.reduceLeDiff])
            | (refine ConQ.call (qc) ?_; try simp only [push_cast, Int.cast_ofNat_Int, reduceIte, Nat.reduceEqDiff, reduceCtorEq, Nat.reduceAdd, Nat.reduceSub, Nat.reduceMul, Int.reduceToNat, Nat.reduceLeDiff])
            | ((refine EV.cond rfl (fun h => ?_) (fun h => ?_) <;> try simp only [reduceCtorEq, reduceIte, if_true, if_false, Bool.not_eq_true', Bool.not_eq_false', decide_eq_true_eq, decide_eq_false_iff_not, Bool.and_eq_true, Bool.or_eq_true, Bool.and_eq_false_iff, Bool.or_eq_false_iff] at h) <;> try (exfalso; first | exact h True.intro | (exact h; done) | omega | (simp only [not_true_eq_false, false_or, or_false] at h; omega)))
            | (refine And.intro (by omega) ?_)
            | (refine Exists.intro _ (And.intro (rd_M (by assumption)) ?_); try simp only [push_cast, Int.cast_ofNat_Int, reduceIte, Nat.reduceEqDiff, reduceCtorEq, Nat.reduceAdd, Nat.reduceSub, Nat.reduceMul, Int.reduceToNat, Nat.reduceLeDiff])
            | fail
        · refine EV.any (t := Q44_10) _ (List.nil_sublist _) ?_
          simp only [push_cast, Int.cast_ofNat_Int, reduceIte, Nat.reduceEqDiff, reduceCtorEq, Nat.reduceAdd, Nat.reduceSub, Nat.reduceMul, Int.reduceToNat, Nat.reduceLeDiff, Q44_10]
          repeat' first
              | (refine ConQ.call (ref_Mod_q _ _ hcp (by omega)) ?_; try simp only [push_cast, Int.cast_ofNat_Int, reduceIte, Nat.reduceEqDiff, reduceCtorEq, Nat.reduceAdd, Nat.reduceSub, Nat.reduceMul, Int.reduceToNat, Nat.reduceLeDiff])
              | (refine And.intro (by omega) ?_)
              | ((first | refine Exists.intro _ (And.intro (rd_M (by assumption)) ?_) | refine And.intro (PHeap.le_refl _) (And.intro (mem_of_sub ?_) ?_); focus ((repeat' first | exact List.Sublist.refl _ | exact List.nil_sublist _ | exact List.sublist_append_left _ _ | refine List.Sublist.cons_cons _ ?_ | refine List.Sublist.append_left ?_ _ | refine List.sublist_append_of_sublist_right ?_ | refine List.Sublist.cons _ ?_); done) | fail); try simp only [push_cast, Int.cast_ofNat_Int, reduceIte, Nat.reduceEqDiff, reduceCtorEq, Nat.reduceAdd, Nat.reduceSub, Nat.reduceMul, Int.reduceToNat, Nat.reduceLeDiff])
              | fail
          refine Con.callA (G2 := []) (ref_Step_c q g.ok g.vs g.wf (by omega) turns[i].1 (modP turns[i].2 (m.choicesR turns[i].1).1)) (by rw [List.append_nil]) ?_
          rintro v4 M4 G4 hM4 ⟨rfl, q2, rfl, ok2, vs2, hrm2, e1, e2⟩
          have g2 := g.step (by omega) ok2 vs2 hrm2
          rw [List.nil_append]
          repeat' first
              | refine EV.inBlock ?_
              | (refine EV.reg ?_; (conv => (arg 2; whnf)); simp only [push_cast, Int.cast_ofNat_Int, reduceIte, Nat.reduceEqDiff, reduceCtorEq, Nat.reduceAdd, Nat.reduceSub, Nat.reduceMul, Int.reduceToNat, Nat.reduceLeDiff])
              | fail
          have e : m.turnP turns[i].1 (modP turns[i].2) = (m.step turns[i].1 (modP turns[i].2 (m.choicesR turns[i].1).1)).1 := by simp only [VM.turnP, h0, if_true]
          refine EV.to (ih (i + 1, M4, q2) ⟨by dsimp only; omega, PHeap.le_trans hNi hM4, by dsimp only; rw [he, hpt, e]; exact g2⟩ (by dsimp only; omega)) ?_ (by (repeat' first | exact List.Sublist.refl _ | exact List.nil_sublist _ | exact List.sublist_append_left _ _ | refine List.Sublist.cons_cons _ ?_ | refine List.Sublist.append_left ?_ _ | refine List.sublist_append_of_sublist_right ?_ | refine List.Sublist.cons _ ?_))
          repeat' first
            | (refine List.forall_mem_cons.2 (And.intro ?_ ?_))
            | (intro _ hnil; cases hnil; done)
            | rfl
            | (refine env_w64 rfl (by first | rfl | (push_cast; first | rfl | omega)) (by omega) (by omega); done)
            | fail
      · repeat' first
          | refine EV.seq ?_
          | refine EV.skip ?_
          | refine EV.inBlock ?_
          | (refine EV.reg ?_; (conv => (arg 2; whnf)); simp only [push_cast, Int.cast_ofNat_Int, reduceIte, Nat.reduceEqDiff, reduceCtorEq, Nat.reduceAdd, Nat.reduceSub, Nat.reduceMul, Int.reduceToNat, Nat.reduceLeDiff])
          | (refine ConQ.call (qc) ?_; try simp only [push_cast, Int.cast_ofNat_Int, reduceIte, Nat.reduceEqDiff, reduceCtorEq, Nat.reduceAdd, Nat.reduceSub, Nat.reduceMul, Int.reduceToNat, Nat.reduceLeDiff])
          | ((refine EV.cond rfl (fun h => ?_) (fun h => ?_) <;> try simp only [reduceCtorEq, reduceIte, if_true, if_false, Bool.not_eq_true', Bool.not_eq_false', decide_eq_true_eq, decide_eq_false_iff_not, Bool.and_eq_true, Bool.or_eq_true, Bool.and_eq_false_iff, Bool.or_eq_false_iff] at h) <;> try (exfalso; first | exact h True.intro | (exact h; done) | omega | (simp only [not_true_eq_false, false_or, or_false] at h; omega)))
          | (refine And.intro (by omega) ?_)
          | (refine Exists.intro _ (And.intro (rd_M (by assumption)) ?_); try simp only [push_cast, Int.cast_ofNat_Int, reduceIte, Nat.reduceEqDiff, reduceCtorEq, Nat.reduceAdd, Nat.reduceSub, Nat.reduceMul, Int.reduceToNat, Nat.reduceLeDiff])
          | fail
        have e : m.turnP turns[i].1 (modP turns[i].2) = m := by simp only [VM.turnP, h0, if_false]
        refine EV.to (ih (i + 1, Ni, q) ⟨by dsimp only; omega, hNi, by dsimp only; rw [he, hpt, e]; exact g.up (by omega) (by omega)⟩ (by dsimp only; omega)) ?_ (by (repeat' first | exact List.Sublist.refl _ | exact List.nil_sublist _ | exact List.sublist_append_left _ _ | refine List.Sublist.cons_cons _ ?_ | refine List.Sublist.append_left ?_ _ | refine List.sublist_append_of_sublist_right ?_ | refine List.Sublist.cons _ ?_))
        repeat' first
          | (refine List.forall_mem_cons.2 (And.intro ?_ ?_))
          | (intro _ hnil; cases hnil; done)
          | rfl
          | (refine env_w64 rfl (by first | rfl | (push_cast; first | rfl | omega)) (by omega) (by omega); done)
          | fail
    · have e : i = turns.length := by omega
      subst e
      rw [List.take_length] at g
      have lep := (VM.played_inv iv0 turns (by omega)).2
      have hpr1 : (m0.played turns).prog = ts.map expT := lep.pr.trans hm0p
      have htl1 : (m0.played turns).thr.length = ts.length := lep.tl.trans htl
      have g1 := g.up (show 10 + 2 * turns.length ≤ 300 by omega) (by omega)
      generalize m0.played turns = m1 at g1 hpr1 htl1 ⊢
      have hn3 := g1.iv.wf.t3
      have hK : ∀ i, i < m1.thr.length → m1.leftOf i ≤ (180 : Nat) := fun i hi => by
        have h1 : m1.prog[i]!.length ≤ 180 := by
          rw [hpr1, getB (by rw [List.length_map]; omega), List.getElem_map]
          have h2 := expT_len ts[i]
          have h3 := flat_mem_len (l := ts[i]) (List.getElem_mem _)
          omega
        unfold VM.leftOf; omega
      have hS : ∀ w, w ≤ m1.thr.length → m1.leftSum w ≤ 540 := fun w hw => by
        have := VM.leftSum_le (m := m1) (K := 180) w (fun i hi => hK i (by omega))
        have h2 : w * 180 ≤ 3 * 180 := Nat.mul_le_mul_right _ (by omega)
        omega
      refine EV.to (ρ' := [(6, pv mp 0), (11, vi (0 : Nat))]) (G' := q.G mp) ?_ ?env1 (List.Sublist.refl _)
      case env1 =>
        repeat' first
          | (refine List.forall_mem_cons.2 (And.intro ?_ ?_))
          | (intro _ hnil; cases hnil; done)
          | rfl
          | fail
      refine EV.loop (fun x : Nat × PHeap × RP => ([(6, pv mp 0), (11, vi x.1)], x.2.1, x.2.2.G mp))
        (fun x => x.1 ≤ m1.thr.length ∧ Ni.le x.2.1 ∧ Ghost x.2.1 x.2.2 (m1.endAll x.1) (300 + 2 * m1.leftSum x.1)) (fun x => m1.thr.length - x.1) (0, Ni, q) ⟨Nat.zero_le _, PHeap.le_refl _, g1⟩ ?_
      rintro ⟨w, Nw, q⟩ ⟨hw, hNw, gw⟩ ih2
      dsimp only at hw hNw gw ih2 ⊢
      have hSw := hS w hw
      obtain ⟨_, lew, fw⟩ := VM.endAll_inv g1.iv w hw (by omega)
      have hlen : q.pt.length = m1.thr.length := by
        have h1 := gw.s.tl
        rw [RP.nthr, lew.tl] at h1
        exact h1
      have rw1 := (RP.rdX (M := Nw) (G := q.G mp) gw.ok gw.vs (fun x hx => hx)).h1
      by_cases hwn : w < m1.thr.length
      · have hw' : ((w : Int) < (q.pt.length : Int)) = True := eq_true (by omega)
        repeat' first
            | refine EV.seq ?_
            | refine EV.skip ?_
            | refine EV.block ?_
            | (refine EV.reg ?_; (conv => (arg 2; whnf)); simp only [push_cast, Int.cast_ofNat_Int, reduceIte, Nat.reduceEqDiff, reduceCtorEq, Nat.reduceAdd, Nat.reduceSub, Nat.reduceMul, Int.reduceToNat, Nat.reduceLeDiff, hw'])
            | ((refine EV.cond rfl (fun h => ?_) (fun h => ?_) <;> try simp only [reduceCtorEq, reduceIte, if_true, if_false, Bool.not_eq_true', Bool.not_eq_false', decide_eq_true_eq, decide_eq_false_iff_not, Bool.and_eq_true, Bool.or_eq_true, Bool.and_eq_false_iff, Bool.or_eq_false_iff] at h) <;> try (exfalso; first | exact h True.intro | (exact h; done) | omega | (simp only [not_true_eq_false, false_or, or_false] at h; omega)))
            | (refine Exists.intro _ (Exists.intro _ (Exists.intro _ (And.intro (by assumption) ?_))); try simp only [push_cast, Int.cast_ofNat_Int, reduceIte, Nat.reduceEqDiff, reduceCtorEq, Nat.reduceAdd, Nat.reduceSub, Nat.reduceMul, Int.reduceToNat, Nat.reduceLeDiff, hw'])
            | fail
        have hwl : w < (m1.endAll w).thr.length := by rw [lew.tl]; exact hwn
        have hlw : (m1.endAll w).leftOf w = m1.leftOf w := by rw [fw w hwn, if_neg (by omega)]
        have hl0 : 0 ≤ m1.leftOf w := by have := g1.iv.wf.nx w hwn; unfold VM.leftOf; omega
        have hKw := hK w hwn
        refine EV.to (ρ' := [(6, pv mp 0), (11, vi w)]) (G' := q.G mp) ?_ ?env2 (List.Sublist.refl _)
        case env2 =>
          repeat' first
            | (refine List.forall_mem_cons.2 (And.intro ?_ ?_))
            | (intro _ hnil; cases hnil; done)
            | rfl
            | fail
        refine EV.loop (fun x : Nat × PHeap × RP => ([(6, pv mp 0), (11, vi w)], x.2.1, x.2.2.G mp))
          (fun x => (x.1 : Int) ≤ m1.leftOf w ∧ Nw.le x.2.1 ∧ Ghost x.2.1 x.2.2 ((m1.endAll w).ends w x.1) (300 + 2 * m1.leftSum w + 2 * x.1)) (fun x => (m1.leftOf w).toNat - x.1) (0, Nw, q) ⟨by exact_mod_cast hl0, PHeap.le_refl _, gw⟩ ?_
        rintro ⟨k, Nk, q⟩ ⟨hk, hNk, gk⟩ ih3
        dsimp only at hk hNk gk ih3 ⊢
        obtain ⟨_, lek, fk⟩ := VM.ends_inv gw.iv hwl k (by rw [hlw]; exact hk) (by omega)
        have hstep : ((m1.endAll w).ends w k).turnP w (fun n => n - 1) = (m1.endAll w).ends w (k + 1) := rfl
        have hle : (m1.endAll w).thr.length = ((m1.endAll w).ends w k).thr.length := lek.tl.symm
        have hlk := fk w
        rw [if_pos rfl, hlw] at hlk
        generalize hmk : (m1.endAll w).ends w k = mk at gk hstep hle hlk
        have r := RP.rdX (M := Nk) (G := q.G mp) gk.ok gk.vs (fun x hx => hx)
        have hqw : w < q.pt.length := by have h1 := gk.s.tl; rw [RP.nthr] at h1; omega
        obtain ⟨pb, po, a', c', epg, hwp, k0, k1, k2, hnx, hpb⟩ := r.prog1 gk.wf hqw
        have k3 := r.at hqw
        have kh1 := r.h1
        have hat : (q.pt[w]!.th.at_ : Int) = mk.thr[w]!.next := by
          have h1 := (gk.s.th w (by omega)).at_
          rw [RP.thr_at hqw] at h1
          omega
        have hpl : q.prog[w]!.length = mk.prog[w]!.length := by rw [← gk.s.prog]; rfl
        have hlt : ((q.pt[w]!.th.at_ : Int) < (q.prog[w]!.length : Int)) ↔ 0 < mk.leftOf w := by unfold VM.leftOf; omega
        repeat' first
            | refine EV.seq ?_
            | refine EV.skip ?_
            | refine EV.block ?_
            | refine EV.inBlock ?_
            | ((first | refine EV.reg ?_ | refine EV.any _ (List.Sublist.refl _) ?_ | fail); (conv => (arg 2; whnf)); simp only [push_cast, Int.cast_ofNat_Int, reduceIte, Nat.reduceEqDiff, reduceCtorEq, Nat.reduceAdd, Nat.reduceSub, Nat.reduceMul, Int.reduceToNat, Nat.reduceLeDiff])
            | ((refine EV.cond rfl (fun h => ?_) (fun h => ?_) <;> try simp only [reduceCtorEq, reduceIte, if_true, if_false, Bool.not_eq_true', Bool.not_eq_false', decide_eq_true_eq, decide_eq_false_iff_not, Bool.and_eq_true, Bool.or_eq_true, Bool.and_eq_false_iff, Bool.or_eq_false_iff] at h) <;> try (exfalso; first | exact h True.intro | (exact h; done) | omega | (simp only [not_true_eq_false, false_or, or_false] at h; omega)))
            | (refine EV.exit rfl ?_)
            | (refine And.intro (by omega) ?_)
            | ((first | refine Exists.intro _ (And.intro (by assumption) ?_) | refine Exists.intro _ (Exists.intro _ (Exists.intro _ (And.intro (by assumption) ?_))) | fail); try simp only [push_cast, Int.cast_ofNat_Int, reduceIte, Nat.reduceEqDiff, reduceCtorEq, Nat.reduceAdd, Nat.reduceSub, Nat.reduceMul, Int.reduceToNat, Nat.reduceLeDiff])
            | fail
        · have hl1 : 0 < mk.leftOf w := hlt.1 h
          have hx2 : mk.thr[w]!.next ≠ mk.prog[w]!.length := by unfold VM.leftOf at hl1; omega
          have hwk : w < mk.thr.length := by omega
          have h0 : (mk.choicesR w).2 = 0 := by simp only [VM.choicesR, VM.turn_ok2 hwk hx2, ne_eq, not_true_eq_false, if_false]
          have hcp := VM.choicesR_pos gk.iv.wf h0
          have hcl := VM.choicesR_len gk.iv.wf w
          have qc := gk.choices (mp := mp) (G := q.G mp) (fun x hx => hx) w
          have hsb : IntKind.i64.wrap ((mk.choicesR w).1 - 1) = (mk.choicesR w).1 - 1 := w64 (by omega) (by omega)
          refine ConQ.call qc ?_
          simp only [push_cast, Int.cast_ofNat_Int, reduceIte, Nat.reduceEqDiff, reduceCtorEq, Nat.reduceAdd, Nat.reduceSub, Nat.reduceMul, Int.reduceToNat, Nat.reduceLeDiff]
          repeat' first
              | (refine EV.reg ?_; (conv => (arg 2; whnf)); simp only [push_cast, Int.cast_ofNat_Int, reduceIte, Nat.reduceEqDiff, reduceCtorEq, Nat.reduceAdd, Nat.reduceSub, Nat.reduceMul, Int.reduceToNat, Nat.reduceLeDiff, hsb])
              | fail
          refine Con.callA (G2 := []) (ref_Step_c q gk.ok gk.vs gk.wf (by omega) w ((mk.choicesR w).1 - 1)) (by rw [List.append_nil]) ?_
          rintro v4 M4 G4 hM4 ⟨rfl, q2, rfl, ok2, vs2, hrm2, e1, e2⟩
          have g2 := gk.step (by omega) ok2 vs2 hrm2
          rw [List.nil_append]
          repeat' first
              | refine EV.inBlock ?_
              | fail
          have e : mk.turnP w (fun n => n - 1) = (mk.step w ((mk.choicesR w).1 - 1)).1 := by simp only [VM.turnP, h0, if_true]
          have he : 300 + 2 * m1.leftSum w + 2 * (k + 1) = 300 + 2 * m1.leftSum w + 2 * k + 2 := by omega
          refine EV.to (ih3 (k + 1, M4, q2) ⟨by dsimp only; omega, PHeap.le_trans hNk hM4, by dsimp only; rw [he, ← hstep, e]; exact g2⟩ (by dsimp only; omega)) ?_ (by (repeat' first | exact List.Sublist.refl _ | exact List.nil_sublist _ | exact List.sublist_append_left _ _ | refine List.Sublist.cons_cons _ ?_ | refine List.Sublist.append_left ?_ _ | refine List.sublist_append_of_sublist_right ?_ | refine List.Sublist.cons _ ?_))
          repeat' first
            | (refine List.forall_mem_cons.2 (And.intro ?_ ?_))
            | (intro _ hnil; cases hnil; done)
            | rfl
            | fail
        · have hl1 : ¬ 0 < mk.leftOf w := fun h1 => h (hlt.2 h1)
          have hkk : k = (m1.leftOf w).toNat := by omega
          have hs2 : m1.leftSum (w + 1) = m1.leftSum w + (m1.leftOf w).toNat := by simp [VM.leftSum, List.range_succ]
          have he : 300 + 2 * m1.leftSum (w + 1) = 300 + 2 * m1.leftSum w + 2 * k := by rw [hs2]; omega
          have hend : m1.endAll (w + 1) = mk := by
            show (m1.endAll w).ends w ((m1.endAll w).leftOf w).toNat = mk
            rw [hlw, ← hkk, hmk]
          refine EV.to (ih2 (w + 1, Nk, q) ⟨by dsimp only; omega, PHeap.le_trans hNw hNk, by dsimp only; rw [he, hend]; exact gk⟩ (by dsimp only; omega)) ?_ (by (repeat' first | exact List.Sublist.refl _ | exact List.nil_sublist _ | exact List.sublist_append_left _ _ | refine List.Sublist.cons_cons _ ?_ | refine List.Sublist.append_left ?_ _ | refine List.sublist_append_of_sublist_right ?_ | refine List.Sublist.cons _ ?_))
          repeat' first
            | (refine List.forall_mem_cons.2 (And.intro ?_ ?_))
            | (intro _ hnil; cases hnil; done)
            | rfl
            | (refine env_w64 rfl (by first | rfl | (push_cast; first | rfl | omega)) (by omega) (by omega); done)
            | fail
      · have e : w = m1.thr.length := by omega
        subst e
        have hw' : (((m1.thr.length : Nat) : Int) < (q.pt.length : Int)) = False := eq_false (by omega)
        repeat' first
            | refine EV.seq ?_
            | (refine EV.reg ?_; (conv => (arg 2; whnf)); simp only [push_cast, Int.cast_ofNat_Int, reduceIte, Nat.reduceEqDiff, reduceCtorEq, Nat.reduceAdd, Nat.reduceSub, Nat.reduceMul, Int.reduceToNat, Nat.reduceLeDiff, hw'])
            | ((refine EV.cond rfl (fun h => ?_) (fun h => ?_) <;> try simp only [reduceCtorEq, reduceIte, if_true, if_false, Bool.not_eq_true', Bool.not_eq_false', decide_eq_true_eq, decide_eq_false_iff_not, Bool.and_eq_true, Bool.or_eq_true, Bool.and_eq_false_iff, Bool.or_eq_false_iff] at h) <;> try (exfalso; first | exact h True.intro | (exact h; done) | omega | (simp only [not_true_eq_false, false_or, or_false] at h; omega)))
            | (refine EV.exit rfl ?_)
            | (refine Exists.intro _ (Exists.intro _ (Exists.intro _ (And.intro (by assumption) ?_))); try simp only [push_cast, Int.cast_ofNat_Int, reduceIte, Nat.reduceEqDiff, reduceCtorEq, Nat.reduceAdd, Nat.reduceSub, Nat.reduceMul, Int.reduceToNat, Nat.reduceLeDiff, hw'])
            | fail
        have hov := VM.endAll_over g1.iv (by omega)
        have hout : q.rm.outcomeR = ((m1.endAll m1.thr.length).outcome, 0) := by
          rw [gw.s.outcomeR gw.iv, VM.outcomeR, if_pos hov]
        refine Con.callB (Mr := Nw.add (q.G mp)) (G1 := []) (G2 := q.G mp) (ref_Outcome_c (RP.rdX gw.ok gw.vs (fun x hx => hx)) gw.wf) (PHeap.le_refl _) (List.Perm.refl _) ?_
        rintro v3 M3 G3 ⟨ov, rfl, hov2, rfl⟩
        rw [hout] at hov2 ⊢
        simp only [push_cast, Int.cast_ofNat_Int, reduceIte, Nat.reduceEqDiff, reduceCtorEq, Nat.reduceAdd, Nat.reduceSub, Nat.reduceMul, Int.reduceToNat, Nat.reduceLeDiff]
        refine EV.weaken (G' := osg 3 ov ((m1.endAll m1.thr.length).outcome.map vi)) ?_ (fun _ _ h => h) (List.sublist_append_right _ _)
        refine EV.ret Q44_ok ?_
        simp only [push_cast, Int.cast_ofNat_Int, reduceIte, Nat.reduceEqDiff, reduceCtorEq, Nat.reduceAdd, Nat.reduceSub, Nat.reduceMul, Int.reduceToNat, Nat.reduceLeDiff, Q44]
        rw [← htl1]
        exact ⟨ov, rfl, hov2, rfl⟩

end
end Go.EV

namespace Go.EV
open Go.Proofs

section
variable {M : PHeap}

set_option maxRecDepth 8000 in
set_option maxHeartbeats 4000000 in
theorem ref_Own_c (ts : List (List OpV)) (s : Value) (hs : SlSl M 5 encOp s ts) (hb : ts.flatten.length < 1000000) (hb' : ts.length < 1000000) :
    Con Try.prog 13 #[.agg #[s]] M [] fun v M' _ => ∃ s', v = .agg #[s'] ∧ SlSl M' 5 encOp s' ts := by
  have hs0 := hs
  obtain ⟨a, c, vs, rfl, hl, hrd, hk⟩ := hs
  refine Con.enter Q22_ok (args := [.agg #[.slice a ts.length c]]) (by simp [Q22]) fun w0 => ?_
  simp only [Q22, argE]
  repeat' first
      | refine EV.seq ?_
      | refine EV.block ?_
      | (refine EV.reg ?_; (conv => (arg 2; whnf)); simp only [push_cast, Int.cast_ofNat_Int, reduceIte, Nat.reduceEqDiff, reduceCtorEq, Nat.reduceAdd, Nat.reduceSub, Nat.reduceMul, Int.reduceToNat, Nat.reduceLeDiff])
      | (with_reducible intro b; try simp only [push_cast, Int.cast_ofNat_Int, reduceIte, Nat.reduceEqDiff, reduceCtorEq, Nat.reduceAdd, Nat.reduceSub, Nat.reduceMul, Int.reduceToNat, Nat.reduceLeDiff])
      | fail
  rename_i b1 b2
  obtain ⟨b3, hb3⟩ : ∃ x, x = b := ⟨_, rfl⟩
  subst hb3
  refine EV.permG ?_ (show ([(b3, _), (b2, _), (b1, _)] : Own).Perm ([(b1, _)] ++ [(b3, _), (b2, _)]) from by exact cat_pull [[_], [_], [_]] 2 (by simp))
  refine EV.freeze ?_
  generalize hN : M.add [(b1, Cl 24 [.slice a ts.length c])] = N
  have hMN : M.le N := hN ▸ PHeap.le_add _ _
  have hb1 : rd N b1 0 1 [.slice a ts.length c] := hN ▸ rd_own' 0 rfl rfl (by simp)
  clear hN
  replace hrd := hrd.mono hMN
  replace hk := fun k h h' => (hk k h h').mono hMN
  clear hs0
  refine EV.to (ρ' := [(1, pv b1 0), (2, pv b2 0), (3, pv b3 0), (4, vi (0 : Nat))]) (G' := (b3, Cl 24 [.slice (oad none) 0 (ocap none)]) :: (b2, Cl 24 [.slice none 0 0]) :: osg 53 none []) ?_ ?env0 (List.Sublist.refl _)
  case env0 =>
    repeat' first
      | (refine List.forall_mem_cons.2 (And.intro ?_ ?_))
      | (intro _ hnil; cases hnil; done)
      | rfl
      | fail
  refine EV.loop (fun x : Nat × PHeap × Vec × List Value => ([(1, pv b1 0), (2, pv b2 0), (3, pv b3 0), (4, vi x.1)], x.2.1, (b3, Cl 24 [.slice (oad x.2.2.1) x.1 (ocap x.2.2.1)]) :: (b2, Cl 24 [.slice none 0 0]) :: osg 53 x.2.2.1 x.2.2.2))
    (fun x => x.1 ≤ ts.length ∧ N.le x.2.1 ∧ osok 1 x.2.2.1 x.1 x.2.2.2 ∧ x.2.2.2.length = x.1 ∧ ∀ k (h : k < x.2.2.2.length) (h' : k < ts.length), Sl x.2.1 5 encOp x.2.2.2[k] ts[k]) (fun x => ts.length - x.1) (0, N, none, []) ⟨Nat.zero_le _, PHeap.le_refl _, ⟨rfl, rfl⟩, rfl, fun k h => absurd h (by simp)⟩ ?_
  rintro ⟨i, Ni, oq, vs'⟩ ⟨hi, hNi, hoq, hlen, hSl⟩ ih
  dsimp only at hi hNi hoq hlen hSl ih ⊢
  replace hb1 := hb1.mono hNi
  repeat' first
      | refine EV.seq ?_
      | refine EV.skip ?_
      | refine EV.block ?_
      | (refine EV.reg ?_; (conv => (arg 2; whnf)); simp only [push_cast, Int.cast_ofNat_Int, reduceIte, Nat.reduceEqDiff, reduceCtorEq, Nat.reduceAdd, Nat.reduceSub, Nat.reduceMul, Int.reduceToNat, Nat.reduceLeDiff])
      | ((refine EV.cond rfl (fun h => ?_) (fun h => ?_) <;> try simp only [reduceCtorEq, reduceIte, if_true, if_false, Bool.not_eq_true', Bool.not_eq_false', decide_eq_true_eq, decide_eq_false_iff_not, Bool.and_eq_true, Bool.or_eq_true, Bool.and_eq_false_iff, Bool.or_eq_false_iff] at h) <;> try (exfalso; first | exact h True.intro | (exact h; done) | omega | (simp only [not_true_eq_false, false_or, or_false] at h; omega)))
      | (refine EV.exit rfl ?_)
      | ((first | refine Exists.intro _ (Exists.intro _ (Exists.intro _ (And.intro (rd_M (by assumption)) ?_))) | refine xr rfl (by simp only [List.length_cons, List.length_nil]; omega) ?_ | fail); try simp only [push_cast, Int.cast_ofNat_Int, reduceIte, Nat.reduceEqDiff, reduceCtorEq, Nat.reduceAdd, Nat.reduceSub, Nat.reduceMul, Int.reduceToNat, Nat.reduceLeDiff])
      | (refine xw ?_; simp only [push_cast, Int.cast_ofNat_Int, reduceIte, Nat.reduceEqDiff, reduceCtorEq, Nat.reduceAdd, Nat.reduceSub, Nat.reduceMul, Int.reduceToNat, Nat.reduceLeDiff])
      | fail
  · have hi' : i < ts.length := by omega
    obtain ⟨pb, po, rfl, hat⟩ := SlSl.at (hrd.mono hNi) hl (fun k h h' => (hk k h h').mono hNi) (by omega)
    obtain ⟨a', c', hr1, hr2⟩ := hat i hi'
    simp only [Nat.mul_one] at hr1
    have hbi : ts[i].length < 1000000 := by
      have := flat_mem_len (l := ts[i]) (List.getElem_mem hi')
      omega
    refine EV.any (t := Q22_4) _ (List.Sublist.cons_cons _ (List.Sublist.cons_cons _ (List.nil_sublist _))) ?_
    simp (config := { maxSteps := 2000000 }) only [push_cast, Int.cast_ofNat_Int, reduceIte, Nat.reduceEqDiff, reduceCtorEq, Nat.reduceAdd, Nat.reduceSub, Nat.reduceMul, Int.reduceToNat, Nat.reduceLeDiff, Q22_4]
    repeat' first
        | (with_reducible intro b; try simp only [push_cast, Int.cast_ofNat_Int, reduceIte, Nat.reduceEqDiff, reduceCtorEq, Nat.reduceAdd, Nat.reduceSub, Nat.reduceMul, Int.reduceToNat, Nat.reduceLeDiff])
        | (refine And.intro (by omega) ?_)
        | ((first | refine Exists.intro _ (Exists.intro _ (Exists.intro _ (And.intro (rd_M (by assumption)) ?_))) | refine xs rfl (by simp only [List.length_cons, List.length_nil]; omega) ?_ | refine And.intro (PHeap.le_refl _) (And.intro (mem_of_sub ?_) ?_); focus ((repeat' first | exact List.Sublist.refl _ | exact List.nil_sublist _ | exact List.sublist_append_left _ _ | refine List.Sublist.cons_cons _ ?_ | refine List.Sublist.append_left ?_ _ | refine List.sublist_append_of_sublist_right ?_ | refine List.Sublist.cons _ ?_); done) | fail); try simp only [push_cast, Int.cast_ofNat_Int, reduceIte, Nat.reduceEqDiff, reduceCtorEq, Nat.reduceAdd, Nat.reduceSub, Nat.reduceMul, Int.reduceToNat, Nat.reduceLeDiff])
        | fail
    refine ⟨_, rdS_M hr2, ok1_flatMap ok1_op _, Or.inl ⟨some (b, 0, []), 0, rfl, [], ⟨rfl, rfl, Nat.le_refl _, by simp [maxLen]⟩, _, List.Perm.refl _, ?_, ?_, ?_⟩⟩
    · simp only [maxLen]; omega
    · omega
    intro o1 ho1 _
    simp only [Nat.zero_add, List.nil_append] at ho1 ⊢
    refine And.intro (PHeap.le_refl _) (And.intro (mem_of_sub (List.Sublist.cons_cons _ (List.Sublist.cons_cons _ (List.nil_sublist _)))) fun b4 => And.intro (PHeap.le_refl _) (And.intro (mem_of_sub (List.Sublist.cons _ (List.Sublist.cons_cons _ (List.Sublist.cons_cons _ (List.nil_sublist _))))) ?_))
    simp only [push_cast, Int.cast_ofNat_Int, reduceIte, Nat.reduceEqDiff, reduceCtorEq, Nat.reduceAdd, Nat.reduceSub, Nat.reduceMul, Int.reduceToNat, Nat.reduceLeDiff, osv_sl]
    refine ⟨_, Or.inr ⟨_, 0, rfl, rd_own' 0 rfl rfl (by simp)⟩, by simp [ok1_cons, ok1_nil, Value.oneCell'], Or.inl ⟨_, _, rfl, _, hoq, _, cat_pull [[_, _, _], osg 53 oq vs', osg 55 o1 _] 1 (by simp), ?_, ?_, ?_⟩⟩
    · simp only [maxLen]; omega
    · omega
    intro o2 ho2 _
    simp only [List.eraseIdx_cons_succ, List.eraseIdx_cons_zero, List.getElem_cons_succ, List.getElem_cons_zero, cat_two, cat_one, cat_nil, List.nil_append, List.cons_append, List.append_assoc, List.append_nil]
    simp only [push_cast, Int.cast_ofNat_Int, reduceIte, Nat.reduceEqDiff, reduceCtorEq, Nat.reduceAdd, Nat.reduceSub, Nat.reduceMul, Int.reduceToNat, Nat.reduceLeDiff, osv_sl]
    repeat' first
        | refine EV.inBlock ?_
        | (refine EV.reg ?_; (conv => (arg 2; whnf)); simp only [push_cast, Int.cast_ofNat_Int, reduceIte, Nat.reduceEqDiff, reduceCtorEq, Nat.reduceAdd, Nat.reduceSub, Nat.reduceMul, Int.reduceToNat, Nat.reduceLeDiff])
        | (refine xw ?_; simp only [push_cast, Int.cast_ofNat_Int, reduceIte, Nat.reduceEqDiff, reduceCtorEq, Nat.reduceAdd, Nat.reduceSub, Nat.reduceMul, Int.reduceToNat, Nat.reduceLeDiff])
        | fail
    refine EV.drop1 ?_
    refine EV.permG ?_ (cat_pull [[_, _], osg 55 o1 _, osg 53 o2 _] 1 (by simp))
    simp only [List.eraseIdx_cons_succ, List.eraseIdx_cons_zero, List.getElem_cons_succ, List.getElem_cons_zero, List.insertIdx_zero, List.insertIdx_succ_cons, cat_two, cat_one, cat_nil, List.nil_append, List.cons_append, List.append_assoc, List.append_nil]
    refine EV.freeze ?_
    have ih3 := ih (i + 1, Ni.add (osg 55 o1 (ts[i].flatMap encOp)), o2, vs' ++ [.slice (oad o1) ts[i].length (ocap o1)]) ⟨by dsimp only; omega, PHeap.le_trans hNi (PHeap.le_add _ _), ho2, by simp [hlen], fun k hk1 hk2 => ?_⟩ (by dsimp only; omega)
    · refine EV.to ih3 ?_ (by (repeat' first | exact List.Sublist.refl _ | exact List.nil_sublist _ | exact List.sublist_append_left _ _ | refine List.Sublist.cons_cons _ ?_ | refine List.Sublist.append_left ?_ _ | refine List.sublist_append_of_sublist_right ?_ | refine List.Sublist.cons _ ?_))
      repeat' first
        | (refine List.forall_mem_cons.2 (And.intro ?_ ?_))
        | (intro _ hnil; cases hnil; done)
        | rfl
        | (refine env_w64 rfl (by first | rfl | (push_cast; first | rfl | omega)) (by omega) (by omega); done)
        | fail
    · dsimp only at hk1 hk2 ⊢
      by_cases hkk : k < vs'.length
      · rw [List.getElem_append_left hkk]
        exact (hSl k hkk hk2).mono (PHeap.le_add _ _)
      · have hki : k = i := by simp at hk1; omega
        subst hki
        rw [List.getElem_append_right (by omega)]
        simp only [hlen, Nat.sub_self, List.getElem_cons_zero]
        exact ⟨_, _, rfl, rd_osg ho1 (fun q hq => hq)⟩
  · have e : i = ts.length := by omega
    subst e
    refine EV.permG ?_ (cat_pull [[_, _], osg 53 oq vs'] 1 (by simp))
    simp only [List.eraseIdx_cons_succ, List.eraseIdx_cons_zero, List.getElem_cons_succ, List.getElem_cons_zero, List.insertIdx_zero, List.insertIdx_succ_cons, cat_two, cat_one, cat_nil, List.nil_append, List.cons_append, List.append_assoc, List.append_nil]
    refine EV.freeze ?_
    have hq : rdS (Ni.add (osg 53 oq vs')) 1 (oad oq) ts.length vs' := rd_osg hoq (fun q hq => hq)
    refine EV.ret Q22_ok ?_
    simp only [push_cast, Int.cast_ofNat_Int, reduceIte, Nat.reduceEqDiff, reduceCtorEq, Nat.reduceAdd, Nat.reduceSub, Nat.reduceMul, Int.reduceToNat, Nat.reduceLeDiff, Q22]
    exact ⟨[.slice (oad oq) ts.length (ocap oq)], rd_own' 1 rfl rfl (by simp), _, rfl, ⟨_, _, vs', rfl, hlen, hq, fun k h h' => (hSl k h h').mono (PHeap.le_add _ _)⟩⟩

theorem ref_Same_q (ts : List (List OpV)) (s1 s2 : Value) (hs1 : SlSl M 5 encOp s1 ts) (hs2 : SlSl M 5 encOp s2 ts) (hb : ts.flatten.length < 1000000) (hb' : ts.length < 1000000) : ConQ Try.prog 17 #[.agg #[s1], .agg #[s2]] M (vb true) := by
  obtain ⟨a, c, vs, rfl, hl, hrd, hk⟩ := hs1
  obtain ⟨a2, c2, vs2, rfl, hl2, hrd2, hk2⟩ := hs2
  refine Con.enter Q23_ok (args := [.agg #[.slice a ts.length c], .agg #[.slice a2 ts.length c2]]) (by simp [Q23]) fun w0 => ?_
  simp only [Q23, argE]
  repeat' first
      | refine EV.seq ?_
      | refine EV.skip ?_
      | refine EV.block ?_
      | (refine EV.reg ?_; (conv => (arg 2; whnf)); simp only [push_cast, Int.cast_ofNat_Int, reduceIte, Nat.reduceEqDiff, reduceCtorEq, Nat.reduceAdd, Nat.reduceSub, Nat.reduceMul, Int.reduceToNat, Nat.reduceLeDiff, ne_eq, not_true_eq_false, decide_false])
      | ((refine EV.cond rfl (fun h => ?_) (fun h => ?_) <;> try simp only [reduceCtorEq, reduceIte, if_true, if_false, Bool.not_eq_true', Bool.not_eq_false', decide_eq_true_eq, decide_eq_false_iff_not, Bool.and_eq_true, Bool.or_eq_true, Bool.and_eq_false_iff, Bool.or_eq_false_iff] at h) <;> try (exfalso; first | exact h True.intro | (exact h; done) | omega | (simp only [not_true_eq_false, false_or, or_false] at h; omega)))
      | ((first | with_reducible intro b | refine xs rfl (by simp only [List.length_cons, List.length_nil]; omega) ?_ | fail); try simp only [push_cast, Int.cast_ofNat_Int, reduceIte, Nat.reduceEqDiff, reduceCtorEq, Nat.reduceAdd, Nat.reduceSub, Nat.reduceMul, Int.reduceToNat, Nat.reduceLeDiff, ne_eq, not_true_eq_false, decide_false])
      | fail
  rename_i b2
  obtain ⟨b3, hb3⟩ : ∃ x, x = b := ⟨_, rfl⟩
  subst hb3
  refine EV.permG ?_ (by exact List.Perm.refl ([(b3, _), (b2, _)] ++ []))
  refine EV.freeze ?_
  generalize hN : M.add [(b3, Cl 24 [.slice a2 ts.length c2]), (b2, Cl 24 [.slice a ts.length c])] = N
  have hMN : M.le N := hN ▸ PHeap.le_add _ _
  have hx2 : rd N b2 0 1 [.slice a ts.length c] := hN ▸ rd_own' 1 rfl rfl (by simp)
  have hx3 : rd N b3 0 1 [.slice a2 ts.length c2] := hN ▸ rd_own' 0 rfl rfl (by simp)
  clear hN
  replace hrd := hrd.mono hMN
  replace hk := fun k h h' => (hk k h h').mono hMN
  replace hrd2 := hrd2.mono hMN
  replace hk2 := fun k h h' => (hk2 k h h').mono hMN
  refine EV.to (ρ' := [(2, pv b2 0), (3, pv b3 0), (5, vi (0 : Nat))]) (G' := []) ?_ ?env0 (List.Sublist.refl _)
  case env0 =>
    repeat' first
      | (refine List.forall_mem_cons.2 (And.intro ?_ ?_))
      | (intro _ hnil; cases hnil; done)
      | rfl
      | fail
  refine EV.loop (fun i : Nat => ([(2, pv b2 0), (3, pv b3 0), (5, vi i)], N, [])) (fun i => i ≤ ts.length) (fun i => ts.length - i) 0 (Nat.zero_le _) ?_
  intro i hi ih
  dsimp only at hi ih ⊢
  by_cases hi' : i < ts.length
  · have hil : ((i : Int) < (ts.length : Int)) = True := eq_true (by omega)
    obtain ⟨pb, po, rfl, hat⟩ := SlSl.at hrd hl hk (by omega)
    obtain ⟨pb2, po2, rfl, hat2⟩ := SlSl.at hrd2 hl2 hk2 (by omega)
    obtain ⟨a', c', hr1, hr2⟩ := hat i hi'
    obtain ⟨a3, c3, hr3, hr4⟩ := hat2 i hi'
    simp only [Nat.mul_one] at hr1 hr3
    have hbi : ts[i].length < 1000000 := by
      have := flat_mem_len (l := ts[i]) (List.getElem_mem hi')
      omega
    repeat' first
        | refine EV.seq ?_
        | refine EV.skip ?_
        | refine EV.block ?_
        | ((first | refine EV.reg ?_ | refine EV.any _ (List.Sublist.refl _) ?_ | fail); (conv => (arg 2; whnf)); simp only [push_cast, Int.cast_ofNat_Int, reduceIte, Nat.reduceEqDiff, reduceCtorEq, Nat.reduceAdd, Nat.reduceSub, Nat.reduceMul, Int.reduceToNat, Nat.reduceLeDiff, hil, ne_eq, not_true_eq_false, decide_false])
        | ((refine EV.cond rfl (fun h => ?_) (fun h => ?_) <;> try simp only [reduceCtorEq, reduceIte, if_true, if_false, Bool.not_eq_true', Bool.not_eq_false', decide_eq_true_eq, decide_eq_false_iff_not, Bool.and_eq_true, Bool.or_eq_true, Bool.and_eq_false_iff, Bool.or_eq_false_iff] at h) <;> try (exfalso; first | exact h True.intro | (exact h; done) | omega | (simp only [not_true_eq_false, false_or, or_false] at h; omega)))
        | (refine And.intro (by omega) ?_)
        | (refine Exists.intro _ (Exists.intro _ (Exists.intro _ (And.intro (rd_M (by assumption)) ?_))); try simp only [push_cast, Int.cast_ofNat_Int, reduceIte, Nat.reduceEqDiff, reduceCtorEq, Nat.reduceAdd, Nat.reduceSub, Nat.reduceMul, Int.reduceToNat, Nat.reduceLeDiff, hil, ne_eq, not_true_eq_false, decide_false])
        | fail
    refine EV.to (ρ' := [(2, pv b2 0), (3, pv b3 0), (5, vi i), (6, vi (0 : Nat))]) (G' := []) ?_ ?env1 (List.Sublist.refl _)
    case env1 =>
      repeat' first
        | (refine List.forall_mem_cons.2 (And.intro ?_ ?_))
        | (intro _ hnil; cases hnil; done)
        | rfl
        | fail
    refine EV.loop (fun j : Nat => ([(2, pv b2 0), (3, pv b3 0), (5, vi i), (6, vi j)], N, [])) (fun j => j ≤ ts[i].length) (fun j => ts[i].length - j) 0 (Nat.zero_le _) ?_
    intro j hj ih2
    dsimp only at hj ih2 ⊢
    by_cases hj' : j < ts[i].length
    · have hjl : ((j : Int) < (ts[i].length : Int)) = True := eq_true (by omega)
      obtain ⟨qb, qo, rfl, hot⟩ := Sl.at (enc := encOp) (fun _ => rfl) (by omega) hr2 (by omega)
      obtain ⟨qb2, qo2, rfl, hot2⟩ := Sl.at (enc := encOp) (fun _ => rfl) (by omega) hr4 (by omega)
      have ho1 := hot j hj'
      have ho2 := hot2 j hj'
      obtain ⟨o, ho⟩ : ∃ o, o = ts[i][j] := ⟨_, rfl⟩
      rw [← ho] at ho1 ho2
      dsimp only [encOp] at ho1 ho2
      repeat' first
          | refine EV.seq ?_
          | refine EV.skip ?_
          | refine EV.block ?_
          | refine EV.inBlock ?_
          | ((first | refine EV.reg ?_ | refine EV.any _ (List.Sublist.refl _) ?_ | fail); (conv => (arg 2; whnf)); simp only [push_cast, Int.cast_ofNat_Int, reduceIte, Nat.reduceEqDiff, reduceCtorEq, Nat.reduceAdd, Nat.reduceSub, Nat.reduceMul, Int.reduceToNat, Nat.reduceLeDiff, hjl, ne_eq, not_true_eq_false, decide_false])
          | ((refine EV.cond rfl (fun h => ?_) (fun h => ?_) <;> try simp only [reduceCtorEq, reduceIte, if_true, if_false, Bool.not_eq_true', Bool.not_eq_false', decide_eq_true_eq, decide_eq_false_iff_not, Bool.and_eq_true, Bool.or_eq_true, Bool.and_eq_false_iff, Bool.or_eq_false_iff] at h) <;> try (exfalso; first | exact h True.intro | (exact h; done) | omega | (simp only [not_true_eq_false, false_or, or_false] at h; omega)))
          | (refine And.intro (by omega) ?_)
          | ((first | refine Exists.intro _ (And.intro (rd_M (by assumption)) ?_) | refine Exists.intro _ (Exists.intro _ (Exists.intro _ (And.intro (rd_M (by assumption)) ?_))) | fail); try simp only [push_cast, Int.cast_ofNat_Int, reduceIte, Nat.reduceEqDiff, reduceCtorEq, Nat.reduceAdd, Nat.reduceSub, Nat.reduceMul, Int.reduceToNat, Nat.reduceLeDiff, hjl, ne_eq, not_true_eq_false, decide_false])
          | fail
      · exfalso; simp at h
      refine EV.to (ih2 (j + 1) (by omega) (by omega)) ?_ (by (repeat' first | exact List.Sublist.refl _ | exact List.nil_sublist _ | exact List.sublist_append_left _ _ | refine List.Sublist.cons_cons _ ?_ | refine List.Sublist.append_left ?_ _ | refine List.sublist_append_of_sublist_right ?_ | refine List.Sublist.cons _ ?_))
      repeat' first
        | (refine List.forall_mem_cons.2 (And.intro ?_ ?_))
        | (intro _ hnil; cases hnil; done)
        | rfl
        | (refine env_w64 rfl (by first | rfl | (push_cast; first | rfl | omega)) (by omega) (by omega); done)
        | fail
    · have hjl : ((j : Int) < (ts[i].length : Int)) = False := eq_false (by omega)
      repeat' first
          | refine EV.seq ?_
          | refine EV.inBlock ?_
          | (refine EV.reg ?_; (conv => (arg 2; whnf)); simp only [push_cast, Int.cast_ofNat_Int, reduceIte, Nat.reduceEqDiff, reduceCtorEq, Nat.reduceAdd, Nat.reduceSub, Nat.reduceMul, Int.reduceToNat, Nat.reduceLeDiff, hjl])
          | ((refine EV.cond rfl (fun h => ?_) (fun h => ?_) <;> try simp only [reduceCtorEq, reduceIte, if_true, if_false, Bool.not_eq_true', Bool.not_eq_false', decide_eq_true_eq, decide_eq_false_iff_not, Bool.and_eq_true, Bool.or_eq_true, Bool.and_eq_false_iff, Bool.or_eq_false_iff] at h) <;> try (exfalso; first | exact h True.intro | (exact h; done) | omega | (simp only [not_true_eq_false, false_or, or_false] at h; omega)))
          | (refine EV.exit rfl ?_)
          | (refine And.intro (by omega) ?_)
          | (refine Exists.intro _ (Exists.intro _ (Exists.intro _ (And.intro (rd_M (by assumption)) ?_))); try simp only [push_cast, Int.cast_ofNat_Int, reduceIte, Nat.reduceEqDiff, reduceCtorEq, Nat.reduceAdd, Nat.reduceSub, Nat.reduceMul, Int.reduceToNat, Nat.reduceLeDiff, hjl])
          | fail
      refine EV.to (ih (i + 1) (by omega) (by omega)) ?_ (by (repeat' first | exact List.Sublist.refl _ | exact List.nil_sublist _ | exact List.sublist_append_left _ _ | refine List.Sublist.cons_cons _ ?_ | refine List.Sublist.append_left ?_ _ | refine List.sublist_append_of_sublist_right ?_ | refine List.Sublist.cons _ ?_))
      repeat' first
        | (refine List.forall_mem_cons.2 (And.intro ?_ ?_))
        | (intro _ hnil; cases hnil; done)
        | rfl
        | (refine env_w64 rfl (by first | rfl | (push_cast; first | rfl | omega)) (by omega) (by omega); done)
        | fail
  · have hil : ((i : Int) < (ts.length : Int)) = False := eq_false (by omega)
    repeat' first
        | refine EV.seq ?_
        | (refine EV.reg ?_; (conv => (arg 2; whnf)); simp only [push_cast, Int.cast_ofNat_Int, reduceIte, Nat.reduceEqDiff, reduceCtorEq, Nat.reduceAdd, Nat.reduceSub, Nat.reduceMul, Int.reduceToNat, Nat.reduceLeDiff, hil])
        | ((refine EV.cond rfl (fun h => ?_) (fun h => ?_) <;> try simp only [reduceCtorEq, reduceIte, if_true, if_false, Bool.not_eq_true', Bool.not_eq_false', decide_eq_true_eq, decide_eq_false_iff_not, Bool.and_eq_true, Bool.or_eq_true, Bool.and_eq_false_iff, Bool.or_eq_false_iff] at h) <;> try (exfalso; first | exact h True.intro | (exact h; done) | omega | (simp only [not_true_eq_false, false_or, or_false] at h; omega)))
        | (refine EV.exit rfl ?_)
        | (refine EV.ret Q23_ok ?_; simp only [push_cast, Int.cast_ofNat_Int, reduceIte, Nat.reduceEqDiff, reduceCtorEq, Nat.reduceAdd, Nat.reduceSub, Nat.reduceMul, Int.reduceToNat, Nat.reduceLeDiff, hil, Q23])
        | (refine Exists.intro _ (Exists.intro _ (Exists.intro _ (And.intro (rd_M (by assumption)) ?_))); try simp only [push_cast, Int.cast_ofNat_Int, reduceIte, Nat.reduceEqDiff, reduceCtorEq, Nat.reduceAdd, Nat.reduceSub, Nat.reduceMul, Int.reduceToNat, Nat.reduceLeDiff, hil])
        | fail

end
end Go.EV

namespace Go.EV
open Go.Proofs

theorem ok1_turn (t : Int × Int) : ok1 (encTurn t) := by simp [encTurn, ok1_cons, ok1_nil, Value.oneCell']
theorem played_inv2 {ts : List (List OpV)} {turns : List (Int × Int)} (hck : checkP ts = 0) (hsm : ts.length + ts.flatten.length < 60) (h100 : turns.length ≤ 100) : (((VM.new (ts.map expT)).played turns).endAll ts.length).Inv 2000 := by
  have iv0 := new_inv hck (by omega) (show 10 < 1000000 by decide) (by decide)
  have htl : (VM.new (ts.map expT)).thr.length = ts.length := by simp [VM.new]
  have hm0p : (VM.new (ts.map expT)).prog = ts.map expT := rfl
  generalize VM.new (ts.map expT) = m0 at iv0 htl hm0p ⊢
  obtain ⟨iv1, lep⟩ := VM.played_inv iv0 turns (by omega)
  have hpr1 : (m0.played turns).prog = ts.map expT := lep.pr.trans hm0p
  have htl1 : (m0.played turns).thr.length = ts.length := lep.tl.trans htl
  generalize m0.played turns = m1 at iv1 hpr1 htl1 ⊢
  have hn3 := iv1.wf.t3
  have hK : ∀ i, i < m1.thr.length → m1.leftOf i ≤ (180 : Nat) := fun i hi => by
    have h1 : m1.prog[i]!.length ≤ 180 := by
      rw [hpr1, getB (by rw [List.length_map]; omega), List.getElem_map]
      have h2 := expT_len ts[i]
      have h3 := flat_mem_len (l := ts[i]) (List.getElem_mem _)
      omega
    unfold VM.leftOf; omega
  have hS := VM.leftSum_le (m := m1) (K := 180) ts.length (fun i hi => hK i (by omega))
  have h2 : ts.length * 180 ≤ 3 * 180 := Nat.mul_le_mul_right _ (by omega)
  have iv2 := (VM.endAll_inv iv1 ts.length (by omega) (by omega)).1
  exact ⟨iv2.wf.up (by omega) (by omega), iv2.nd, iv2.ow⟩
theorem outcome_len {m : VM} {B : Nat} (wf : m.Wf B) : m.outcome.length ≤ 3 * B + 3 := by
  have h1 := flatten_le (m.thr.map (·.read)) (B := B) (fun x hx => by
    obtain ⟨t, ht, rfl⟩ := List.mem_map.1 hx
    exact wf.rb t ht)
  have h2 := wf.t3
  rw [List.length_map] at h1
  have h3 : m.thr.length * B ≤ 3 * B := Nat.mul_le_mul_right _ h2
  simp only [VM.outcome, List.length_append, List.length_map, List.length_range]; omega
theorem playP_len (ts : List (List OpV)) (turns : List (Int × Int)) (h : ts.length + ts.flatten.length < 60) : (playP ts turns).1.length < 1000000 := by
  unfold playP
  split
  · simp
  · rename_i hck
    split
    · simp
    · have := outcome_len (played_inv2 (ts := ts) (turns := turns) (by simpa using hck) h (by omega)).wf
      dsimp only; omega

section
variable {M : PHeap}

set_option maxRecDepth 8000 in
set_option maxHeartbeats 8000000 in
theorem ViewPlays_q (ts : List (List OpV)) (s : Value) (hs : SlSl M 5 encOp s ts) (hb : ts.length ≤ 140737488355328) (hb2 : ∀ t ∈ ts, t.length ≤ 140737488355328) (turns : List (Int × Int)) (tv : Value) (htv : Sl M 2 encTurn tv turns) (hbt : turns.length ≤ 140737488355328) :
    ConQ Try.prog 4 #[.agg #[s], tv] M (vb true) := by
  have hs0 := hs
  obtain ⟨a, c, vs, rfl, _⟩ := hs
  obtain ⟨ta, tc, rfl, hrt⟩ := htv
  refine Con.enter Q11_ok (args := [.agg #[.slice a ts.length c], .slice ta turns.length tc]) (by simp [Q11]) fun w0 => ?_
  simp only [Q11, argE]
  repeat' first
      | refine EV.seq ?_
      | refine EV.skip ?_
      | (refine EV.reg ?_; (conv => (arg 2; whnf)); simp only [push_cast, Int.cast_ofNat_Int, reduceIte, Nat.reduceEqDiff, reduceCtorEq, Nat.reduceAdd, Nat.reduceSub, Nat.reduceMul, Int.reduceToNat, Nat.reduceLeDiff])
      | ((first | refine ConQ.call (sane_q) ?_ | refine ConQ.call (large_q ts _ (hs0.mono (PHeap.le_add _ _)) hb hb2) ?_ | fail); try simp only [push_cast, Int.cast_ofNat_Int, reduceIte, Nat.reduceEqDiff, reduceCtorEq, Nat.reduceAdd, Nat.reduceSub, Nat.reduceMul, Int.reduceToNat, Nat.reduceLeDiff])
      | assumption
      | (refine condW.merge ?_ (fun hc K' hK => ?_) ?_; rotate_left)
      | ((refine EV.cond rfl (fun h => ?_) (fun h => ?_) <;> try simp only [reduceCtorEq, reduceIte, if_true, if_false, Bool.not_eq_true', Bool.not_eq_false', decide_eq_true_eq, decide_eq_false_iff_not, Bool.and_eq_true, Bool.or_eq_true, Bool.and_eq_false_iff, Bool.or_eq_false_iff] at h) <;> try (exfalso; first | exact h True.intro | (exact h; done) | omega | (simp only [not_true_eq_false, false_or, or_false] at h; omega)))
      | (refine EV.ret Q11_ok ?_; simp only [push_cast, Int.cast_ofNat_Int, reduceIte, Nat.reduceEqDiff, reduceCtorEq, Nat.reduceAdd, Nat.reduceSub, Nat.reduceMul, Int.reduceToNat, Nat.reduceLeDiff, Q11])
      | ((first | with_reducible intro b | refine xr rfl (by simp only [List.length_cons, List.length_nil]; omega) ?_ | fail); try simp only [push_cast, Int.cast_ofNat_Int, reduceIte, Nat.reduceEqDiff, reduceCtorEq, Nat.reduceAdd, Nat.reduceSub, Nat.reduceMul, Int.reduceToNat, Nat.reduceLeDiff])
      | fail
  · obtain ⟨hl1, hl2⟩ := h
    have hsm := largeP_small hl1
    obtain ⟨bp, hbp⟩ : ∃ x, x = b := ⟨_, rfl⟩
    subst hbp
    refine Con.callA (G1 := []) (ref_Own_c ts _ hs0 (by omega) (by omega)) (List.Perm.refl _) ?_
    rintro v M1 G1 hM1 ⟨s', rfl, hs1⟩
    have hs2 := hs1
    obtain ⟨a', c', vs', rfl, _⟩ := hs2
    simp only [push_cast, Int.cast_ofNat_Int, reduceIte, Nat.reduceEqDiff, reduceCtorEq, Nat.reduceAdd, Nat.reduceSub, Nat.reduceMul, Int.reduceToNat, Nat.reduceLeDiff]
    repeat' first
        | refine EV.seq ?_
        | (refine EV.reg ?_; (conv => (arg 2; whnf)); simp only [push_cast, Int.cast_ofNat_Int, reduceIte, Nat.reduceEqDiff, reduceCtorEq, Nat.reduceAdd, Nat.reduceSub, Nat.reduceMul, Int.reduceToNat, Nat.reduceLeDiff])
        | (with_reducible intro b; try simp only [push_cast, Int.cast_ofNat_Int, reduceIte, Nat.reduceEqDiff, reduceCtorEq, Nat.reduceAdd, Nat.reduceSub, Nat.reduceMul, Int.reduceToNat, Nat.reduceLeDiff])
        | (refine xw ?_; simp only [push_cast, Int.cast_ofNat_Int, reduceIte, Nat.reduceEqDiff, reduceCtorEq, Nat.reduceAdd, Nat.reduceSub, Nat.reduceMul, Int.reduceToNat, Nat.reduceLeDiff])
        | fail
    rename_i bq
    refine ⟨_, rdS_M (hrt.mono hM1), ok1_flatMap ok1_turn _, Or.inl ⟨some (b, 0, []), 0, rfl, [], ⟨rfl, rfl, Nat.le_refl _, by simp [maxLen]⟩, _, List.Perm.refl _, ?_, ?_, ?_⟩⟩
    · simp only [maxLen]; omega
    · omega
    intro o1 ho1 _
    simp only [Nat.zero_add, List.nil_append] at ho1 ⊢
    refine EV.to (ρ' := [(1, .slice ta turns.length tc), (2, pv bp 0), (5, pv bq 0), (6, osv o1 turns.length)]) (G' := (((bq, Cl 24 [.slice a' ts.length c']) :: (bp, Cl 24 [.slice a ts.length c]) :: G1) ++ osg 34 o1 (turns.flatMap encTurn)) ++ []) ?_ ?env0 (by rw [List.append_nil]; exact List.Sublist.refl _)
    case env0 =>
      repeat' first
        | (refine List.forall_mem_cons.2 (And.intro ?_ ?_))
        | (intro _ hnil; cases hnil; done)
        | rfl
        | fail
    refine EV.freeze ?_
    generalize hN : M1.add (((bq, Cl 24 [.slice a' ts.length c']) :: (bp, Cl 24 [.slice a ts.length c]) :: G1) ++ osg 34 o1 (turns.flatMap encTurn)) = N
    have hMN : M1.le N := hN ▸ PHeap.le_add _ _
    have hxp : rd N bp 0 1 [.slice a ts.length c] := hN ▸ rd_own' 1 rfl rfl (by simp)
    have hxq : rd N bq 0 1 [.slice a' ts.length c'] := hN ▸ rd_own' 0 rfl rfl (by simp)
    have hl : rdS N 2 (oad o1) turns.length (turns.flatMap encTurn) := hN ▸ rd_osg ho1 (fun q hq => List.mem_append_right _ hq)
    have hsN := (hs0.mono hM1).mono hMN
    have hs1N := hs1.mono hMN
    have hrtN := (hrt.mono hM1).mono hMN
    clear hN
    have hpl := playP_len ts turns hsm
    rw [osv_sl]
    repeat' first
        | refine EV.seq ?_
        | (refine EV.reg ?_; (conv => (arg 2; whnf)); simp only [push_cast, Int.cast_ofNat_Int, reduceIte, Nat.reduceEqDiff, reduceCtorEq, Nat.reduceAdd, Nat.reduceSub, Nat.reduceMul, Int.reduceToNat, Nat.reduceLeDiff])
        | (refine Exists.intro _ (And.intro (rd_M (by assumption)) ?_); try simp only [push_cast, Int.cast_ofNat_Int, reduceIte, Nat.reduceEqDiff, reduceCtorEq, Nat.reduceAdd, Nat.reduceSub, Nat.reduceMul, Int.reduceToNat, Nat.reduceLeDiff])
        | fail
    refine Con.callB (Mr := N) (G1 := []) (G2 := []) (view_Play_c ts _ hsN (by omega) (by omega) turns _ ⟨_, _, rfl, hrtN⟩ (by omega)) (PHeap.le_add _ _) (List.Perm.refl _) ?_
    rintro v1 M2 G2 ⟨ov1, rfl, hov1, rfl⟩
    simp only [push_cast, Int.cast_ofNat_Int, reduceIte, Nat.reduceEqDiff, reduceCtorEq, Nat.reduceAdd, Nat.reduceSub, Nat.reduceMul, Int.reduceToNat, Nat.reduceLeDiff, osv_sl]
    repeat' first
        | refine EV.seq ?_
        | (refine EV.reg ?_; (conv => (arg 2; whnf)); simp only [push_cast, Int.cast_ofNat_Int, reduceIte, Nat.reduceEqDiff, reduceCtorEq, Nat.reduceAdd, Nat.reduceSub, Nat.reduceMul, Int.reduceToNat, Nat.reduceLeDiff])
        | (refine Exists.intro _ (And.intro (rd_M (by assumption)) ?_); try simp only [push_cast, Int.cast_ofNat_Int, reduceIte, Nat.reduceEqDiff, reduceCtorEq, Nat.reduceAdd, Nat.reduceSub, Nat.reduceMul, Int.reduceToNat, Nat.reduceLeDiff])
        | fail
    refine Con.callB (Mr := N) (G1 := []) (ref_Play_c ts _ hs1N (by omega) (by omega) turns _ ⟨_, _, rfl, hl⟩ (by omega)) (PHeap.le_add _ _) (List.Perm.refl _) ?_
    rintro v2 M3 G3 ⟨ov2, rfl, hov2, rfl⟩
    simp only [push_cast, Int.cast_ofNat_Int, reduceIte, Nat.reduceEqDiff, reduceCtorEq, Nat.reduceAdd, Nat.reduceSub, Nat.reduceMul, Int.reduceToNat, Nat.reduceLeDiff, osv_sl]
    repeat' first
        | refine EV.seq ?_
        | refine EV.skip ?_
        | refine EV.block ?_
        | (refine EV.reg ?_; (conv => (arg 2; whnf)); simp only [push_cast, Int.cast_ofNat_Int, reduceIte, Nat.reduceEqDiff, reduceCtorEq, Nat.reduceAdd, Nat.reduceSub, Nat.reduceMul, Int.reduceToNat, Nat.reduceLeDiff, ne_eq, not_true_eq_false, decide_false, decide_true, Bool.not_true, Bool.or_self])
        | ((first | refine ConQ.call (ref_Same_q ts _ _ (hsN.mono (PHeap.le_add _ _)) (hs1N.mono (PHeap.le_add _ _)) (by omega) (by omega)) ?_ | refine ConQ.call (ref_Ints_q _ _ _ _ _ _ (rd_osg hov1 (fun q hq => List.mem_append_left _ hq)) (rd_osg hov2 (fun q hq => List.mem_append_right _ hq)) (by omega)) ?_ | fail); try simp only [push_cast, Int.cast_ofNat_Int, reduceIte, Nat.reduceEqDiff, reduceCtorEq, Nat.reduceAdd, Nat.reduceSub, Nat.reduceMul, Int.reduceToNat, Nat.reduceLeDiff, ne_eq, not_true_eq_false, decide_false, decide_true, Bool.not_true, Bool.or_self])
        | (refine condW.intro (fun hc => ?_) (fun hc => ?_) <;> try simp only [ne_eq, Bool.not_true, Bool.not_false, not_true_eq_false, not_false_eq_true, reduceCtorEq] at hc <;> try (exfalso; first | exact hc | omega | (simp at hc; done)))
        | ((refine EV.cond rfl (fun h => ?_) (fun h => ?_) <;> try simp only [reduceCtorEq, reduceIte, if_true, if_false, Bool.not_eq_true', Bool.not_eq_false', decide_eq_true_eq, decide_eq_false_iff_not, Bool.and_eq_true, Bool.or_eq_true, Bool.and_eq_false_iff, Bool.or_eq_false_iff] at h) <;> try (exfalso; first | exact h True.intro | (exact h; done) | omega | (simp only [not_true_eq_false, false_or, or_false] at h; omega)))
        | (refine Exists.intro _ (And.intro (rd_M (by assumption)) ?_); try simp only [push_cast, Int.cast_ofNat_Int, reduceIte, Nat.reduceEqDiff, reduceCtorEq, Nat.reduceAdd, Nat.reduceSub, Nat.reduceMul, Int.reduceToNat, Nat.reduceLeDiff, ne_eq, not_true_eq_false, decide_false, decide_true, Bool.not_true, Bool.or_self])
        | fail
    refine EV.to (ρ' := [(1, .slice ta turns.length tc), (6, .slice (oad o1) turns.length (ocap o1)), (11, vi (0 : Nat))]) (G' := []) ?_ ?env1 (List.nil_sublist _)
    case env1 =>
      repeat' first
        | (refine List.forall_mem_cons.2 (And.intro ?_ ?_))
        | (intro _ hnil; cases hnil; done)
        | rfl
        | fail
    refine EV.loop (fun i : Nat => ([(1, .slice ta turns.length tc), (6, .slice (oad o1) turns.length (ocap o1)), (11, vi i)], N, [])) (fun i => i ≤ turns.length) (fun i => turns.length - i) 0 (Nat.zero_le _) ?_
    intro i hi ih
    dsimp only at hi ih ⊢
    by_cases hi' : i < turns.length
    · have hil : ((i : Int) < (turns.length : Int)) = True := eq_true (by omega)
      obtain ⟨tb, to, hte, hat⟩ := Sl.at (enc := encTurn) (fun _ => rfl) (by omega) hrtN (by omega)
      obtain ⟨lb, lo, hle, hlt⟩ := Sl.at (enc := encTurn) (fun _ => rfl) (by omega) hl (by omega)
      have ht1 := hat i hi'
      have ht2 := hlt i hi'
      obtain ⟨t, ht⟩ : ∃ t, t = turns[i] := ⟨_, rfl⟩
      rw [← ht] at ht1 ht2
      dsimp only [encTurn] at ht1 ht2
      rw [hte, hle]
      rw [hte, hle] at ih
      repeat' first
          | refine EV.seq ?_
          | refine EV.skip ?_
          | refine EV.block ?_
          | refine EV.inBlock ?_
          | ((first | refine EV.reg ?_ | refine EV.any _ (List.Sublist.refl _) ?_ | fail); (conv => (arg 2; whnf)); simp only [push_cast, Int.cast_ofNat_Int, reduceIte, Nat.reduceEqDiff, reduceCtorEq, Nat.reduceAdd, Nat.reduceSub, Nat.reduceMul, Int.reduceToNat, Nat.reduceLeDiff, hil, ne_eq, not_true_eq_false, decide_false])
          | ((refine EV.cond rfl (fun h => ?_) (fun h => ?_) <;> try simp only [reduceCtorEq, reduceIte, if_true, if_false, Bool.not_eq_true', Bool.not_eq_false', decide_eq_true_eq, decide_eq_false_iff_not, Bool.and_eq_true, Bool.or_eq_true, Bool.and_eq_false_iff, Bool.or_eq_false_iff] at h) <;> try (exfalso; first | exact h True.intro | (exact h; done) | omega | (simp only [not_true_eq_false, false_or, or_false] at h; omega)))
          | (refine And.intro (by omega) ?_)
          | (refine Exists.intro _ (And.intro (rd_M (by assumption)) ?_); try simp only [push_cast, Int.cast_ofNat_Int, reduceIte, Nat.reduceEqDiff, reduceCtorEq, Nat.reduceAdd, Nat.reduceSub, Nat.reduceMul, Int.reduceToNat, Nat.reduceLeDiff, hil, ne_eq, not_true_eq_false, decide_false])
          | fail
      · exfalso; simp at h
      refine EV.to (ih (i + 1) (by omega) (by omega)) ?_ (by (repeat' first | exact List.Sublist.refl _ | exact List.nil_sublist _ | exact List.sublist_append_left _ _ | refine List.Sublist.cons_cons _ ?_ | refine List.Sublist.append_left ?_ _ | refine List.sublist_append_of_sublist_right ?_ | refine List.Sublist.cons _ ?_))
      repeat' first
        | (refine List.forall_mem_cons.2 (And.intro ?_ ?_))
        | (intro _ hnil; cases hnil; done)
        | rfl
        | (refine env_w64 rfl (by first | rfl | (push_cast; first | rfl | omega)) (by omega) (by omega); done)
        | fail
    · have hil : ((i : Int) < (turns.length : Int)) = False := eq_false (by omega)
      repeat' first
          | refine EV.seq ?_
          | (refine EV.reg ?_; (conv => (arg 2; whnf)); simp only [push_cast, Int.cast_ofNat_Int, reduceIte, Nat.reduceEqDiff, reduceCtorEq, Nat.reduceAdd, Nat.reduceSub, Nat.reduceMul, Int.reduceToNat, Nat.reduceLeDiff, hil])
          | (refine ConQ.call (sane_q) ?_; try simp only [push_cast, Int.cast_ofNat_Int, reduceIte, Nat.reduceEqDiff, reduceCtorEq, Nat.reduceAdd, Nat.reduceSub, Nat.reduceMul, Int.reduceToNat, Nat.reduceLeDiff, hil])
          | ((refine EV.cond rfl (fun h => ?_) (fun h => ?_) <;> try simp only [reduceCtorEq, reduceIte, if_true, if_false, Bool.not_eq_true', Bool.not_eq_false', decide_eq_true_eq, decide_eq_false_iff_not, Bool.and_eq_true, Bool.or_eq_true, Bool.and_eq_false_iff, Bool.or_eq_false_iff] at h) <;> try (exfalso; first | exact h True.intro | (exact h; done) | omega | (simp only [not_true_eq_false, false_or, or_false] at h; omega)))
          | (refine EV.exit rfl ?_)
          | (refine EV.ret Q11_ok ?_; simp only [push_cast, Int.cast_ofNat_Int, reduceIte, Nat.reduceEqDiff, reduceCtorEq, Nat.reduceAdd, Nat.reduceSub, Nat.reduceMul, Int.reduceToNat, Nat.reduceLeDiff, hil, Q11])
          | fail

end
end Go.EV

namespace Go.Proofs.Ytlcpcmdgpchgbaa.viewPlays
open Go.ChangeShapes Go.WideShapes Go.ChangeAt Go.RowKit Go.EV
set_option linter.unusedVariables false

theorem own : ownKnob Try.prog.godebug = none := by kernel_rfl

set_option maxRecDepth 100000 in
theorem lifted (os : Os) (started : os.Started) (H : Type) (enc : TypeId × Value → H) :
    ReturnsInHanded {} Try.checked os 4 .any (Rows.viewPlaysSpec.pre6 enc Try.prog Try.f4 Rows.viewPlaysRow.domain false) (Rows.viewPlaysSpec.post enc Try.prog Try.f4 false true false false) := by
  refine returnsInHanded_of_change_shaped (C := Try.checked) own started (by kernel_rfl) Try.func4
    (ChangeSpec.witness6 (enc := enc) (C := Try.checked) false ⟨#[], #[.agg #[.slice none 0 0], .slice none 0 0], []⟩ 8 (by kernel_rfl) (by kernel_rfl) (by kernel_rfl) (by kernel_rfl)) ?_
  intro W base args ds gs before hval0 hW hcnd hwt _ _
  have hval : ∀ (j : Nat) t v, Try.f4.params[j]? = some t → args[j]? = some v → Value.okWide Try.prog W .any base t v := hval0
  have hW' := hW
  obtain ⟨p, q, hA0, hV, rfl, hfz, hnd⟩ := hW
  have hA : DataW.TrodAll enc Try.prog W 0 (fun _ => true) true Try.f4.params.toList args.toList ds p := hA0
  have hA1 := hA
  rw [Try.params4] at hA hval
  obtain ⟨v0, vs0, d0, ds0, p0, q0, hargs, rfl, rfl, h0, r0⟩ := trodAll_cons hA
  obtain ⟨v1, vs1, d1, ds1, p1, q1, rfl, rfl, rfl, h1, r1⟩ := trodAll_cons r0
  obtain ⟨rfl, rfl, rfl⟩ := trodAll_nil r1
  obtain rfl : args = #[v0, v1] := by cases args; simp_all
  obtain ⟨rfl, rfl⟩ := trodVars_none hV
  have k0 := hval 0 24 v0 rfl rfl
  have k1 := hval 1 25 v1 rfl rfl
  simp only [Value.okWide, Try.underlying24] at k0
  obtain ⟨cs0, rfl, _, _⟩ := k0
  obtain ⟨a1, n1, c1, rfl⟩ := okWide_slice Try.underlying25 k1
  obtain ⟨m0, h0⟩ := h0
  obtain ⟨m1, h1⟩ := h1
  have hwt2 : (DataW.weightsEach Try.prog [24, 25] [d0, d1]).all (· ≤ reachBytes) = true := hwt
  simp only [DataW.weightsEach, List.all_append, Bool.and_eq_true] at hwt2
  obtain ⟨hw0, hw1, _⟩ := hwt2
  obtain ⟨s, ts, hcs, hs, hb, hb2⟩ := litmus_in h0 hw0
  obtain ⟨turns, a, c, htv, hrt, hbt, _⟩ := slice_in (e' := encTurn) (Q := fun _ => True) Try.underlying25 cells_two (by decide) bytes_two (fun _ => rfl) h1 hw1 (fun m cs y hy _ => turn_in hy)
  have hcs2 : cs0 = #[s] := by
    have : cs0.toList = [s] := hcs
    exact Array.ext' this
  subst hcs2
  have hrb : reachBytes ≤ 140737488355328 := by decide
  refine (Con.at2 (ViewPlays_q ts s hs (by omega) (fun t ht => Nat.le_trans (hb2 t ht) hrb) turns _ ⟨a, c, htv, hrt⟩ (by omega))).mono fun e W' hX => ?_
  obtain ⟨v, rfl, ⟨_, _, rfl⟩, hk, hfr⟩ := hX
  have hlt := hW'.lt
  exact ⟨_, rfl, post_of_kept (pv := []) hW' (fun _ _ _ => (trodAll_cons_mk (shut_bool Try.underlying4 _) trodAll_mk0)) (fun sp hsp => trodAll_kept kids rows_pos' hfr (by rw [Try.params4]; exact of_decide_eq_true (by kernel_rfl)) hA1 (fun r hr => hlt r (by simpa using hr)) (fun r hr => hsp r (by simpa using hr))) (fun _ _ => rfl) rfl hk⟩

theorem over : Rows.viewPlaysRow.holds Try.pinned (OpenSpec.ofChange Rows.viewPlaysSpec) :=
  OpenClaim.holds_of_wide 4 Try.f4 rfl rfl rfl rfl rfl rfl rfl ⟨rfl, rfl, rfl, rfl, rfl⟩ rfl rfl rfl rfl rfl (by kernel_rfl) Try.func4 (by kernel_rfl)
    (of_decide_eq_true (by kernel_rfl)) (by unfold Func.isWrapper; first | (rw [if_pos (by decide +kernel)]; kernel_rfl) | (rw [if_neg (by decide +kernel)]; exact ⟨rfl, rfl⟩))
    (fun os started H enc _ => lifted os started H enc)

/-- The statement. -/
theorem proved : Rows.ViewPlaysSaid :=
  over
#print axioms proved
end Go.Proofs.Ytlcpcmdgpchgbaa.viewPlays
