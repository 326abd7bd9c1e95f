/- All orders of a list of events that keep the order of each thread. All choices of which events write. All choices from where the events read. All orders of the writes of the locations. The executions that are looked at fit. The plain law of relations: closing them, chains. The plain law of executions: what the rows of bits say. The plain law of executions: what is before what, and what has seen what. The plain law of executions: the words. The plain law of executions: which there are. An execution's outcome; a copy of an execution. A copy of an execution. -/
import Derived.Test.YtmgnpoleilcjoaaGreatVPad
set_option maxRecDepth 8000
set_option linter.unusedSimpArgs false
set_option linter.unusedVariables false
set_option linter.unusedSectionVars false
namespace Go.EV
open Go.Proofs

def thI (p : List Ev) (x : Int) : Int := (evAt p x.toNat).th
def blockedAt (p : List Ev) (l : List Int) (i : Nat) : Bool := (l.take i).any fun x => decide (thI p x = thI p (numAt l i))
def mergesN (p : List Ev) : Nat → List Int → List (List Int)
 | 0, _ => [[]]
 | n + 1, l => (List.range (n + 1)).flatMap fun i => if blockedAt p l i then [] else (mergesN p n (l.eraseIdx i)).map (numAt l i :: ·)
def mergesP (p : List Ev) (l : List Int) : List (List Int) := mergesN p l.length l

section
variable {M : PHeap}

theorem ax_merges_S3_q (p : List Ev) {pb po pc b1 b2 : Nat} {y : Int} (h1 : rd M b1 0 1 [.slice (some ⟨pb, po, none⟩) p.length pc]) (h2 : rd M b2 0 1 [vi y]) (hat : ∀ i, i < p.length → rd M pb (po + i * 6) 6 (encEv (evAt p i)))
  (x : Int) (hx : 0 ≤ x ∧ x < p.length) (hy : 0 ≤ y ∧ y < p.length) : ConQ Tryz.prog 118 #[vi x, pv b1 0, pv b2 0] M (vb (decide (thI p x = thI p y))) := by
 have hx1 := (hat x.toNat (by omega)).pt 5 1 (by omega) rfl
 have hy1 := (hat y.toNat (by omega)).pt 5 1 (by omega) rfl
 refine Con.enter Q33_ok (args := [vi x, pv b1 0, pv b2 0]) (by simp [Q33]) fun w0 => ?_
 simp only [Q33, argE]
 repeat' first
   | refine EV.seq ?_
   | ((first | refine EV.reg ?_ | refine EV.any _ (List.Sublist.refl _) ?_ | fail); (conv => (arg 2; whnf)); (refine nx ?_; try with_reducible exact ⟨⟩))
   | (refine EV.ret Q33_ok ?_; simp only [wpS, wpA, wpQL, push_cast, Int.cast_ofNat_Int, reduceIte, Nat.reduceEqDiff, reduceCtorEq, Nat.reduceAdd, Nat.reduceSub, Nat.reduceMul, Int.reduceToNat, Nat.reduceLeDiff, Q33])
   | (refine And.intro (by omega) ?_)
   | ((first | refine Exists.intro _ (And.intro (rd_M (by assumption)) ?_) | refine Exists.intro _ (Exists.intro _ (Exists.intro _ (And.intro (rd_M (by assumption)) ?_))) | fail); try (refine nx ?_; try with_reducible exact ⟨⟩))
   | fail
 all_goals rfl

theorem SlC_osv {G : Own} {T : TypeId} {ov : Vec} {n : Nat} {xs : List Int} (hok : osok 1 ov n (xs.map vi)) (hn : n = xs.length) (hG : ∀ q ∈ osg T ov (xs.map vi), q ∈ G) : SlC (M.add G) 1 ei (osv ov n) xs := by
 subst hn
 refine ⟨oad ov, ocap ov, rfl, ?_, ?_⟩
 ·cases ov with
  | none => exact Nat.le_of_eq hok.1
  | some q => exact hok.2.2.1
 ·rw [flatMap_ei]; exact rd_osg hok hG

/-- What the walk's boxes hold. -/
structure WalkB (p : List Ev) (M : PHeap) (l yb pb wb : Nat) (ea : Option Addr) (ec : Nat) : Prop where
 hy : rd M yb 0 1 [yv l]
 hp : rd M pb 0 1 [.slice ea p.length ec]
 hw : rd M wb 0 1 [.func (.func 116) #[] #[pv yb 0, pv pb 0, pv wb 0]]
 hat : 0 < p.length → ∃ eb eo, ea = some ⟨eb, eo, none⟩ ∧ ∀ i, i < p.length → rd M eb (eo + i * 6) 6 (encEv (evAt p i))

theorem WalkB.mono {p : List Ev} {M M' : PHeap} {l yb pb wb : Nat} {ea : Option Addr} {ec : Nat} (h : WalkB p M l yb pb wb ea ec) (hM : M.le M') : WalkB p M' l yb pb wb ea ec :=
 ⟨h.hy.mono hM, h.hp.mono hM, h.hw.mono hM, fun h0 => let ⟨eb, eo, e, k⟩ := h.hat h0; ⟨eb, eo, e, fun i hi => (k i hi).mono hM⟩⟩

set_option maxHeartbeats 4000000 in
theorem ax_walk_c (p : List Ev) (hpl : p.length < 1000000) {l yb pb wb : Nat} {ea : Option Addr} {ec : Nat} {L : List (List Int)} {I : List (List Int) → PHeap → Own → Prop} {S : PHeap → Own → Prop} {M0 : PHeap}
  (hmono : ∀ xs M2 M3 G2, M2.le M3 → I xs M2 G2 → I xs M3 G2)
  (hy : ∀ xs x, x ∈ L → ∀ M2 G2 v, M0.le M2 → I xs M2 G2 → SlC M2 1 ei v x → YCon Tryz.prog l #[v] M2 G2 fun b M3 G3 => (b = .bool true ∧ I (xs ++ [x]) M3 G3) ∨ (b = .bool false ∧ S M3 G3)) :
  ∀ (n : Nat) (left out : List Int) (xs : List (List Int)) (M : PHeap) (G : Own) (ov lv : Value), left.length = n → out.length + n < 1000000 → M0.le M → WalkB p M l yb pb wb ea ec → InEv p left → SlC M 1 ei ov out → SlC M 1 ei lv left →
   (∀ m ∈ mergesN p n left, out ++ m ∈ L) → I xs M G →
   Con Tryz.prog 116 #[ov, lv, pv yb 0, pv pb 0, pv wb 0] M G fun v M' G' => (v = .bool true ∧ I (xs ++ (mergesN p n left).map (out ++ ·)) M' G') ∨ (v = .bool false ∧ S M' G') := by
 intro n
 induction n with
 | zero =>
  intro left out xs M G ov lv hn hol hM hw hin hov hlv hL hI
  have hov0 := hov
  obtain ⟨oa, oc, rfl, hoc, hor⟩ := hov
  obtain ⟨la, lc, rfl, hlc, hlr⟩ := hlv
  have hwy := hw.hy
  refine Con.enter Q32_ok (args := [.slice oa out.length oc, .slice la left.length lc, pv yb 0, pv pb 0, pv wb 0]) (by simp [Q32]) fun w0 => ?_
  simp only [Q32, argE]
  repeat' first
    | refine EV.seq ?_
    | (refine EV.reg ?_; (conv => (arg 2; whnf)); simp only [wpS, wpA, wpQL, push_cast, Int.cast_ofNat_Int, reduceIte, Nat.reduceEqDiff, reduceCtorEq, Nat.reduceAdd, Nat.reduceSub, Nat.reduceMul, Int.reduceToNat, Nat.reduceLeDiff, hn])
    | (refine EV.condX rfl (fun h => ?_) (fun h => ?_) <;> try exact dead h)
    | fail
  refine EV.any (t := Q32_2) [] (List.nil_sublist _) ?_
  simp only [wpS, wpA, wpQL, push_cast, Int.cast_ofNat_Int, reduceIte, Nat.reduceEqDiff, reduceCtorEq, Nat.reduceAdd, Nat.reduceSub, Nat.reduceMul, Int.reduceToNat, Nat.reduceLeDiff, Q32_2]
  refine ⟨_, hwy.mono (PHeap.le_add _ _), ?_⟩
  refine Con.callS (G1 := []) (sl_Clone_c out _ hov0.sl (by omega)) ?_
  rintro v1 M1 G1 hM1 ⟨o1, rfl, ho1, rfl⟩
  simp only [wpS, wpA, wpQL, push_cast, Int.cast_ofNat_Int, reduceIte, Nat.reduceEqDiff, reduceCtorEq, Nat.reduceAdd, Nat.reduceSub, Nat.reduceMul, Int.reduceToNat, Nat.reduceLeDiff]
  refine ⟨hM1, fun q hq => absurd hq List.not_mem_nil, ?_⟩
  refine YieldW.keep G ?_
  have hmem : out ∈ L := by have := hL [] (by simp [mergesN]); simpa using this
  have hsl : SlC (M1.add (osg 3 o1 (out.map vi))) 1 ei (osv o1 out.length) out := by
   refine ⟨oad o1, ocap o1, rfl, ?_, ?_⟩
   ·cases o1 with
    | none => exact Nat.le_of_eq ho1.1
    | some q => exact ho1.2.2.1
   ·rw [flatMap_ei]; exact rd_osg ho1 (fun q hq => by simpa using hq)
  refine YCon.run (hy xs out hmem _ G _ (PHeap.le_trans hM (PHeap.le_trans hM1 (PHeap.le_add _ _))) (hmono _ _ _ _ (PHeap.le_trans hM1 (PHeap.le_add _ _)) hI) (by simpa using hsl)) ?_
  rintro b M2 G2 hM2 hb
  refine EV.ret Q32_ok ?_
  simp only [wpS, wpA, wpQL, push_cast, Int.cast_ofNat_Int, reduceIte, Nat.reduceEqDiff, reduceCtorEq, Nat.reduceAdd, Nat.reduceSub, Nat.reduceMul, Int.reduceToNat, Nat.reduceLeDiff, Q32]
  simpa [mergesN] using hb
 | succ n ihn =>
  intro left out xs M G ov lv hn hol hM hw hin hov hlv hL hI
  have hov0 := hov
  have hlv0 := hlv
  obtain ⟨oa, oc, rfl, hoc, hor⟩ := hov
  obtain ⟨la, lc, rfl, hlc, hlr⟩ := hlv
  obtain ⟨wb1, wo1, rfl, hatl⟩ := Sl.at (sz := 1) (enc := ei) (fun _ => rfl) (by decide) hlr (by omega)
  have hatl := rd_num hatl
  refine Con.enter Q32_ok (args := [.slice oa out.length oc, .slice (some ⟨wb1, wo1, none⟩) left.length lc, pv yb 0, pv pb 0, pv wb 0]) (by simp [Q32]) fun w0 => ?_
  simp only [Q32, argE]
  have hne : decide ((left.length : Int) = 0) = false := decide_eq_false (by omega)
  repeat' first
    | refine EV.seq ?_
    | refine EV.skip ?_
    | refine EV.block ?_
    | (refine EV.reg ?_; (conv => (arg 2; whnf)); simp only [wpS, wpA, wpQL, push_cast, Int.cast_ofNat_Int, reduceIte, Nat.reduceEqDiff, reduceCtorEq, Nat.reduceAdd, Nat.reduceSub, Nat.reduceMul, Int.reduceToNat, Nat.reduceLeDiff, hne])
    | (refine EV.condX rfl (fun h => ?_) (fun h => ?_) <;> try exact dead h)
    | fail
  refine EV.loopTo (fun x : Nat × PHeap × Own => ([(0, .slice oa out.length oc), (1, .slice (some ⟨wb1, wo1, none⟩) left.length lc), (2, pv yb 0), (3, pv pb 0), (4, pv wb 0), (18, .slice (some ⟨wb1, wo1, none⟩) left.length lc), (19, vi left.length), (20, vi x.1)], x.2.1, x.2.2))
   (fun x => x.1 ≤ left.length ∧ M.le x.2.1 ∧ I (xs ++ ((List.range x.1).flatMap fun i => if blockedAt p left i then [] else (mergesN p n (left.eraseIdx i)).map (numAt left i :: ·)).map (out ++ ·)) x.2.1 x.2.2) (fun x => left.length - x.1) (0, M, G) rfl ⟨Nat.zero_le _, PHeap.le_refl _, by simpa using hI⟩ ?env1 (List.Sublist.refl _) ?_
  case env1 =>
   repeat' first
    | (refine List.forall_mem_cons.2 (And.intro ?_ ?_))
    | (intro _ hnil; cases hnil; done)
    | rfl
    | fail
  rintro ⟨i, Mi, Gi⟩ ⟨hi, hMi, hIi⟩ ih
  dsimp only at hi hMi hIi ih ⊢
  repeat' first
    | refine EV.seq ?_
    | refine EV.skip ?_
    | refine EV.block ?_
    | (refine EV.reg ?_; (conv => (arg 2; whnf)); (refine nx ?_; try with_reducible exact ⟨⟩))
    | (refine EV.condX rfl (fun h => ?_) (fun h => ?_) <;> try exact dead h)
    | (refine EV.exit rfl ?_)
    | (refine And.intro (by omega) ?_)
    | fail
  ·have hi' : i < left.length := by omega
   have hli := (hatl i hi').mono hMi
   repeat' first
     | ((first | with_reducible intro b | refine Exists.intro _ (And.intro (rd_M (by assumption)) ?_) | fail); try (refine nx ?_; try with_reducible exact ⟨⟩))
     | (refine xw ?_; (refine nx ?_; try with_reducible exact ⟨⟩))
     | fail
   rename Nat => xb
   refine EV.keep Gi ?_
   generalize hN : Mi.add _ = N
   have hMN : Mi.le N := hN ▸ PHeap.le_add _ _
   have hrx : rd N xb 0 1 [vi (numAt left i)] := hN ▸ rd_at (T := 3) (cs := [vi (numAt left i)]) (by simp) rfl (by simp)
   have hIN := hmono _ _ _ _ hMN hIi
   have hwN := (hw.mono hMi).mono hMN
   clear hN
   have hMN0 := PHeap.le_trans hMi hMN
   refine EV.seq ?_
   repeat' first
     | (refine EV.reg ?_; (conv => (arg 2; whnf)); (refine nx ?_; try with_reducible exact ⟨⟩))
     | fail
   simp only [Option.map_some, onv_some]
   refine ⟨i, rfl, by omega, Or.inl rfl, ?_⟩
   rw [sl_to]
   have hlN := (hlr.mono hMN0)
   have hpre : Sl N 1 ei (.slice (some ⟨wb1, wo1, none⟩) i lc) (left.take i) := by
    refine ⟨some ⟨wb1, wo1, none⟩, lc, by rw [List.length_take, Nat.min_eq_left (by omega)], ?_⟩
    rw [List.length_take, Nat.min_eq_left (by omega), flatMap_ei, List.map_take]
    rw [flatMap_ei] at hlN
    exact hlN.pre (by omega)
   have hiin := numAt_in hin hi'
   refine ConQ.call (sl_ContainsFunc_q (left.take i) _ (hpre.mono (PHeap.le_add _ _)) (by simp; omega) _ _ (fun x => decide (thI p x = thI p (numAt left i))) ?_) ?_
   ·intro M' hM' x hx
    have hle := PHeap.le_trans (PHeap.le_add N Gi) hM'
    obtain ⟨eb, eo, e0, hat0⟩ := (hwN.mono hle).hat (by omega)
    have := ax_merges_S3_q p (e0 ▸ (hwN.mono hle).hp) (hrx.mono hle) hat0 x (hin x (List.mem_of_mem_take hx)) hiin
    simpa using this
   rw [show (left.take i).any (fun x => decide (thI p x = thI p (numAt left i))) = blockedAt p left i from rfl]
   generalize hbl : blockedAt p left i = bl
   refine EV.seq ?_
   cases bl with
   | true =>
    refine EV.any (t := Q32_7) [] (List.nil_sublist _) ?_
    simp only [norm_cons, norm_nil, get_cons, get_nil, reduceIte, Nat.reduceEqDiff]
    repeat' first
      | ((refine wQ_g (by first | with_reducible assumption | rfl) rfl ?_ (fun lq hlq hc => ?_) (fun lq hlq => ?_); rotate_left) <;> (try (exfalso; simp at hc; done)) <;> try simp only [push_cast, Int.cast_ofNat_Int, reduceIte, Nat.reduceEqDiff, reduceCtorEq, Nat.reduceAdd, Nat.reduceSub, Nat.reduceMul, Int.reduceToNat, Nat.reduceLeDiff, Bool.not_true])
      | ((first | refine wQ_op (by first | with_reducible assumption | rfl) (fun lq hlq => ?_) | refine wQ_nil (by first | with_reducible assumption | rfl) ?_ | fail); try simp only [push_cast, Int.cast_ofNat_Int, reduceIte, Nat.reduceEqDiff, reduceCtorEq, Nat.reduceAdd, Nat.reduceSub, Nat.reduceMul, Int.reduceToNat, Nat.reduceLeDiff, Bool.not_true])
      | refine wA_q (by first | with_reducible assumption | rfl) (fun lq tq hlq htq => ?_)
      | refine wA_fin (by first | with_reducible assumption | rfl) ?_
      | refine wA_sk (by first | with_reducible assumption | rfl) (fun tq htq => ?_)
      | ((refine wA_br (by first | with_reducible assumption | rfl) rfl (fun tq htq h => ?_) (fun tq htq h => ?_)) <;> try (exfalso; simp at h; done))
      | exact false
      | fail
    have ih3 := ih (i + 1, N, Gi) ⟨by dsimp only; omega, hMN0, ?_⟩ (by dsimp only; omega)
    ·dsimp only at ih3
     repeat' first
       | refine EV.skip ?_
       | refine EV.inBlock ?_
       | (refine EV.reg ?_; (conv => (arg 2; whnf)); simp only [wpS, wpA, wpQL, push_cast, Int.cast_ofNat_Int, reduceIte, Nat.reduceEqDiff, reduceCtorEq, Nat.reduceAdd, Nat.reduceSub, Nat.reduceMul, Int.reduceToNat, Nat.reduceLeDiff, Bool.false_and])
       | (refine EV.condX rfl (fun h => ?_) (fun h => ?_) <;> try exact dead h)
       | fail
     refine EV.toS ih3 ?_
     repeat' first
      | (refine List.forall_mem_cons.2 (And.intro ?_ ?_))
      | (intro _ hnil; cases hnil; done)
      | rfl
      | (refine env_w64 rfl (by first | rfl | (push_cast; first | rfl | omega)) (by omega) (by omega); done)
      | fail
    ·rw [List.range_succ, List.flatMap_append, List.flatMap_singleton, if_pos hbl, List.append_nil]
     exact hIN
   | false =>
    refine EV.any (t := Q32_7) [] (List.nil_sublist _) ?_
    simp only [norm_cons, norm_nil, get_cons, get_nil, reduceIte, Nat.reduceEqDiff]
    repeat' first
      | ((first | refine wQ_op (by first | with_reducible assumption | rfl) (fun lq hlq => ?_) | refine wQ_nil (by first | with_reducible assumption | rfl) ?_ | fail); try simp only [push_cast, Int.cast_ofNat_Int, reduceIte, Nat.reduceEqDiff, reduceCtorEq, Nat.reduceAdd, Nat.reduceSub, Nat.reduceMul, Int.reduceToNat, Nat.reduceLeDiff, Bool.not_false])
      | refine wA_q (by first | with_reducible assumption | rfl) (fun lq tq hlq htq => ?_)
      | ((first | refine Exists.intro _ (And.intro (rd_M hwN.hw) ?_) | refine Exists.intro _ (And.intro (sl_Clip_q oa out.length oc hoc) ?_) | fail); try simp only [push_cast, Int.cast_ofNat_Int, reduceIte, Nat.reduceEqDiff, reduceCtorEq, Nat.reduceAdd, Nat.reduceSub, Nat.reduceMul, Int.reduceToNat, Nat.reduceLeDiff, Bool.not_false])
      | ((refine wA_br (by first | with_reducible assumption | rfl) rfl (fun tq htq h => ?_) (fun tq htq h => ?_)) <;> try (exfalso; simp at h; done))
      | (refine Exists.intro _ (And.intro (rd_M (by assumption)) ?_); try simp only [push_cast, Int.cast_ofNat_Int, reduceIte, Nat.reduceEqDiff, reduceCtorEq, Nat.reduceAdd, Nat.reduceSub, Nat.reduceMul, Int.reduceToNat, Nat.reduceLeDiff, Bool.not_false])
      | fail
    simp only [Option.map_some, onv_some]
    refine ⟨i, rfl, by omega, Or.inl rfl, ?_⟩
    repeat' first
      | ((first | refine wQ_op (by first | with_reducible assumption | rfl) (fun lq hlq => ?_) | refine wQ_nil (by first | with_reducible assumption | rfl) ?_ | fail); try (refine nz ?_; try with_reducible exact ⟨⟩))
      | refine wA_q (by first | with_reducible assumption | rfl) (fun lq tq hlq htq => ?_)
      | fail
    simp only [Option.map_some, onv_some]
    have hw1 : IntKind.i64.wrap ((i : Int) + 1) = ((i + 1 : Nat) : Int) := w64 (by omega) (by omega)
    refine ⟨i + 1, by rw [hw1], by omega, hlc, Or.inr rfl, ?_⟩
    obtain ⟨ro, hro', ero⟩ := sl_from (wb := wb1) (wo := wo1) (n := left.length) (c := lc) (i := i + 1) hlc
    rw [sl_to, ero]
    have horN : rdS N 1 oa out.length (out.map vi) := by
     have := hor.mono hMN0
     rwa [flatMap_ei] at this
    have hsuf : rdS N 1 (some ⟨wb1, ro, none⟩) (left.length - (i + 1)) ((left.drop (i + 1)).map vi) := by
     by_cases hlt : i + 1 < left.length
     ·rw [hro' hlt]
      rcases hlN with ⟨h0, _⟩ | ⟨b', o', e', hr'⟩
      ·omega
      ·cases e'
       refine Or.inr ⟨wb1, wo1 + (i + 1), rfl, ?_⟩
       rw [flatMap_ei, Nat.mul_one] at hr'
       rw [Nat.mul_one, List.map_drop]
       exact hr'.suf (by omega)
     ·refine Or.inl ⟨by omega, ?_⟩
      rw [List.drop_eq_nil_of_le (by omega)]; rfl
    repeat' first
      | (refine wQ_nil (by first | with_reducible assumption | rfl) ?_; try (refine nz ?_; try with_reducible exact ⟨⟩))
      | refine wA_q (by first | with_reducible assumption | rfl) (fun lq tq hlq htq => ?_)
      | (refine wA_s (by first | with_reducible assumption | rfl) (fun tq htq => ?_) (fun tq htq => ?_) <;> try (refine nz ?_; try with_reducible exact ⟨⟩))
      | exact wA_no (by first | with_reducible assumption | rfl)
      | ((first | with_reducible intro b | refine And.intro (PHeap.le_refl _) (And.intro (mem_of_sub ?_) ?_); focus ((repeat' first | exact List.Sublist.refl _ | exact List.nil_sublist _ | exact List.sublist_append_left _ _ | refine List.Sublist.cons_cons _ ?_ | refine List.Sublist.append_left ?_ _ | refine List.sublist_append_of_sublist_right ?_ | refine List.Sublist.cons _ ?_); done) | fail); try (refine nz ?_; try with_reducible exact ⟨⟩))
      | fail
    all_goals
     refine ⟨[vi (numAt left i)], Or.inr ⟨_, 0, rfl, rd_at (T := 3) (cs := [vi (numAt left i)]) (by simp) rfl (by simp)⟩, by simp [ok1_cons, ok1_nil, Value.oneCell'], Or.inr ⟨oa, out.length, out.length, rfl, out.map vi, rdS_M horN, by omega, by omega, by simp only [maxLen]; omega, by omega, fun b1 cap sp hok => ?_⟩⟩
     repeat' first
       | (refine wQ_nil (by first | with_reducible assumption | rfl) ?_; try (refine nz ?_; try with_reducible exact ⟨⟩))
       | refine wA_q (by first | with_reducible assumption | rfl) (fun lq tq hlq htq => ?_)
       | (refine wA_s (by first | with_reducible assumption | rfl) (fun tq htq => ?_) (fun tq htq => ?_) <;> try (refine nz ?_; try with_reducible exact ⟨⟩))
       | exact wA_no (by first | with_reducible assumption | rfl)
       | ((first | with_reducible intro b | refine And.intro (PHeap.le_refl _) (And.intro (mem_of_sub ?_) ?_); focus ((repeat' first | exact List.Sublist.refl _ | exact List.nil_sublist _ | exact List.sublist_append_left _ _ | refine List.Sublist.cons_cons _ ?_ | refine List.Sublist.append_left ?_ _ | refine List.sublist_append_of_sublist_right ?_ | refine List.Sublist.cons _ ?_); done) | fail); try (refine nz ?_; try with_reducible exact ⟨⟩))
       | fail
     refine Con.callB (G1 := []) (sl_Concat_c [left.take i, left.drop (i + 1)] _ ⟨_, _, [.slice (some ⟨wb1, wo1, none⟩) i lc, .slice (some ⟨wb1, ro, none⟩) (left.length - (i + 1)) (lc - (i + 1))], rfl, rfl, Or.inr ⟨_, 0, rfl, rd_at (T := 34) (cs := [.slice (some ⟨wb1, wo1, none⟩) i lc, .slice (some ⟨wb1, ro, none⟩) (left.length - (i + 1)) (lc - (i + 1))]) (by simp) rfl (by simp)⟩, ?_⟩ ?_ (by simp)) (PHeap.le_refl _) (List.Perm.refl _) ?_
     ·intro k hk1 hk2
      match k, hk2 with
      | 0, _ => exact hpre.mono (PHeap.le_add _ _)
      | 1, _ => exact ⟨some ⟨wb1, ro, none⟩, lc - (i + 1), by simp, by rw [flatMap_ei, show ([left.take i, left.drop (i + 1)] : List (List Int))[1].length = left.length - (i + 1) from by simp]; exact rdS_M hsuf⟩
     ·simp only [List.flatten_cons, List.flatten_nil, List.append_nil, List.length_append, List.length_take, List.length_drop]; omega
     rintro v2 M2 G2 ⟨o2, rfl, ho2, rfl⟩
     have hfl2 : [left.take i, left.drop (i + 1)].flatten = left.eraseIdx i := by simp [List.eraseIdx_eq_take_drop_succ]
     rw [hfl2] at ho2 ⊢
     refine ⟨PHeap.le_refl _, fun q hq => absurd hq List.not_mem_nil, ?_⟩
     repeat' first
       | (refine wQ_nil (by first | with_reducible assumption | rfl) ?_; try (refine nz ?_; try with_reducible exact ⟨⟩))
       | refine wA_q (by first | with_reducible assumption | rfl) (fun lq tq hlq htq => ?_)
       | (refine wA_sT (by first | with_reducible assumption | rfl) (fun tq htq => ?_) (fun tq htq => ?_) <;> try (refine nz ?_; try with_reducible exact ⟨⟩))
       | exact wA_no (by first | with_reducible assumption | rfl)
       | fail
     refine CallW.keep Gi ?_
     generalize hR : N.add _ = N2
     have hNN2 : N.le N2 := hR ▸ PHeap.le_add _ _
     have hso : SlC N2 1 ei (osv (some (b1, cap, sp)) (out.length + 1)) (out ++ [numAt left i]) := hR ▸ SlC_osv (T := 3) (by simpa using hok) (by simp) (by simp [osg])
     have hsl : SlC N2 1 ei (osv o2 (left.eraseIdx i).length) (left.eraseIdx i) := hR ▸ SlC_osv (T := 3) ho2 rfl (fun q hq => by simp [hq])
     clear hR
     refine Con.run (ihn (left.eraseIdx i) (out ++ [numAt left i]) (xs ++ ((List.range i).flatMap fun i => if blockedAt p left i then [] else (mergesN p n (left.eraseIdx i)).map (numAt left i :: ·)).map (out ++ ·)) N2 Gi _ _ (by rw [List.length_eraseIdx_of_lt hi']; omega) (by simp; omega) (PHeap.le_trans hM (PHeap.le_trans hMN0 hNN2)) (hwN.mono hNN2) (fun y hy2 => hin y (List.mem_of_mem_eraseIdx hy2)) hso hsl ?_ (hmono _ _ _ _ hNN2 hIN)) ?_
     ·intro m hm
      rw [List.append_assoc]
      refine hL _ ?_
      simp only [mergesN, List.mem_flatMap, List.mem_range]
      exact ⟨i, by omega, by rw [if_neg (by rw [hbl]; simp)]; exact List.mem_map.2 ⟨m, hm, rfl⟩⟩
     rintro v3 M3 G3 hM3 (⟨rfl, hI3⟩ | ⟨rfl, hS3⟩)
     ·repeat' first
       | ((refine wQ_g (by first | with_reducible assumption | rfl) rfl ?_ (fun lq hlq hc => ?_) (fun lq hlq => ?_); rotate_left) <;> (try (exfalso; simp at hc; done)) <;> try simp only [push_cast, Int.cast_ofNat_Int, reduceIte, Nat.reduceEqDiff, reduceCtorEq, Nat.reduceAdd, Nat.reduceSub, Nat.reduceMul, Int.reduceToNat, Nat.reduceLeDiff, Bool.not_true])
       | ((first | refine wQ_op (by first | with_reducible assumption | rfl) (fun lq hlq => ?_) | refine wQ_nil (by first | with_reducible assumption | rfl) ?_ | fail); try simp only [push_cast, Int.cast_ofNat_Int, reduceIte, Nat.reduceEqDiff, reduceCtorEq, Nat.reduceAdd, Nat.reduceSub, Nat.reduceMul, Int.reduceToNat, Nat.reduceLeDiff, Bool.not_true])
       | refine wA_q (by first | with_reducible assumption | rfl) (fun lq tq hlq htq => ?_)
       | refine wA_fin (by first | with_reducible assumption | rfl) ?_
       | with_reducible rfl
       | fail
      repeat' first
        | refine EV.skip ?_
        | refine EV.inBlock ?_
        | (refine EV.reg ?_; (conv => (arg 2; whnf)); simp only [wpS, wpA, wpQL, push_cast, Int.cast_ofNat_Int, reduceIte, Nat.reduceEqDiff, reduceCtorEq, Nat.reduceAdd, Nat.reduceSub, Nat.reduceMul, Int.reduceToNat, Nat.reduceLeDiff, Bool.true_and, Bool.and_false])
        | (refine EV.condX rfl (fun h => ?_) (fun h => ?_) <;> try exact dead h)
        | fail
      have ih3 := ih (i + 1, M3, G3) ⟨by dsimp only; omega, PHeap.le_trans hMN0 (PHeap.le_trans hNN2 hM3), by
       dsimp only
       rw [List.range_succ, List.flatMap_append, List.flatMap_singleton, if_neg (by rw [hbl]; simp), List.map_append, ← List.append_assoc, List.map_map]
       have e : (mergesN p n (left.eraseIdx i)).map ((out ++ ·) ∘ (numAt left i :: ·)) = (mergesN p n (left.eraseIdx i)).map ((out ++ [numAt left i]) ++ ·) := by
        apply List.map_congr_left; intro y _; simp
       rw [e]; exact hI3⟩ (by dsimp only; omega)
      dsimp only at ih3
      refine EV.toS ih3 ?_
      repeat' first
       | (refine List.forall_mem_cons.2 (And.intro ?_ ?_))
       | (intro _ hnil; cases hnil; done)
       | rfl
       | (refine env_w64 rfl (by first | rfl | (push_cast; first | rfl | omega)) (by omega) (by omega); done)
       | fail
     ·repeat' first
       | ((refine wQ_g (by first | with_reducible assumption | rfl) rfl ?_ (fun lq hlq hc => ?_) (fun lq hlq => ?_); rotate_left) <;> (try (exfalso; simp at hc; done)) <;> try simp only [push_cast, Int.cast_ofNat_Int, reduceIte, Nat.reduceEqDiff, reduceCtorEq, Nat.reduceAdd, Nat.reduceSub, Nat.reduceMul, Int.reduceToNat, Nat.reduceLeDiff, Bool.not_false])
       | ((first | refine wQ_op (by first | with_reducible assumption | rfl) (fun lq hlq => ?_) | refine wQ_nil (by first | with_reducible assumption | rfl) ?_ | fail); try simp only [push_cast, Int.cast_ofNat_Int, reduceIte, Nat.reduceEqDiff, reduceCtorEq, Nat.reduceAdd, Nat.reduceSub, Nat.reduceMul, Int.reduceToNat, Nat.reduceLeDiff, Bool.not_false])
       | refine wA_q (by first | with_reducible assumption | rfl) (fun lq tq hlq htq => ?_)
       | refine wA_fin (by first | with_reducible assumption | rfl) ?_
       | with_reducible rfl
       | fail
      repeat' first
        | refine EV.seq ?_
        | (refine EV.reg ?_; (conv => (arg 2; whnf)); simp only [wpS, wpA, wpQL, push_cast, Int.cast_ofNat_Int, reduceIte, Nat.reduceEqDiff, reduceCtorEq, Nat.reduceAdd, Nat.reduceSub, Nat.reduceMul, Int.reduceToNat, Nat.reduceLeDiff, Bool.true_and])
        | (refine EV.condX rfl (fun h => ?_) (fun h => ?_) <;> try exact dead h)
        | fail
      refine EV.ret Q32_ok ?_
      simp only [wpS, wpA, wpQL, push_cast, Int.cast_ofNat_Int, reduceIte, Nat.reduceEqDiff, reduceCtorEq, Nat.reduceAdd, Nat.reduceSub, Nat.reduceMul, Int.reduceToNat, Nat.reduceLeDiff, Q32]
      exact Or.inr hS3
  ·have hie : i = left.length := by omega
   subst hie
   refine EV.ret Q32_ok ?_
   simp only [wpS, wpA, wpQL, push_cast, Int.cast_ofNat_Int, reduceIte, Nat.reduceEqDiff, reduceCtorEq, Nat.reduceAdd, Nat.reduceSub, Nat.reduceMul, Int.reduceToNat, Nat.reduceLeDiff, Q32]
   left
   rw [hn] at hIi
   exact hIi

/-- A row of numbers, as an iterator hands it over. -/
def ElI (x : List Int) (v : Value) (M : PHeap) : Prop := SlC M 1 ei v x

theorem ax_merges_it (p : List Ev) (hpl : p.length < 1000000) {ps ls : Value} {l : List Int} {pb lb : Nat} (hps : Sl M 6 encEv ps p) (hls : SlC M 1 ei ls l) (hin : InEv p l) (hll : l.length < 1000000)
  (h1 : rd M pb 0 1 [ps]) (h2 : rd M lb 0 1 [ls]) : Iter Tryz.prog 115 #[] #[pv pb 0, pv lb 0] M (mergesP p l) ElI := by
 intro ly I S M1 G hM hmono hy xs hI
 have h1' := h1.mono hM
 have h2' := h2.mono hM
 have hls' := hls.mono hM
 obtain ⟨ea, ec, rfl, hpr⟩ := hps
 refine Con.enter Q31_ok (args := [yv ly, pv pb 0, pv lb 0]) (by simp [Q31]) fun w0 => ?_
 simp only [Q31, argE]
 refine EV.seq (EV.reg ?_)
 simp only [wpS, wpA, wpQL, push_cast, Int.cast_ofNat_Int, reduceIte, Nat.reduceEqDiff, reduceCtorEq, Nat.reduceAdd, Nat.reduceSub, Nat.reduceMul, Int.reduceToNat, Nat.reduceLeDiff, Q31_0]
 intro yb
 refine EV.seq (EV.reg ?_)
 simp only [wpS, wpA, wpQL, push_cast, Int.cast_ofNat_Int, reduceIte, Nat.reduceEqDiff, reduceCtorEq, Nat.reduceAdd, Nat.reduceSub, Nat.reduceMul, Int.reduceToNat, Nat.reduceLeDiff, Q31_1]
 intro wb
 refine EV.seq ?_
 repeat' first
   | (refine EV.reg ?_; (conv => (arg 2; whnf)); (refine nx ?_; try with_reducible exact ⟨⟩))
   | (refine xiA rfl ?_; try (refine nx ?_; try with_reducible exact ⟨⟩))
   | (refine xw ?_; (refine nx ?_; try with_reducible exact ⟨⟩))
   | fail
 obtain ⟨la, lc, rfl, hlc, hlr⟩ := hls'
 refine ⟨_, _, _, rd_M h2', ?_⟩
 refine CallW.keep G ?_
 generalize hR : M1.add _ = N
 have hMN : M1.le N := hR ▸ PHeap.le_add _ _
 have hw : WalkB p N ly yb pb wb ea ec := by
  refine ⟨hR ▸ rd_at (T := 151) (cs := [yv ly]) (by simp) rfl (by simp), h1'.mono hMN, hR ▸ rd_at (T := 50) (cs := [.func (.func 116) #[] #[pv yb 0, pv pb 0, pv wb 0]]) (by simp) rfl (by simp), fun h0 => ?_⟩
  obtain ⟨eb, eo, e, hat⟩ := Sl.at (enc := encEv) (fun _ => rfl) (by decide) hpr h0
  exact ⟨eb, eo, e, fun i hi => (Sl.evAt hat i hi).mono (PHeap.le_trans hM hMN)⟩
 clear hR
 refine Con.run (ax_walk_c p hpl (L := mergesP p l) hmono (fun xs x hx M2 G2 v h3 h4 h5 => hy xs x hx M2 G2 v (PHeap.le_trans hMN h3) h4 h5) l.length l [] xs N G _ _ rfl (by simp; omega) (PHeap.le_refl _) hw hin ⟨none, 0, rfl, Nat.le_refl _, .inl ⟨rfl, rfl⟩⟩ ⟨la, lc, rfl, hlc, hlr.mono hMN⟩ (fun m hm => by simpa [mergesP] using hm) (hmono _ _ _ _ hMN hI)) ?_
 intro v M' G' hM' hv
 refine EV.done Q31_ok ?_
 simp only [wpS, wpA, wpQL, push_cast, Int.cast_ofNat_Int, reduceIte, Nat.reduceEqDiff, reduceCtorEq, Nat.reduceAdd, Nat.reduceSub, Nat.reduceMul, Int.reduceToNat, Nat.reduceLeDiff, Q31]
 rcases hv with ⟨rfl, hv⟩ | ⟨rfl, hv⟩
 ·left; simpa [mergesP] using hv
 ·right; exact hv

/-- What hands back an iterator. -/
def Its {α : Type} (L : List α) (El : α → Value → PHeap → Prop) (v : Value) (M : PHeap) (_ : Own) : Prop := ∃ g caps, v = .func (.func g) #[] caps ∧ Iter Tryz.prog g #[] caps M L El

theorem ax_merges_c (p : List Ev) (hpl : p.length < 1000000) {ps ls : Value} {l : List Int} (hps : Sl M 6 encEv ps p) (hls : SlC M 1 ei ls l) (hin : InEv p l) (hll : l.length < 1000000) :
  Con Tryz.prog 82 #[ps, ls] M [] (Its (mergesP p l) ElI) := by
 refine Con.enter Q30_ok (args := [ps, ls]) (by simp [Q30]) fun w0 => ?_
 simp only [Q30, argE]
 have hps0 := hps
 have hls0 := hls
 obtain ⟨ea, ec, rfl, hpr⟩ := hps
 obtain ⟨la, lc, rfl, hlc, hlr⟩ := hls
 repeat' first
   | refine EV.seq ?_
   | (refine EV.reg ?_; (conv => (arg 2; whnf)); (refine nx ?_; try with_reducible exact ⟨⟩))
   | (with_reducible intro b; try (refine nx ?_; try with_reducible exact ⟨⟩))
   | fail
 refine EV.keep [] ?_
 generalize hR : M.add _ = N
 have hMN : M.le N := hR ▸ PHeap.le_add _ _
 refine EV.ret Q30_ok ?_
 simp only [wpS, wpA, wpQL, push_cast, Int.cast_ofNat_Int, reduceIte, Nat.reduceEqDiff, reduceCtorEq, Nat.reduceAdd, Nat.reduceSub, Nat.reduceMul, Int.reduceToNat, Nat.reduceLeDiff, Q30]
 refine ⟨_, _, rfl, ax_merges_it p hpl (hps0.mono hMN) (hls0.mono hMN) hin hll ?_ ?_⟩
 ·exact hR ▸ rd_at (T := 74) (cs := [.slice ea p.length ec]) (by simp) rfl (by simp)
 ·exact hR ▸ rd_at (T := 34) (cs := [.slice la l.length lc]) (by simp) rfl (by simp)

end
end Go.EV

namespace Go.EV
open Go.Proofs

def freeP (p : List Ev) : List Int := pickI p.length fun i => decide ((evAt p i).op.kind = 3) || decide ((evAt p i).op.kind = 4)
def doneB (p : List Ev) : Nat → List Bool
 | 0 => List.replicate p.length false
 | i + 1 => (doneB p i).set i (decide ((evAt p i).op.kind = 1) || decide ((evAt p i).op.kind = 2))
def doneK (p : List Ev) (set : Nat) : Nat → List Bool
 | 0 => doneB p p.length
 | k + 1 => (doneK p set k).set (numAt (freeP p) k).toNat (set.testBit k)
def doneOf (p : List Ev) (set : Nat) : List Bool := doneK p set (freeP p).length
def donesP (p : List Ev) : List (List Bool) := (List.range (2 ^ (freeP p).length)).map (doneOf p)

theorem doneB_len (p : List Ev) : ∀ i, (doneB p i).length = p.length
 | 0 => by simp [doneB]
 | i + 1 => by simp [doneB, doneB_len p i]
theorem doneK_len (p : List Ev) (set : Nat) : ∀ k, (doneK p set k).length = p.length
 | 0 => doneB_len p _
 | k + 1 => by simp [doneK, doneK_len p set k]
theorem doneOf_len (p : List Ev) (set : Nat) : (doneOf p set).length = p.length := doneK_len p set _

theorem i64_of {x : Nat} : BitVec.ofInt IntKind.i64.bits (x : Int) = (BitVec.ofNat 64 x : BitVec IntKind.i64.bits) := BitVec.ofInt_natCast 64 x
theorem i64_bit {x b : Nat} (hx : x < 2 ^ 62) (hb : b < 64) : decide (IntKind.i64.wrap ((BitVec.ofInt IntKind.i64.bits ((x : Int).fdiv (2 ^ min b IntKind.i64.bits)) &&& BitVec.ofInt IntKind.i64.bits 1).toNat : Int) = 1) = x.testBit b := by
 have e0 : min b IntKind.i64.bits = b := Nat.min_eq_left (show b ≤ 64 by omega)
 rw [e0]
 have e1 : (x : Int).fdiv (2 ^ b) = ((x / 2 ^ b : Nat) : Int) := by
  rw [Int.fdiv_eq_ediv_of_nonneg _ (by exact_mod_cast Nat.zero_le _)]; simp
 have hd : x / 2 ^ b < 2 ^ 64 := Nat.lt_of_le_of_lt (Nat.div_le_self _ _) (Nat.lt_trans hx (by decide))
 rw [e1, i64_of]
 have e : (BitVec.ofNat 64 (x / 2 ^ b) &&& BitVec.ofInt 64 1).toNat = (x / 2 ^ b) % 2 := by
  rw [BitVec.toNat_and, BitVec.toNat_ofNat, Nat.mod_eq_of_lt hd]
  show (x / 2 ^ b) &&& 1 = _
  exact Nat.and_one_is_mod _
 show decide (IntKind.i64.wrap ((BitVec.ofNat 64 (x / 2 ^ b) &&& BitVec.ofInt 64 1).toNat : Int) = 1) = _
 rw [e, w64 (by omega) (by omega)]
 rw [Nat.testBit_eq_decide_div_mod_eq]
 simp only [decide_eq_decide]
 omega
theorem i64_shl {b : Nat} (hb : b < 62) : IntKind.i64.wrap (1 * 2 ^ min b IntKind.i64.bits) = ((2 ^ b : Nat) : Int) := by
 have e0 : min b IntKind.i64.bits = b := Nat.min_eq_left (show b ≤ 64 by omega)
 rw [e0, Int.one_mul]
 have h : 2 ^ b < 2 ^ 62 := Nat.pow_lt_pow_right (by decide) hb
 rw [show ((2 : Int) ^ b) = ((2 ^ b : Nat) : Int) from by simp]
 generalize 2 ^ b = y at *
 exact w64 (by omega) (by omega)

/-- A row of truth values, as an iterator hands it over. -/
def ElB (x : List Bool) (v : Value) (M : PHeap) : Prop := SlC M 1 eb v x

section
variable {M : PHeap}

theorem ax_dones_S2_q (p : List Ev) {pb po pc b1 : Nat} (h1 : rd M b1 0 1 [.slice (some ⟨pb, po, none⟩) p.length pc]) (i : Nat) (hi : i < p.length) (hp : rd M pb (po + i * 6) 6 (encEv (evAt p i))) :
  ConQ Tryz.prog 108 #[vi i, pv b1 0] M (vb (decide ((evAt p i).op.kind = 3) || decide ((evAt p i).op.kind = 4))) := by
 have hp0 := hp.pt 0 1 (by omega) rfl
 have hi' : (i : Int) < p.length := by omega
 refine Con.enter Q18_ok (args := [vi i, pv b1 0]) (by simp [Q18]) fun w0 => ?_
 simp only [Q18, argE]
 repeat' first
   | refine EV.seq ?_
   | (refine EV.reg ?_; (conv => (arg 2; whnf)); (refine nx ?_; try with_reducible exact ⟨⟩))
   | with_reducible assumption
   | (refine condW.merge ?_ (fun hc K' hK => ?_) ?_; rotate_left)
   | (refine EV.ret Q18_ok ?_; simp only [wpS, wpA, wpQL, push_cast, Int.cast_ofNat_Int, reduceIte, Nat.reduceEqDiff, reduceCtorEq, Nat.reduceAdd, Nat.reduceSub, Nat.reduceMul, Int.reduceToNat, Nat.reduceLeDiff, Q18])
   | (refine And.intro (by omega) ?_)
   | ((first | refine Exists.intro _ (And.intro (rd_M (by assumption)) ?_) | refine Exists.intro _ (Exists.intro _ (Exists.intro _ (And.intro (rd_M (by assumption)) ?_))) | fail); try (refine nx ?_; try with_reducible exact ⟨⟩))
   | fail
 all_goals simp_all

set_option maxHeartbeats 4000000 in
theorem ax_dones_it (p : List Ev) (hpl : p.length ≤ 32) {ps : Value} {pb : Nat} (hps : Sl M 6 encEv ps p) (h1 : rd M pb 0 1 [ps]) : Iter Tryz.prog 107 #[] #[pv pb 0] M (donesP p) ElB := by
 intro ly I S M1 G hM hmono hy xs hI
 have h1' := h1.mono hM
 have hps1 := hps.mono hM
 obtain ⟨ea, ec, rfl, hpr⟩ := hps1
 refine Con.enter Q17_ok (args := [yv ly, pv pb 0]) (by simp [Q17]) fun w0 => ?_
 simp only [Q17, argE]
 repeat' first
   | refine EV.seq ?_
   | (refine EV.reg ?_; (conv => (arg 2; whnf)); (refine nx ?_; try with_reducible exact ⟨⟩))
   | (refine Exists.intro _ (Exists.intro _ (Exists.intro _ (And.intro (rd_M (by assumption)) ?_))); try (refine nx ?_; try with_reducible exact ⟨⟩))
   | fail
 refine Con.callB (G1 := []) (ax_pick_c p _ ⟨ea, ec, rfl, hpr.mono (PHeap.le_add _ _)⟩ (by omega) _ _ (fun i => decide ((evAt p i).op.kind = 3) || decide ((evAt p i).op.kind = 4)) ?_) (PHeap.le_refl _) (List.Perm.refl _) ?_
 ·intro M' hM' i hi
  obtain ⟨eb1, eo, rfl, hat⟩ := Sl.at (enc := encEv) (fun _ => rfl) (by decide) hpr (by omega)
  have hle := PHeap.le_trans (PHeap.le_add M1 G) hM'
  exact ax_dones_S2_q p (h1'.mono hle) i hi ((Sl.evAt hat i hi).mono hle)
 rintro v M' G' ⟨of, rfl, hof, rfl⟩
 change osok 1 of (freeP p).length ((freeP p).map vi) at hof
 have hfi : InEv p (freeP p) := fun x hx => by
  obtain ⟨i, h1, _, rfl⟩ := mem_pickI.1 hx; omega
 have hfl : (freeP p).length ≤ p.length := pickI_len _ _
 rw [show pickI p.length (fun i => decide ((evAt p i).op.kind = 3) || decide ((evAt p i).op.kind = 4)) = freeP p from rfl]
 have hneg : ¬ (((freeP p).length : Int) < 0) := by omega
 have hshl := i64_shl (b := (freeP p).length) (by omega)
 have h2n : 2 ^ (freeP p).length ≤ 2 ^ 32 := Nat.pow_le_pow_right (by decide) (by omega)
 repeat' first
   | fail
 refine EV.keep G ?_
 generalize hR : M1.add _ = N
 have hMN : M1.le N := hR ▸ PHeap.le_add _ _
 have hrf : rdS N 1 (oad of) (freeP p).length ((freeP p).map vi) := hR ▸ rd_osg (T := 3) hof (fun q hq => by simpa using hq)
 have h1N := h1'.mono hMN
 have hIN := hmono _ _ _ _ hMN hI
 clear hR
 repeat' first
   | refine EV.seq ?_
   | refine EV.block ?_
   | (refine EV.reg ?_; (conv => (arg 2; whnf)); simp only [wpS, wpA, wpQL, push_cast, Int.cast_ofNat_Int, reduceIte, Nat.reduceEqDiff, reduceCtorEq, Nat.reduceAdd, Nat.reduceSub, Nat.reduceMul, Int.reduceToNat, Nat.reduceLeDiff, hneg, hshl])
   | fail
 have hcast : (2 : Int) ^ (freeP p).length = ((2 ^ (freeP p).length : Nat) : Int) := by simp
 generalize hn2 : 2 ^ (freeP p).length = n2 at *
 refine EV.loopTo (fun x : Nat × PHeap × Own => ([(0, yv ly), (1, pv pb 0), (3, osv of (freeP p).length), (15, vi n2), (16, vi x.1)], x.2.1, x.2.2))
  (fun x => x.1 ≤ n2 ∧ N.le x.2.1 ∧ I (xs ++ (List.range x.1).map (doneOf p)) x.2.1 x.2.2) (fun x => n2 - x.1) (0, N, G) rfl ⟨Nat.zero_le _, PHeap.le_refl _, by simpa using hIN⟩ ?env1 (List.Sublist.refl _) ?_
 case env1 =>
  simp only [hcast]
  repeat' first
   | (refine List.forall_mem_cons.2 (And.intro ?_ ?_))
   | (intro _ hnil; cases hnil; done)
   | rfl
   | fail
 rintro ⟨set, Mi, Gi⟩ ⟨hset, hMi, hIi⟩ ih
 dsimp only at hset hMi hIi ih ⊢
 repeat' first
   | refine EV.seq ?_
   | refine EV.skip ?_
   | refine EV.block ?_
   | (refine EV.reg ?_; (conv => (arg 2; whnf)); (refine nx ?_; try with_reducible exact ⟨⟩))
   | (refine EV.condX rfl (fun h => ?_) (fun h => ?_) <;> try exact dead h)
   | (refine EV.exit rfl ?_)
   | fail
 ·have h1i := h1N.mono hMi
  repeat' first
    | refine EV.seq ?_
    | refine EV.block ?_
    | (refine EV.reg ?_; (conv => (arg 2; whnf)); simp only [wpS, wpA, wpQL, push_cast, Int.cast_ofNat_Int, reduceIte, Nat.reduceEqDiff, reduceCtorEq, Nat.reduceAdd, Nat.reduceSub, Nat.reduceMul, Int.reduceToNat, Nat.reduceLeDiff, flatten_rep])
    | (with_reducible intro b; try simp only [wpS, wpA, wpQL, push_cast, Int.cast_ofNat_Int, reduceIte, Nat.reduceEqDiff, reduceCtorEq, Nat.reduceAdd, Nat.reduceSub, Nat.reduceMul, Int.reduceToNat, Nat.reduceLeDiff, flatten_rep])
    | (refine And.intro (by omega) ?_)
    | (refine Exists.intro _ (Exists.intro _ (Exists.intro _ (And.intro (rd_M (by assumption)) ?_))); try simp only [wpS, wpA, wpQL, push_cast, Int.cast_ofNat_Int, reduceIte, Nat.reduceEqDiff, reduceCtorEq, Nat.reduceAdd, Nat.reduceSub, Nat.reduceMul, Int.reduceToNat, Nat.reduceLeDiff, flatten_rep])
    | fail
  rename Nat => db
  refine EV.loopTo (fun i : Nat => ([(0, yv ly), (1, pv pb 0), (3, osv of (freeP p).length), (4, vi set), (5, vrow db p.length p.length), (15, vi n2), (16, vi set), (22, .slice ea p.length ec), (23, vi p.length), (24, vi i)], Mi, (db, Cl 4 ((doneB p i).map vb)) :: Gi))
   (fun i => i ≤ p.length) (fun i => p.length - i) 0 rfl (Nat.zero_le _) ?env2 ?sub2 ?_
  case env2 =>
   repeat' first
    | (refine List.forall_mem_cons.2 (And.intro ?_ ?_))
    | (intro _ hnil; cases hnil; done)
    | rfl
    | fail
  case sub2 =>
   simp only [doneB, List.map_replicate]
   exact List.Sublist.refl _
  intro i hi ih2
  dsimp only at hi ih2 ⊢
  repeat' first
    | refine EV.seq ?_
    | refine EV.skip ?_
    | refine EV.block ?_
    | (refine EV.reg ?_; (conv => (arg 2; whnf)); (refine nx ?_; try with_reducible exact ⟨⟩))
    | (refine EV.condX rfl (fun h => ?_) (fun h => ?_) <;> try exact dead h)
    | (refine EV.exit rfl ?_)
    | fail
  ·have hi' : i < p.length := by omega
   obtain ⟨pb1, po, rfl, hat⟩ := Sl.at (enc := encEv) (fun _ => rfl) (by decide) hpr (by omega)
   have hpi := (Sl.evAt hat i hi').mono (PHeap.le_trans hMN hMi)
   have hdl := doneB_len p i
   have ih3 := ih2 (i + 1) (by omega) (by omega)
   rw [show doneB p (i + 1) = (doneB p i).set i (decide ((evAt p i).op.kind = 1) || decide ((evAt p i).op.kind = 2)) from rfl] at ih3
   generalize doneB p i = q at *
   clear ih ih2 hat
   repeat' first
     | refine EV.inBlock ?_
     | (refine EV.reg ?_; (conv => (arg 2; whnf)); simp only [wpS, wpA, wpQL, push_cast, Int.cast_ofNat_Int, reduceIte, Nat.reduceEqDiff, reduceCtorEq, Nat.reduceAdd, Nat.reduceSub, Nat.reduceMul, Int.reduceToNat, Nat.reduceLeDiff, row_st, List.length_map, hdl, hi'])
     | with_reducible assumption
     | (refine condW.merge ?_ (fun hc K' hK => ?_) ?_; rotate_left)
     | (with_reducible intro b; try simp only [wpS, wpA, wpQL, push_cast, Int.cast_ofNat_Int, reduceIte, Nat.reduceEqDiff, reduceCtorEq, Nat.reduceAdd, Nat.reduceSub, Nat.reduceMul, Int.reduceToNat, Nat.reduceLeDiff, row_st, List.length_map, hdl, hi'])
     | (refine And.intro (by omega) ?_)
     | ((first | refine Exists.intro _ (And.intro (rd_M (by assumption)) ?_) | refine xiA rfl ?_ | fail); try simp only [wpS, wpA, wpQL, push_cast, Int.cast_ofNat_Int, reduceIte, Nat.reduceEqDiff, reduceCtorEq, Nat.reduceAdd, Nat.reduceSub, Nat.reduceMul, Int.reduceToNat, Nat.reduceLeDiff, row_st, List.length_map, hdl, hi'])
     | (refine xw ?_; simp only [wpS, wpA, wpQL, push_cast, Int.cast_ofNat_Int, reduceIte, Nat.reduceEqDiff, reduceCtorEq, Nat.reduceAdd, Nat.reduceSub, Nat.reduceMul, Int.reduceToNat, Nat.reduceLeDiff, row_st, List.length_map, hdl, hi'])
     | fail
   refine EV.toS ih3 ?_
   repeat' first
    | (refine List.forall_mem_cons.2 (And.intro ?_ ?_))
    | (intro _ hnil; cases hnil; done)
    | rfl
    | (refine env_w64 rfl (by first | rfl | (push_cast; first | rfl | omega)) (by omega) (by omega); done)
    | fail
  ·have hie : i = p.length := by omega
   subst hie
   clear ih2
   repeat' first
     | fail
   refine EV.loopTo (fun k : Nat => ([(0, yv ly), (1, pv pb 0), (3, osv of (freeP p).length), (4, vi set), (5, vrow db p.length p.length), (15, vi n2), (16, vi set), (43, osv of (freeP p).length), (44, vi (freeP p).length), (45, vi k)], Mi, (db, Cl 4 ((doneK p set k).map vb)) :: Gi))
    (fun k => k ≤ (freeP p).length) (fun k => (freeP p).length - k) 0 rfl (Nat.zero_le _) ?env3 (List.Sublist.refl _) ?_
   case env3 =>
    repeat' first
     | (refine List.forall_mem_cons.2 (And.intro ?_ ?_))
     | (intro _ hnil; cases hnil; done)
     | rfl
     | fail
   intro k hk ih2
   dsimp only at hk ih2 ⊢
   repeat' first
     | refine EV.seq ?_
     | refine EV.skip ?_
     | refine EV.block ?_
     | (refine EV.reg ?_; (conv => (arg 2; whnf)); (refine nx ?_; try with_reducible exact ⟨⟩))
     | (refine EV.condX rfl (fun h => ?_) (fun h => ?_) <;> try exact dead h)
     | (refine EV.exit rfl ?_)
     | fail
   ·have hk' : k < (freeP p).length := by omega
    have hrf2 : rdS Mi 1 (oad of) (freeP p).length ((freeP p).flatMap ei) := by rw [flatMap_ei]; exact hrf.mono hMi
    obtain ⟨wb, wo, hao, hatf⟩ := Sl.at (sz := 1) (enc := ei) (fun _ => rfl) (by decide) hrf2 (by omega)
    have hfk := rd_num hatf k hk'
    have hkin := numAt_in hfi hk'
    have hdl := doneK_len p set k
    have hlt : (numAt (freeP p) k).toNat < p.length := by omega
    have hbit := i64_bit (x := set) (b := k) (by omega) (by omega)
    have hkn : ¬ ((k : Int) < 0) := by omega
    have ih3 := ih2 (k + 1) (by omega) (by omega)
    rw [show doneK p set (k + 1) = (doneK p set k).set (numAt (freeP p) k).toNat (set.testBit k) from rfl] at ih3
    generalize doneK p set k = q at *
    clear ih ih2 hatf
    rw [hao]
    repeat' first
      | refine EV.inBlock ?_
      | (refine EV.reg ?_; (conv => (arg 2; whnf)); simp only [wpS, wpA, wpQL, push_cast, Int.cast_ofNat_Int, reduceIte, Nat.reduceEqDiff, reduceCtorEq, Nat.reduceAdd, Nat.reduceSub, Nat.reduceMul, Int.reduceToNat, Nat.reduceLeDiff, row_st, List.length_map, hdl, hlt, hbit, hkn])
      | (refine And.intro (by omega) ?_)
      | (refine Exists.intro _ (And.intro (rd_M (by assumption)) ?_); try simp only [wpS, wpA, wpQL, push_cast, Int.cast_ofNat_Int, reduceIte, Nat.reduceEqDiff, reduceCtorEq, Nat.reduceAdd, Nat.reduceSub, Nat.reduceMul, Int.reduceToNat, Nat.reduceLeDiff, row_st, List.length_map, hdl, hlt, hbit, hkn])
      | (refine xw ?_; simp only [wpS, wpA, wpQL, push_cast, Int.cast_ofNat_Int, reduceIte, Nat.reduceEqDiff, reduceCtorEq, Nat.reduceAdd, Nat.reduceSub, Nat.reduceMul, Int.reduceToNat, Nat.reduceLeDiff, row_st, List.length_map, hdl, hlt, hbit, hkn])
      | fail
    refine EV.toS ih3 ?_
    repeat' first
     | (refine List.forall_mem_cons.2 (And.intro ?_ ?_))
     | (intro _ hnil; cases hnil; done)
     | rfl
     | (refine env_w64 rfl (by first | rfl | (push_cast; first | rfl | omega)) (by omega) (by omega); done)
     | fail
   ·have hke : k = (freeP p).length := by omega
    subst hke
    clear ih2
    rw [show doneK p set (freeP p).length = doneOf p set from rfl]
    have hdl := doneOf_len p set
    repeat' first
      | fail
    refine YieldW.keep Gi ?_
    have hel : ElB (doneOf p set) (vrow db p.length p.length) (Mi.add [(db, Cl 4 ((doneOf p set).map vb))]) := by
     refine ⟨some ⟨db, 0, none⟩, p.length, by rw [hdl], by omega, Or.inr ⟨db, 0, rfl, ?_⟩⟩
     rw [flatMap_eb, hdl, Nat.mul_one]
     exact rowAll hdl
    refine YCon.run (hy (xs ++ (List.range set).map (doneOf p)) (doneOf p set) (List.mem_map.2 ⟨set, List.mem_range.2 (by omega), rfl⟩) _ Gi _ (PHeap.le_trans hMN (PHeap.le_trans hMi (PHeap.le_add _ _))) (hmono _ _ _ _ (PHeap.le_add _ _) hIi) (by simpa using hel)) ?_
    rintro v3 M3 G3 hM3 (⟨rfl, hI3⟩ | ⟨rfl, hS3⟩)
    ·simp only [wpS, wpA, wpQL, push_cast, Int.cast_ofNat_Int, reduceIte, Nat.reduceEqDiff, reduceCtorEq, Nat.reduceAdd, Nat.reduceSub, Nat.reduceMul, Int.reduceToNat, Nat.reduceLeDiff]
     repeat' first
       | refine EV.skip ?_
       | refine EV.inBlock ?_
       | (refine EV.reg ?_; (conv => (arg 2; whnf)); simp only [wpS, wpA, wpQL, push_cast, Int.cast_ofNat_Int, reduceIte, Nat.reduceEqDiff, reduceCtorEq, Nat.reduceAdd, Nat.reduceSub, Nat.reduceMul, Int.reduceToNat, Nat.reduceLeDiff, Bool.not_true])
       | (refine EV.condX rfl (fun h => ?_) (fun h => ?_) <;> try exact dead h)
       | fail
     have ih3 := ih (set + 1, M3, G3) ⟨by dsimp only; omega, PHeap.le_trans hMi (PHeap.le_trans (PHeap.le_add _ _) hM3), by
      dsimp only
      rw [List.range_succ, List.map_append, List.map_singleton, ← List.append_assoc]; exact hI3⟩ (by dsimp only; omega)
     dsimp only at ih3
     refine EV.toS ih3 ?_
     repeat' first
      | (refine List.forall_mem_cons.2 (And.intro ?_ ?_))
      | (intro _ hnil; cases hnil; done)
      | rfl
      | (refine env_w64 rfl (by first | rfl | (push_cast; first | rfl | omega)) (by omega) (by omega); done)
      | fail
    ·simp only [wpS, wpA, wpQL, push_cast, Int.cast_ofNat_Int, reduceIte, Nat.reduceEqDiff, reduceCtorEq, Nat.reduceAdd, Nat.reduceSub, Nat.reduceMul, Int.reduceToNat, Nat.reduceLeDiff]
     repeat' first
       | (refine EV.condX rfl (fun h => ?_) (fun h => ?_) <;> try exact dead h)
       | fail
     refine EV.ret Q17_ok ?_
     simp only [wpS, wpA, wpQL, push_cast, Int.cast_ofNat_Int, reduceIte, Nat.reduceEqDiff, reduceCtorEq, Nat.reduceAdd, Nat.reduceSub, Nat.reduceMul, Int.reduceToNat, Nat.reduceLeDiff, Q17]
     exact Or.inr hS3
 ·have hse : set = n2 := by omega
  refine EV.done Q17_ok ?_
  simp only [wpS, wpA, wpQL, push_cast, Int.cast_ofNat_Int, reduceIte, Nat.reduceEqDiff, reduceCtorEq, Nat.reduceAdd, Nat.reduceSub, Nat.reduceMul, Int.reduceToNat, Nat.reduceLeDiff, Q17]
  left
  subst hse
  rw [donesP, hn2]; exact hIi

theorem ax_dones_c (p : List Ev) (hpl : p.length ≤ 32) {ps : Value} (hps : Sl M 6 encEv ps p) : Con Tryz.prog 78 #[ps] M [] (Its (donesP p) ElB) := by
 refine Con.enter Q16_ok (args := [ps]) (by simp [Q16]) fun w0 => ?_
 simp only [Q16, argE]
 have hps0 := hps
 obtain ⟨ea, ec, rfl, hpr⟩ := hps
 repeat' first
   | refine EV.seq ?_
   | (refine EV.reg ?_; (conv => (arg 2; whnf)); (refine nx ?_; try with_reducible exact ⟨⟩))
   | (with_reducible intro b; try (refine nx ?_; try with_reducible exact ⟨⟩))
   | fail
 refine EV.keep [] ?_
 generalize hR : M.add _ = N
 have hMN : M.le N := hR ▸ PHeap.le_add _ _
 refine EV.ret Q16_ok ?_
 simp only [wpS, wpA, wpQL, push_cast, Int.cast_ofNat_Int, reduceIte, Nat.reduceEqDiff, reduceCtorEq, Nat.reduceAdd, Nat.reduceSub, Nat.reduceMul, Int.reduceToNat, Nat.reduceLeDiff, Q16]
 exact ⟨_, _, rfl, ax_dones_it p hpl (hps0.mono hMN) (hR ▸ rd_at (T := 74) (cs := [.slice ea p.length ec]) (by simp) rfl (by simp))⟩

end
end Go.EV

namespace Go.EV
open Go.Proofs

def srcL (p : List Ev) (ord : List (List Int)) (i : Nat) : List Int := -1 :: (ord[(evAt p i).op.loc.toNat]?.getD [])
def frontOf (l : List Int) (i : Nat) : Int := numAt l (l.findIdx (fun y => decide ((i : Int) = y)) - 1)
def choicesP (p : List Ev) (dn : List Bool) (ord : List (List Int)) (i : Nat) : List Int :=
 if (evAt p i).reads = false then [-2] else if dn[i]?.getD false then [frontOf (srcL p ord i) i] else srcL p ord i
def fromsN (p : List Ev) (dn : List Bool) (ord : List (List Int)) : Nat → Nat → List (List Int)
 | 0, _ => [[]]
 | k + 1, i => (choicesP p dn ord i).flatMap fun w => (fromsN p dn ord k (i + 1)).map (w :: ·)
def fromsP (p : List Ev) (dn : List Bool) (ord : List (List Int)) : List (List Int) := fromsN p dn ord p.length 0

/-- Orders as they are chosen: three, of events, with each event that reads and writes in its place. -/
structure OrdsOk (p : List Ev) (dn : List Bool) (ord : List (List Int)) : Prop where
 len : ord.length = 3
 bnd : ∀ l ∈ ord, l.length ≤ p.length
 mem : ∀ i, i < p.length → (evAt p i).reads = true → dn[i]?.getD false = true → (i : Int) ∈ ord[(evAt p i).op.loc.toNat]?.getD []

/-- What the boxes of the walk hold. -/
structure FromB (p : List Ev) (dn : List Bool) (ord : List (List Int)) (M : PHeap) (l pb yb rb wb ob db fb : Nat) (ea da oa : Option Addr) (ec dc oc : Nat) (ovs : List Value) : Prop where
 hp : rd M pb 0 1 [.slice ea p.length ec]
 hy : rd M yb 0 1 [yv l]
 hr : rd M rb 0 1 [vrow fb p.length p.length]
 hw : rd M wb 0 1 [.func (.func 112) #[] #[pv pb 0, pv yb 0, pv rb 0, pv wb 0, pv ob 0, pv db 0]]
 ho : rd M ob 0 1 [.slice oa ord.length oc]
 hd : rd M db 0 1 [.slice da dn.length dc]
 pr : rdS M 6 ea p.length (p.flatMap encEv)
 dr : rdS M 1 da dn.length (dn.flatMap eb)
 ol : ovs.length = ord.length
 orr : rdS M 1 oa ord.length ovs
 ok : ∀ i (h : i < ovs.length) (h' : i < ord.length), SlC M 1 ei ovs[i] ord[i]

section
variable {p : List Ev} {dn : List Bool} {ord : List (List Int)} {l pb yb rb wb ob db fb : Nat} {ea da oa : Option Addr} {ec dc oc : Nat} {ovs : List Value}

theorem FromB.mono {M M' : PHeap} (h : FromB p dn ord M l pb yb rb wb ob db fb ea da oa ec dc oc ovs) (hM : M.le M') : FromB p dn ord M' l pb yb rb wb ob db fb ea da oa ec dc oc ovs :=
 ⟨h.hp.mono hM, h.hy.mono hM, h.hr.mono hM, h.hw.mono hM, h.ho.mono hM, h.hd.mono hM, h.pr.mono hM, h.dr.mono hM, h.ol, h.orr.mono hM, fun i a b => (h.ok i a b).mono hM⟩

theorem find_pos {ord0 : List Int} {i : Nat} (hm : (i : Int) ∈ ord0) : ∃ k, (-1 :: ord0).findIdx (fun y => decide ((i : Int) = y)) = k + 1 ∧ k + 1 < (-1 :: ord0 : List Int).length := by
 have h1 : ((-1 :: ord0 : List Int)).findIdx (fun y => decide ((i : Int) = y)) = ord0.findIdx (fun y => decide ((i : Int) = y)) + 1 := by
  rw [List.findIdx_cons]
  have : decide ((i : Int) = -1) = false := decide_eq_false (by omega)
  rw [this]; rfl
 refine ⟨_, h1, ?_⟩
 have := List.findIdx_lt_length (p := fun y => decide ((i : Int) = y)).2 ⟨(i : Int), hm, decide_eq_true rfl⟩
 simp only [List.length_cons]; omega

theorem take_set {cur : List Int} {i : Nat} (hi : i < cur.length) (w : Int) : (cur.set i w).take (i + 1) = cur.take i ++ [w] := by
 rw [List.take_succ_eq_append_getElem (by simpa using hi), List.take_set_of_le (Nat.le_refl i)]
 simp

set_option maxHeartbeats 4000000 in
theorem ax_fwalk_c (hp : POk p) (hdl : dn.length = p.length) (hoo : OrdsOk p dn ord) {L : List (List Int)} {I : List (List Int) → PHeap → Own → Prop} {S : PHeap → Own → Prop} {M0 : PHeap}
  (hmono : ∀ xs M2 M3 G2, M2.le M3 → I xs M2 G2 → I xs M3 G2)
  (hy : ∀ xs x, x ∈ L → ∀ M2 G2 v, M0.le M2 → I xs M2 G2 → SlC M2 1 ei v x → YCon Tryz.prog l #[v] M2 G2 fun b M3 G3 => (b = .bool true ∧ I (xs ++ [x]) M3 G3) ∨ (b = .bool false ∧ S M3 G3)) :
  ∀ (k i : Nat) (cur : List Int) (xs : List (List Int)) (M : PHeap) (G : Own), i + k = p.length → cur.length = p.length → M0.le M → FromB p dn ord M l pb yb rb wb ob db fb ea da oa ec dc oc ovs →
   (∀ m ∈ fromsN p dn ord k i, cur.take i ++ m ∈ L) → I xs M G →
   Con Tryz.prog 112 #[vi i, pv pb 0, pv yb 0, pv rb 0, pv wb 0, pv ob 0, pv db 0] M ((fb, Cl 3 (cur.map vi)) :: G) fun v M' G' =>
    ∃ (cur' : List Int) (G1 : Own), G'.Perm ((fb, Cl 3 (cur'.map vi)) :: G1) ∧ cur'.length = p.length ∧ cur'.take i = cur.take i ∧
     ((v = .bool true ∧ I (xs ++ (fromsN p dn ord k i).map (cur.take i ++ ·)) M' G1) ∨ (v = .bool false ∧ S M' G1)) := by
 have hb := hp.len
 intro k
 induction k with
 | zero =>
  intro i cur xs M G hik hcl hM hB hL hI
  have hi : i = p.length := by omega
  subst hi
  have h1 := hB.hp
  have h2 := hB.hy
  have h3 := hB.hr
  refine Con.enter Q29_ok (args := [vi p.length, pv pb 0, pv yb 0, pv rb 0, pv wb 0, pv ob 0, pv db 0]) (by simp [Q29]) fun w0 => ?_
  simp only [Q29, argE]
  repeat' first
    | refine EV.seq ?_
    | (refine EV.reg ?_; (conv => (arg 2; whnf)); simp only [wpS, wpA, wpQL, push_cast, Int.cast_ofNat_Int, reduceIte, Nat.reduceEqDiff, reduceCtorEq, Nat.reduceAdd, Nat.reduceSub, Nat.reduceMul, Int.reduceToNat, Nat.reduceLeDiff, decide_true])
    | (refine EV.condX rfl (fun h => ?_) (fun h => ?_) <;> try exact dead h)
    | (refine Exists.intro _ (Exists.intro _ (Exists.intro _ (And.intro (rd_M (by assumption)) ?_))); try simp only [wpS, wpA, wpQL, push_cast, Int.cast_ofNat_Int, reduceIte, Nat.reduceEqDiff, reduceCtorEq, Nat.reduceAdd, Nat.reduceSub, Nat.reduceMul, Int.reduceToNat, Nat.reduceLeDiff, decide_true])
    | fail
  refine EV.any (t := Q29_2) [] (List.nil_sublist _) ?_
  simp only [norm_cons, norm_nil, get_cons, get_nil, reduceIte, Nat.reduceEqDiff]
  repeat' first
    | ((first | refine wQ_op (by first | with_reducible assumption | rfl) (fun lq hlq => ?_) | refine wQ_nil (by first | with_reducible assumption | rfl) ?_ | fail); try (refine nz ?_; try with_reducible exact ⟨⟩))
    | (refine wA_s (by first | with_reducible assumption | rfl) (fun tq htq => ?_) (fun tq htq => ?_) <;> try (refine nz ?_; try with_reducible exact ⟨⟩))
    | exact wA_no (by first | with_reducible assumption | rfl)
    | ((first | refine Exists.intro _ (And.intro (rd_M (by assumption)) ?_) | refine Exists.intro _ (Exists.intro _ (Exists.intro _ (And.intro (rd_M (by assumption)) ?_))) | fail); try (refine nz ?_; try with_reducible exact ⟨⟩))
    | fail
  have hrow : Sl (M.add ((fb, Cl 3 (cur.map vi)) :: G)) 1 ei (vrow fb p.length p.length) cur := ⟨some ⟨fb, 0, none⟩, p.length, by rw [hcl], Or.inr ⟨fb, 0, rfl, by rw [flatMap_ei, Nat.mul_one, hcl]; exact rowAll hcl⟩⟩
  refine Con.callB (G1 := []) (sl_Clone_c cur _ hrow (by omega)) (PHeap.le_refl _) (List.Perm.refl _) ?_
  rintro v1 M1 G1 ⟨o1, rfl, ho1, rfl⟩
  refine ⟨PHeap.le_refl _, fun q hq => absurd hq List.not_mem_nil, ?_⟩
  repeat' first
    | (refine wQ_nil (by first | with_reducible assumption | rfl) ?_; try (refine nz ?_; try with_reducible exact ⟨⟩))
    | refine wA_q (by first | with_reducible assumption | rfl) (fun lq tq hlq htq => ?_)
    | (refine wA_sT (by first | with_reducible assumption | rfl) (fun tq htq => ?_) (fun tq htq => ?_) <;> try (refine nz ?_; try with_reducible exact ⟨⟩))
    | exact wA_no (by first | with_reducible assumption | rfl)
    | fail
  refine YieldW.frzS (osg 3 o1 (cur.map vi)) ?_
  have hmem : cur ∈ L := by
   have := hL [] (by simp [fromsN])
   rwa [List.append_nil, List.take_of_length_le (by omega)] at this
  have hsl : SlC (M.add (osg 3 o1 (cur.map vi))) 1 ei (osv o1 cur.length) cur := SlC_osv ho1 rfl (fun q hq => hq)
  refine YCon.callS (hy xs cur hmem _ G _ (PHeap.le_trans hM (PHeap.le_add _ _)) (hmono _ _ _ _ (PHeap.le_add _ _) hI) hsl) ?_
  rintro b M2 G2 hM2 hb2
  repeat' first
    | ((first | refine wQ_op (by first | with_reducible assumption | rfl) (fun lq hlq => ?_) | refine wQ_nil (by first | with_reducible assumption | rfl) ?_ | fail); try (refine nz ?_; try with_reducible exact ⟨⟩))
    | refine wA_q (by first | with_reducible assumption | rfl) (fun lq tq hlq htq => ?_)
    | refine wA_fin (by first | with_reducible assumption | rfl) ?_
    | fail
  refine EV.ret Q29_ok ?_
  simp only [wpS, wpA, wpQL, push_cast, Int.cast_ofNat_Int, reduceIte, Nat.reduceEqDiff, reduceCtorEq, Nat.reduceAdd, Nat.reduceSub, Nat.reduceMul, Int.reduceToNat, Nat.reduceLeDiff, Q29]
  refine ⟨cur, G2, List.Perm.refl _, hcl, rfl, ?_⟩
  simpa [fromsN, List.take_of_length_le (Nat.le_of_eq hcl)] using hb2
 | succ k ihk =>
  intro i cur xs M G hik hcl hM hB hL hI
  have hi : i < p.length := by omega
  have h1 := hB.hp
  have h2 := hB.hy
  have h3 := hB.hr
  have h4 := hB.hw
  have h5 := hB.ho
  have h6 := hB.hd
  obtain ⟨eb1, eo, rfl, hat⟩ := Sl.at (enc := encEv) (fun _ => rfl) (by decide) hB.pr (by omega)
  have hpi := Sl.evAt hat i hi
  have hpi1 := hpi.pt 1 1 (by omega) rfl
  have hI1 : (i : Int) < p.length := by omega
  have hne : decide ((i : Int) = p.length) = false := decide_eq_false (by omega)
  have hic : i < cur.length := by omega
  have hw1 : IntKind.i64.wrap ((i : Int) + 1) = ((i + 1 : Nat) : Int) := w64 (by omega) (by omega)
  refine Con.enter Q29_ok (args := [vi i, pv pb 0, pv yb 0, pv rb 0, pv wb 0, pv ob 0, pv db 0]) (by simp [Q29]) fun w0 => ?_
  simp only [Q29, argE]
  cases hre : (evAt p i).reads with
  | false =>
   have hch : choicesP p dn ord i = [-2] := by simp [choicesP, hre]
   repeat' first
     | refine EV.seq ?_
     | refine EV.skip ?_
     | (refine EV.reg ?_; (conv => (arg 2; whnf)); simp only [wpS, wpA, wpQL, push_cast, Int.cast_ofNat_Int, reduceIte, Nat.reduceEqDiff, reduceCtorEq, Nat.reduceAdd, Nat.reduceSub, Nat.reduceMul, Int.reduceToNat, Nat.reduceLeDiff, hne, hre, hw1, row_st, List.length_map, hcl, hi])
     | (refine ConQ.call (ax_reads_q (evAt p i)) ?_; try simp only [wpS, wpA, wpQL, push_cast, Int.cast_ofNat_Int, reduceIte, Nat.reduceEqDiff, reduceCtorEq, Nat.reduceAdd, Nat.reduceSub, Nat.reduceMul, Int.reduceToNat, Nat.reduceLeDiff, hne, hre, hw1, row_st, List.length_map, hcl, hi])
     | (refine EV.condX rfl (fun h => ?_) (fun h => ?_) <;> try exact dead h)
     | (refine And.intro (by omega) ?_)
     | ((first | refine Exists.intro _ (And.intro (rd_M (by assumption)) ?_) | refine Exists.intro _ (Exists.intro _ (Exists.intro _ (And.intro (rd_M (by assumption)) ?_))) | fail); try simp only [wpS, wpA, wpQL, push_cast, Int.cast_ofNat_Int, reduceIte, Nat.reduceEqDiff, reduceCtorEq, Nat.reduceAdd, Nat.reduceSub, Nat.reduceMul, Int.reduceToNat, Nat.reduceLeDiff, hne, hre, hw1, row_st, List.length_map, hcl, hi])
     | (refine xw ?_; simp only [wpS, wpA, wpQL, push_cast, Int.cast_ofNat_Int, reduceIte, Nat.reduceEqDiff, reduceCtorEq, Nat.reduceAdd, Nat.reduceSub, Nat.reduceMul, Int.reduceToNat, Nat.reduceLeDiff, hne, hre, hw1, row_st, List.length_map, hcl, hi])
     | fail
   have hts := take_set hic (-2)
   refine Con.run (ihk (i + 1) (cur.set i (-2)) xs M G (by omega) (by rw [List.length_set]; exact hcl) hM hB (fun m hm => ?_) hI) ?_
   ·rw [hts, List.append_assoc]
    refine hL _ ?_
    simp only [fromsN, hch, List.flatMap_singleton]
    exact List.mem_map.2 ⟨m, hm, rfl⟩
   rintro v M' G' hM' ⟨cur', G1, hpe, hl', ht', hres⟩
   repeat' first
     | fail
   refine EV.ret Q29_ok ?_
   simp only [wpS, wpA, wpQL, push_cast, Int.cast_ofNat_Int, reduceIte, Nat.reduceEqDiff, reduceCtorEq, Nat.reduceAdd, Nat.reduceSub, Nat.reduceMul, Int.reduceToNat, Nat.reduceLeDiff, Q29]
   rw [hts] at ht' hres
   refine ⟨cur', G1, hpe, hl', ?_, ?_⟩
   ·have := congrArg (List.take i) ht'
    rw [List.take_take, Nat.min_eq_left (by omega)] at this
    rw [this, List.take_append_of_le_length (by rw [List.length_take]; omega), List.take_take, Nat.min_self]
   ·have e : (fromsN p dn ord (k + 1) i).map (cur.take i ++ ·) = (fromsN p dn ord k (i + 1)).map ((cur.take i ++ [-2]) ++ ·) := by
     simp only [fromsN, hch, List.flatMap_singleton, List.map_map]
     apply List.map_congr_left; intro y _; simp
    rw [e]; exact hres
  | true =>
   have hch : choicesP p dn ord i = if dn[i]?.getD false then [frontOf (srcL p ord i) i] else srcL p ord i := by simp [choicesP, hre]
   have hloc := hp.loc i hi
   have hol3 := hoo.len
   have hlo : (evAt p i).op.loc.toNat < ord.length := by omega
   obtain ⟨ob1, oo, rfl, hato⟩ := SlSlC.at hB.orr hB.ol hB.ok (by omega)
   obtain ⟨db1, do1, rfl, hatd⟩ := Sl.at (sz := 1) (enc := eb) (fun _ => rfl) (by decide) hB.dr (by omega)
   obtain ⟨la, lc, hr1, hlc, hr2⟩ := hato _ hlo
   rw [Nat.mul_one] at hr1
   rw [flatMap_ei] at hr2
   have hdi : rd M db1 (do1 + i) 1 [vb (dn[i]?.getD false)] := by
    have := hatd i (by omega)
    rw [Nat.mul_one] at this
    rwa [List.getElem?_eq_getElem (by omega : i < dn.length)]
   have hloI : (evAt p i).op.loc < (ord.length : Int) := by omega
   have hdI : (i : Int) < dn.length := by omega
   have hsrc : srcL p ord i = -1 :: ord[(evAt p i).op.loc.toNat] := by simp only [srcL]; rw [List.getElem?_eq_getElem hlo]; rfl
   have hbl := hoo.bnd _ (List.getElem_mem hlo)
   have hmm := hoo.mem i hi hre
   rw [show ord[(evAt p i).op.loc.toNat]?.getD [] = ord[(evAt p i).op.loc.toNat] from by rw [List.getElem?_eq_getElem hlo]; rfl] at hmm
   generalize ord[(evAt p i).op.loc.toNat] = o0 at *
   repeat' first
     | refine EV.seq ?_
     | refine EV.skip ?_
     | (refine EV.reg ?_; (conv => (arg 2; whnf)); simp only [wpS, wpA, wpQL, push_cast, Int.cast_ofNat_Int, reduceIte, Nat.reduceEqDiff, reduceCtorEq, Nat.reduceAdd, Nat.reduceSub, Nat.reduceMul, Int.reduceToNat, Nat.reduceLeDiff, hne, hre])
     | (refine ConQ.call (ax_reads_q (evAt p i)) ?_; try simp only [wpS, wpA, wpQL, push_cast, Int.cast_ofNat_Int, reduceIte, Nat.reduceEqDiff, reduceCtorEq, Nat.reduceAdd, Nat.reduceSub, Nat.reduceMul, Int.reduceToNat, Nat.reduceLeDiff, hne, hre])
     | (refine EV.condX rfl (fun h => ?_) (fun h => ?_) <;> try exact dead h)
     | (refine And.intro (by omega) ?_)
     | ((first | refine Exists.intro _ (And.intro (rd_M (by assumption)) ?_) | refine Exists.intro _ (Exists.intro _ (Exists.intro _ (And.intro (rd_M (by assumption)) ?_))) | fail); try simp only [wpS, wpA, wpQL, push_cast, Int.cast_ofNat_Int, reduceIte, Nat.reduceEqDiff, reduceCtorEq, Nat.reduceAdd, Nat.reduceSub, Nat.reduceMul, Int.reduceToNat, Nat.reduceLeDiff, hne, hre])
     | fail
   refine EV.any (t := Q29_6) [] (List.nil_sublist _) ?_
   simp only [norm_cons, norm_nil, get_cons, get_nil, reduceIte, Nat.reduceEqDiff]
   repeat' first
     | ((first | refine wQ_op (by first | with_reducible assumption | rfl) (fun lq hlq => ?_) | refine wQ_nil (by first | with_reducible assumption | rfl) ?_ | fail); try (refine nz ?_; try with_reducible exact ⟨⟩))
     | refine wA_q (by first | with_reducible assumption | rfl) (fun lq tq hlq htq => ?_)
     | (refine wA_s (by first | with_reducible assumption | rfl) (fun tq htq => ?_) (fun tq htq => ?_) <;> try (refine nz ?_; try with_reducible exact ⟨⟩))
     | (refine wA_sT (by first | with_reducible assumption | rfl) (fun tq htq => ?_) (fun tq htq => ?_) <;> try (refine nz ?_; try with_reducible exact ⟨⟩))
     | exact wA_no (by first | with_reducible assumption | rfl)
     | (refine And.intro (by omega) ?_)
     | ((first | with_reducible intro b | refine Exists.intro _ (And.intro (rd_M (by assumption)) ?_) | refine Exists.intro _ (Exists.intro _ (Exists.intro _ (And.intro (rd_M (by assumption)) ?_))) | refine And.intro (PHeap.le_refl _) (And.intro (mem_of_sub ?_) ?_); focus ((repeat' first | exact List.Sublist.refl _ | exact List.nil_sublist _ | exact List.sublist_append_left _ _ | refine List.Sublist.cons_cons _ ?_ | refine List.Sublist.append_left ?_ _ | refine List.sublist_append_of_sublist_right ?_ | refine List.Sublist.cons _ ?_); done) | fail); try (refine nz ?_; try with_reducible exact ⟨⟩))
     | fail
   refine ⟨o0.map vi, rdS_M hr2, ok1_vi _, Or.inl ⟨some (b, 1, []), 1, rfl, [vi (-1)], ⟨rfl, rfl, Nat.le_refl _, by decide⟩, (fb, Cl 3 (cur.map vi)) :: G, by simp [osg], by simp only [maxLen]; omega, by omega, fun o2 ho2 _ => ?_⟩⟩
   repeat' first
     | ((first | refine wQ_op (by first | with_reducible assumption | rfl) (fun lq hlq => ?_) | refine wQ_nil (by first | with_reducible assumption | rfl) ?_ | fail); try (refine nz ?_; try with_reducible exact ⟨⟩))
     | refine wA_q (by first | with_reducible assumption | rfl) (fun lq tq hlq htq => ?_)
     | refine wA_fin (by first | with_reducible assumption | rfl) ?_
     | fail
   have ho2' : osok 1 o2 (1 + o0.length) ((srcL p ord i).map vi) := by rw [hsrc]; simpa using ho2
   rw [show vi (-1) :: o0.map vi = (srcL p ord i).map vi from by rw [hsrc]; rfl]
   refine EV.frz (osg 3 o2 ((srcL p ord i).map vi)) ?_
   have hsll : (srcL p ord i).length = 1 + o0.length := by rw [hsrc, List.length_cons]; omega
   have hsl : SlC (M.add (osg 3 o2 ((srcL p ord i).map vi))) 1 ei (osv o2 (1 + o0.length)) (srcL p ord i) := SlC_osv ho2' hsll.symm (fun q hq => hq)
   generalize hN : M.add (osg 3 o2 ((srcL p ord i).map vi)) = N at *
   have hMN : M.le N := hN ▸ PHeap.le_add _ _
   have hBN := hB.mono hMN
   have hIN := hmono _ _ _ _ hMN hI
   have hdN := hdi.mono hMN
   have h6N := h6.mono hMN
   clear hN hr1 hr2 hpi hpi1 h1 h2 h5 hat hatd hato
   refine EV.seq (EV.thru (fun ρ' M' G' => ∃ ca cc, M' = N ∧ rdS N 1 ca (choicesP p dn ord i).length ((choicesP p dn ord i).map vi) ∧ (∀ q ∈ [(0, vi i), (1, pv pb 0), (2, pv yb 0), (3, pv rb 0), (4, pv wb 0), (5, pv ob 0), (6, pv db 0), (9, .slice ca (choicesP p dn ord i).length cc)], get ρ' q.1 = some q.2) ∧ G' = (fb, Cl 3 (cur.map vi)) :: G) ?_ ?_)
   ·intro k' key
    cases hdn : dn[i]?.getD false with
    | false =>
     rw [hdn] at hdN hch
     rw [if_neg (by simp)] at hch
     repeat' first
       | refine EV.seq ?_
       | refine EV.skip ?_
       | (refine EV.reg ?_; (conv => (arg 2; whnf)); (refine nx ?_; try with_reducible exact ⟨⟩))
       | (refine EV.condX rfl (fun h => ?_) (fun h => ?_) <;> try exact dead h)
       | (refine And.intro (by omega) ?_)
       | ((first | refine Exists.intro _ (And.intro (rd_M (by assumption)) ?_) | refine Exists.intro _ (Exists.intro _ (Exists.intro _ (And.intro (rd_M (by assumption)) ?_))) | fail); try (refine nx ?_; try with_reducible exact ⟨⟩))
       | fail
     obtain ⟨a9, c9, e9, _, hr9⟩ := hsl
     rw [e9]
     refine EV.reS (key _ _ _ ⟨a9, c9, rfl, ?_, ?_, rfl⟩)
     ·rw [hch]; rwa [flatMap_ei] at hr9
     ·rw [hch]
      repeat' first
       | (refine List.forall_mem_cons.2 (And.intro ?_ ?_))
       | (intro _ hnil; cases hnil; done)
       | rfl
       | fail
    | true =>
     rw [hdn] at hdN hch
     rw [if_pos rfl] at hch
     obtain ⟨k0, hk0, hk1⟩ := find_pos (hmm hdn)
     rw [← hsrc] at hk0 hk1
     have hidx : idxFunc (fun y => decide ((i : Int) = y)) (srcL p ord i) = ((k0 + 1 : Nat) : Int) := by
      rw [idxFunc, dif_pos (by omega), hk0]
     have hfr : frontOf (srcL p ord i) i = numAt (srcL p ord i) k0 := by rw [frontOf, hk0]; rfl
     repeat' first
       | refine EV.seq ?_
       | (refine EV.reg ?_; (conv => (arg 2; whnf)); (refine nx ?_; try with_reducible exact ⟨⟩))
       | (refine ConQ.call (sl_Index_q (srcL p ord i) _ (hsl.sl.mono (PHeap.le_add _ _)) (by omega) i) ?_; try (refine nx ?_; try with_reducible exact ⟨⟩))
       | (refine EV.condX rfl (fun h => ?_) (fun h => ?_) <;> try exact dead h)
       | (refine And.intro (by omega) ?_)
       | ((first | refine Exists.intro _ (And.intro (rd_M (by assumption)) ?_) | refine Exists.intro _ (Exists.intro _ (Exists.intro _ (And.intro (rd_M (by assumption)) ?_))) | fail); try (refine nx ?_; try with_reducible exact ⟨⟩))
       | fail
     obtain ⟨a9, c9, e9, hc9, hr9⟩ := hsl
     cases o2 with
     | none => exact absurd ho2'.1 (by omega)
     | some ob2 =>
      obtain ⟨b2, cap2, sp2⟩ := ob2
      simp only [Value.slice.injEq, oad_some, ocap_some] at e9
      obtain ⟨ea9, en9, ec9⟩ := e9
      subst ea9 ec9
      simp only [Option.map_some, onv_some, hidx, ocap_some, oad_some]
      have hw2 : IntKind.i64.wrap (((k0 + 1 : Nat) : Int) - 1) = k0 := (w64 (by omega) (by omega)).trans (by omega)
      refine ⟨k0, by rw [hw2], k0 + 1, rfl, by omega, by omega, Or.inl rfl, ?_⟩
      have eadd : (⟨b2, 0, none⟩ : Addr).add k0 = ⟨b2, 0 + k0, none⟩ := by
       unfold Addr.add; split
       ·rename_i h0; rw [h0]
       ·rfl
      rw [Nat.add_sub_cancel_left, eadd]
      have hne2 : ¬ cap2 = k0 := by omega
      simp only [hne2, if_false]
      refine EV.reS (key _ _ _ ⟨some ⟨b2, 0 + k0, none⟩, cap2 - k0, rfl, ?_, ?_, rfl⟩)
      ·rw [hch, hfr]
       rcases hr9 with ⟨h0, _⟩ | ⟨b', o', e', hr'⟩
       ·omega
       ·cases e'
        refine Or.inr ⟨b2, 0 + k0, rfl, ?_⟩
        have hk2 : k0 < (srcL p ord i).length := by omega
        have := hr'.pt (out := [vi (srcL p ord i)[k0]]) k0 1 (by omega) (by rw [flatMap_ei]; exact row_part vi _ hk2)
        simp only [numAt, List.getElem?_eq_getElem (by omega : k0 < (srcL p ord i).length), Option.getD_some]
        exact this
      ·rw [hch]
       repeat' first
        | (refine List.forall_mem_cons.2 (And.intro ?_ ?_))
        | (intro _ hnil; cases hnil; done)
        | rfl
        | fail
   rintro ρ2 M2 G2 ⟨ca, cc, rfl, hrc, hq, rfl⟩
   refine EV.to ?_ hq (List.Sublist.refl _)
   clear hq hsl
   have hchl : (choicesP p dn ord i).length ≤ 33 := by
    rw [hch]; split
    ·simp
    ·rw [hsll]; omega
   have hfrn : fromsN p dn ord (k + 1) i = (choicesP p dn ord i).flatMap fun w => (fromsN p dn ord k (i + 1)).map (w :: ·) := rfl
   generalize choicesP p dn ord i = ch at *
   repeat' first
     | refine EV.seq ?_
     | refine EV.block ?_
     | (refine EV.reg ?_; (conv => (arg 2; whnf)); (refine nx ?_; try with_reducible exact ⟨⟩))
     | fail
   refine EV.loopTo (fun x : Nat × PHeap × Own × List Int => ([(0, vi i), (1, pv pb 0), (2, pv yb 0), (3, pv rb 0), (4, pv wb 0), (5, pv ob 0), (6, pv db 0), (57, .slice ca ch.length cc), (58, vi ch.length), (59, vi x.1)], x.2.1, (fb, Cl 3 (x.2.2.2.map vi)) :: x.2.2.1))
    (fun x => x.1 ≤ ch.length ∧ M2.le x.2.1 ∧ x.2.2.2.length = p.length ∧ x.2.2.2.take i = cur.take i ∧ I (xs ++ ((ch.take x.1).flatMap fun w => (fromsN p dn ord k (i + 1)).map (w :: ·)).map (cur.take i ++ ·)) x.2.1 x.2.2.1) (fun x => ch.length - x.1) (0, M2, G, cur) rfl ⟨Nat.zero_le _, PHeap.le_refl _, hcl, rfl, by simpa using hIN⟩ ?env1 (List.Sublist.refl _) ?_
   case env1 =>
    repeat' first
     | (refine List.forall_mem_cons.2 (And.intro ?_ ?_))
     | (intro _ hnil; cases hnil; done)
     | rfl
     | fail
   rintro ⟨j, Mj, Gj, cj⟩ ⟨hj, hMj, hcjl, hcjt, hIj⟩ ih
   dsimp only at hj hMj hcjl hcjt hIj ih ⊢
   repeat' first
     | refine EV.seq ?_
     | refine EV.skip ?_
     | refine EV.block ?_
     | (refine EV.reg ?_; (conv => (arg 2; whnf)); (refine nx ?_; try with_reducible exact ⟨⟩))
     | (refine EV.condX rfl (fun h => ?_) (fun h => ?_) <;> try exact dead h)
     | (refine EV.exit rfl ?_)
     | fail
   ·have hj' : j < ch.length := by omega
    obtain ⟨cb, co, rfl, hatc⟩ := Sl.at (sz := 1) (enc := ei) (fun _ => rfl) (by decide) (by rw [flatMap_ei]; exact hrc) (by omega)
    have hcj := (rd_num hatc j hj').mono hMj
    have h3j := (hBN.mono hMj).hr
    have h4j := (hBN.mono hMj).hw
    have hicj : i < cj.length := by omega
    have hcheq : numAt ch j = ch[j] := by simp only [numAt, List.getElem?_eq_getElem hj', Option.getD_some]
    clear hatc
    repeat' first
      | refine EV.seq ?_
      | (refine EV.reg ?_; (conv => (arg 2; whnf)); simp only [wpS, wpA, wpQL, push_cast, Int.cast_ofNat_Int, reduceIte, Nat.reduceEqDiff, reduceCtorEq, Nat.reduceAdd, Nat.reduceSub, Nat.reduceMul, Int.reduceToNat, Nat.reduceLeDiff, hw1, row_st, List.length_map, hcjl, hi])
      | (refine And.intro (by omega) ?_)
      | ((first | refine Exists.intro _ (And.intro (rd_M (by assumption)) ?_) | refine Exists.intro _ (Exists.intro _ (Exists.intro _ (And.intro (rd_M (by assumption)) ?_))) | fail); try simp only [wpS, wpA, wpQL, push_cast, Int.cast_ofNat_Int, reduceIte, Nat.reduceEqDiff, reduceCtorEq, Nat.reduceAdd, Nat.reduceSub, Nat.reduceMul, Int.reduceToNat, Nat.reduceLeDiff, hw1, row_st, List.length_map, hcjl, hi])
      | (refine xw ?_; simp only [wpS, wpA, wpQL, push_cast, Int.cast_ofNat_Int, reduceIte, Nat.reduceEqDiff, reduceCtorEq, Nat.reduceAdd, Nat.reduceSub, Nat.reduceMul, Int.reduceToNat, Nat.reduceLeDiff, hw1, row_st, List.length_map, hcjl, hi])
      | fail
    have hts := take_set hicj (numAt ch j)
    rw [hcjt] at hts
    refine Con.run (ihk (i + 1) (cj.set i (numAt ch j)) (xs ++ ((ch.take j).flatMap fun w => (fromsN p dn ord k (i + 1)).map (w :: ·)).map (cur.take i ++ ·)) Mj Gj (by omega) (by rw [List.length_set]; exact hcjl) (PHeap.le_trans hM (PHeap.le_trans hMN hMj)) (hBN.mono hMj) (fun m hm => ?_) hIj) ?_
    ·rw [hts, List.append_assoc]
     refine hL _ ?_
     rw [hfrn]
     exact List.mem_flatMap.2 ⟨ch[j], List.getElem_mem hj', List.mem_map.2 ⟨m, hm, by rw [hcheq]; rfl⟩⟩
    rintro v M' G' hM' ⟨cur', G1, hpe, hl', ht', hres⟩
    rw [hts] at ht' hres
    have ht2 : cur'.take i = cur.take i := by
     have := congrArg (List.take i) ht'
     rw [List.take_take, Nat.min_eq_left (by omega)] at this
     rw [this, List.take_append_of_le_length (by rw [List.length_take]; omega), List.take_take, Nat.min_self]
    have esum : xs ++ ((ch.take (j + 1)).flatMap fun w => (fromsN p dn ord k (i + 1)).map (w :: ·)).map (cur.take i ++ ·) = (xs ++ ((ch.take j).flatMap fun w => (fromsN p dn ord k (i + 1)).map (w :: ·)).map (cur.take i ++ ·)) ++ (fromsN p dn ord k (i + 1)).map ((cur.take i ++ [numAt ch j]) ++ ·) := by
     rw [List.take_succ_eq_append_getElem hj', List.flatMap_append, List.map_append, ← List.append_assoc, List.flatMap_singleton, List.map_map, hcheq]
     congr 1
     apply List.map_congr_left; intro y _; simp
    rcases hres with ⟨rfl, hres⟩ | ⟨rfl, hres⟩
    ·repeat' first
      | refine EV.skip ?_
      | refine EV.inBlock ?_
      | (refine EV.reg ?_; (conv => (arg 2; whnf)); simp only [wpS, wpA, wpQL, push_cast, Int.cast_ofNat_Int, reduceIte, Nat.reduceEqDiff, reduceCtorEq, Nat.reduceAdd, Nat.reduceSub, Nat.reduceMul, Int.reduceToNat, Nat.reduceLeDiff, Bool.not_true])
      | (refine EV.condX rfl (fun h => ?_) (fun h => ?_) <;> try exact dead h)
      | fail
     have ih3 := ih (j + 1, M', G1, cur') ⟨by dsimp only; omega, PHeap.le_trans hMj hM', hl', ht2, by rw [esum]; exact hres⟩ (by dsimp only; omega)
     dsimp only at ih3
     refine EV.permG ?_ hpe
     refine EV.toS ih3 ?_
     repeat' first
      | (refine List.forall_mem_cons.2 (And.intro ?_ ?_))
      | (intro _ hnil; cases hnil; done)
      | rfl
      | (refine env_w64 rfl (by first | rfl | (push_cast; first | rfl | omega)) (by omega) (by omega); done)
      | fail
    ·repeat' first
      | refine EV.seq ?_
      | (refine EV.reg ?_; (conv => (arg 2; whnf)); simp only [wpS, wpA, wpQL, push_cast, Int.cast_ofNat_Int, reduceIte, Nat.reduceEqDiff, reduceCtorEq, Nat.reduceAdd, Nat.reduceSub, Nat.reduceMul, Int.reduceToNat, Nat.reduceLeDiff, Bool.not_false])
      | (refine EV.condX rfl (fun h => ?_) (fun h => ?_) <;> try exact dead h)
      | fail
     refine EV.ret Q29_ok ?_
     simp only [wpS, wpA, wpQL, push_cast, Int.cast_ofNat_Int, reduceIte, Nat.reduceEqDiff, reduceCtorEq, Nat.reduceAdd, Nat.reduceSub, Nat.reduceMul, Int.reduceToNat, Nat.reduceLeDiff, Q29]
     exact ⟨cur', G1, hpe, hl', ht2, Or.inr hres⟩
   ·have hje : j = ch.length := by omega
    subst hje
    rw [List.take_length] at hIj
    refine EV.ret Q29_ok ?_
    simp only [wpS, wpA, wpQL, push_cast, Int.cast_ofNat_Int, reduceIte, Nat.reduceEqDiff, reduceCtorEq, Nat.reduceAdd, Nat.reduceSub, Nat.reduceMul, Int.reduceToNat, Nat.reduceLeDiff, Q29]
    exact ⟨cj, Gj, List.Perm.refl _, hcjl, hcjt, Or.inl (hfrn ▸ hIj)⟩

set_option maxHeartbeats 4000000 in
theorem ax_froms_it {M : PHeap} (hp : POk p) (hdl : dn.length = p.length) (hoo : OrdsOk p dn ord) {ps ds os : Value} (hps : Sl M 6 encEv ps p) (hds : Sl M 1 eb ds dn) (hos : SlSlC M 1 ei os ord)
  (h1 : rd M pb 0 1 [ps]) (h2 : rd M ob 0 1 [os]) (h3 : rd M db 0 1 [ds]) : Iter Tryz.prog 111 #[] #[pv pb 0, pv ob 0, pv db 0] M (fromsP p dn ord) ElI := by
 intro ly I S M1 G hM hmono hy xs hI
 have hb := hp.len
 have h1' := h1.mono hM
 have h2' := h2.mono hM
 have h3' := h3.mono hM
 obtain ⟨ea, ec, rfl, hpr⟩ := hps
 obtain ⟨da, dc, rfl, hdr⟩ := hds
 obtain ⟨oa, oc, ovs, rfl, hol, hor, hok⟩ := hos
 refine Con.enter Q28_ok (args := [yv ly, pv pb 0, pv ob 0, pv db 0]) (by simp [Q28]) fun w0 => ?_
 simp only [Q28, argE]
 refine EV.seq (EV.reg ?_)
 simp only [wpS, wpA, wpQL, push_cast, Int.cast_ofNat_Int, reduceIte, Nat.reduceEqDiff, reduceCtorEq, Nat.reduceAdd, Nat.reduceSub, Nat.reduceMul, Int.reduceToNat, Nat.reduceLeDiff, Q28_0]
 intro yb
 repeat' first
   | fail
 refine EV.seq ?_
 repeat' first
   | (refine EV.reg ?_; (conv => (arg 2; whnf)); simp only [wpS, wpA, wpQL, push_cast, Int.cast_ofNat_Int, reduceIte, Nat.reduceEqDiff, reduceCtorEq, Nat.reduceAdd, Nat.reduceSub, Nat.reduceMul, Int.reduceToNat, Nat.reduceLeDiff, flatten_rep])
   | (with_reducible intro b; try simp only [wpS, wpA, wpQL, push_cast, Int.cast_ofNat_Int, reduceIte, Nat.reduceEqDiff, reduceCtorEq, Nat.reduceAdd, Nat.reduceSub, Nat.reduceMul, Int.reduceToNat, Nat.reduceLeDiff, flatten_rep])
   | (refine And.intro (by omega) ?_)
   | (refine Exists.intro _ (Exists.intro _ (Exists.intro _ (And.intro (rd_M (by assumption)) ?_))); try simp only [wpS, wpA, wpQL, push_cast, Int.cast_ofNat_Int, reduceIte, Nat.reduceEqDiff, reduceCtorEq, Nat.reduceAdd, Nat.reduceSub, Nat.reduceMul, Int.reduceToNat, Nat.reduceLeDiff, flatten_rep])
   | (refine xw ?_; simp only [wpS, wpA, wpQL, push_cast, Int.cast_ofNat_Int, reduceIte, Nat.reduceEqDiff, reduceCtorEq, Nat.reduceAdd, Nat.reduceSub, Nat.reduceMul, Int.reduceToNat, Nat.reduceLeDiff, flatten_rep])
   | fail
 rename Nat => rb
 rename Nat => fb
 refine EV.seq ?_
 repeat' first
   | (refine EV.reg ?_; (conv => (arg 2; whnf)); (refine nx ?_; try with_reducible exact ⟨⟩))
   | (with_reducible intro b; try (refine nx ?_; try with_reducible exact ⟨⟩))
   | fail
 rename Nat => wb
 refine EV.seq ?_
 repeat' first
   | (refine EV.reg ?_; (conv => (arg 2; whnf)); (refine nx ?_; try with_reducible exact ⟨⟩))
   | (refine xiA rfl ?_; try (refine nx ?_; try with_reducible exact ⟨⟩))
   | (refine xw ?_; (refine nx ?_; try with_reducible exact ⟨⟩))
   | fail
 have hrowb : b = b := rfl
 generalize b = rowb at *
 refine CallW.frzS [(wb, Cl 123 [.func (.func 112) #[] #[pv pb 0, pv yb 0, pv fb 0, pv wb 0, pv ob 0, pv db 0]]), (fb, Cl 34 [vrow rowb p.length p.length]), (yb, Cl 151 [yv ly])] ?_
 generalize hR : M1.add _ = N
 have hMN : M1.le N := hR ▸ PHeap.le_add _ _
 have hMN0 := PHeap.le_trans hM hMN
 have hB : FromB p dn ord N ly pb yb fb wb ob db rowb ea da oa ec dc oc ovs :=
  ⟨h1'.mono hMN, hR ▸ rd_own' 2 rfl rfl (by simp), hR ▸ rd_own' 1 rfl rfl (by simp), hR ▸ rd_own' 0 rfl rfl (by simp), h2'.mono hMN, h3'.mono hMN, hpr.mono hMN0, hdr.mono hMN0, hol, hor.mono hMN0, fun i a b => (hok i a b).mono hMN0⟩
 clear hR
 rw [show (List.replicate p.length (Value.int IntKind.i64 0)) = (List.replicate p.length (0 : Int)).map vi from by simp]
 refine Con.callS (ax_fwalk_c hp hdl hoo (L := fromsP p dn ord) hmono (fun xs x hx M2 G2 v h4 h5 h6 => hy xs x hx M2 G2 v (PHeap.le_trans hMN h4) h5 h6) p.length 0 (List.replicate p.length 0) xs N G (by omega) (by simp) (PHeap.le_refl _) hB (fun m hm => by simpa [fromsP] using hm) (hmono _ _ _ _ hMN hI)) ?_
 rintro v M' G' hM' ⟨cur', G1, hpe, hl', ht', hres⟩
 refine EV.permG (G' := (rowb, Cl 3 (cur'.map vi)) :: G1) ?_ (by simpa using hpe)
 refine EV.to (ρ' := []) (G' := G1) ?_ (fun _ h => absurd h List.not_mem_nil) (List.sublist_cons_self _ _)
 refine EV.done Q28_ok ?_
 simp only [wpS, wpA, wpQL, push_cast, Int.cast_ofNat_Int, reduceIte, Nat.reduceEqDiff, reduceCtorEq, Nat.reduceAdd, Nat.reduceSub, Nat.reduceMul, Int.reduceToNat, Nat.reduceLeDiff, Q28]
 rcases hres with ⟨_, hres⟩ | ⟨_, hres⟩
 ·left; simpa [fromsP] using hres
 ·right; exact hres

theorem ax_froms_c {M : PHeap} (hp : POk p) (hdl : dn.length = p.length) (hoo : OrdsOk p dn ord) {ps ds os : Value} (hps : Sl M 6 encEv ps p) (hds : Sl M 1 eb ds dn) (hos : SlSlC M 1 ei os ord) :
  Con Tryz.prog 80 #[ps, ds, os] M [] (Its (fromsP p dn ord) ElI) := by
 have hps0 := hps
 have hds0 := hds
 have hos0 := hos
 obtain ⟨ea, ec, rfl, hpr⟩ := hps
 obtain ⟨da, dc, rfl, hdr⟩ := hds
 obtain ⟨oa, oc, ovs, rfl, hol, hor, hok⟩ := hos
 refine Con.enter Q27_ok (args := [.slice ea p.length ec, .slice da dn.length dc, .slice oa ord.length oc]) (by simp [Q27]) fun w0 => ?_
 simp only [Q27, argE]
 repeat' first
   | refine EV.seq ?_
   | (refine EV.reg ?_; (conv => (arg 2; whnf)); (refine nx ?_; try with_reducible exact ⟨⟩))
   | (with_reducible intro b; try (refine nx ?_; try with_reducible exact ⟨⟩))
   | fail
 refine EV.keep [] ?_
 generalize hR : M.add _ = N
 have hMN : M.le N := hR ▸ PHeap.le_add _ _
 refine EV.ret Q27_ok ?_
 simp only [wpS, wpA, wpQL, push_cast, Int.cast_ofNat_Int, reduceIte, Nat.reduceEqDiff, reduceCtorEq, Nat.reduceAdd, Nat.reduceSub, Nat.reduceMul, Int.reduceToNat, Nat.reduceLeDiff, Q27]
 refine ⟨_, _, rfl, ax_froms_it hp hdl hoo (hps0.mono hMN) (hds0.mono hMN) (hos0.mono hMN) ?_ ?_ ?_⟩
 ·exact hR ▸ rd_at (T := 74) (cs := [.slice ea p.length ec]) (by simp) rfl (by simp)
 ·exact hR ▸ rd_at (T := 26) (cs := [.slice oa ord.length oc]) (by simp) rfl (by simp)
 ·exact hR ▸ rd_at (T := 35) (cs := [.slice da dn.length dc]) (by simp) rfl (by simp)

end
end Go.EV

namespace Go.EV
open Go.Proofs

def ordersN (p : List Ev) (dn : List Bool) : Nat → Int → List (List (List Int))
 | 0, _ => [[]]
 | k + 1, loc => (mergesP p (writersI p dn loc)).flatMap fun l => (ordersN p dn k (loc + 1)).map (l :: ·)
def ordersP (p : List Ev) (dn : List Bool) : List (List (List Int)) := ordersN p dn 3 0

def ElO (x : List (List Int)) (v : Value) (M : PHeap) : Prop := SlSlC M 1 ei v x

theorem SlSlC.ok1 {H : PHeap} {vs : List Value} {xss : List (List Int)} (hl : vs.length = xss.length) (hk : ∀ i (h : i < vs.length) (h' : i < xss.length), SlC H 1 ei vs[i] xss[i]) : ok1 vs := by
 intro v hv
 obtain ⟨i, hi, rfl⟩ := List.getElem_of_mem hv
 obtain ⟨a, c, e, _⟩ := hk i hi (by omega)
 rw [e]; rfl

theorem ordersN_len {p : List Ev} {dn : List Bool} : ∀ (k : Nat) (loc : Int) (x : List (List Int)), x ∈ ordersN p dn k loc → x.length = k
 | 0, _, x, h => by simp [ordersN] at h; subst h; rfl
 | k + 1, loc, x, h => by
  simp only [ordersN, List.mem_flatMap, List.mem_map] at h
  obtain ⟨l, _, y, hy, rfl⟩ := h
  simp [ordersN_len k _ y hy]

theorem writers_in (p : List Ev) (dn : List Bool) (loc : Int) : InEv p (writersI p dn loc) := fun x hx => by
 obtain ⟨i, h1, _, rfl⟩ := mem_pickI.1 hx; omega

section
variable {M : PHeap}

set_option maxHeartbeats 4000000 in
theorem ax_orders_it (p : List Ev) (dn : List Bool) (hpl : p.length ≤ 32) (hdl : dn.length = p.length) (k : Nat) (loc : Int) (hk : loc + k = 3) (h0 : 0 ≤ loc)
  (hrec : ∀ k', k = k' + 1 → ∀ M' (ps ds : Value), Sl M' 6 encEv ps p → Sl M' 1 eb ds dn → Con Tryz.prog 79 #[ps, ds, vi (loc + 1)] M' [] (Its (ordersN p dn k' (loc + 1)) ElO))
  {ps ds : Value} {lb pb db : Nat} (hps : Sl M 6 encEv ps p) (hds : Sl M 1 eb ds dn) (h1 : rd M lb 0 1 [vi loc]) (h2 : rd M pb 0 1 [ps]) (h3 : rd M db 0 1 [ds]) :
  Iter Tryz.prog 109 #[] #[pv lb 0, pv pb 0, pv db 0] M (ordersN p dn k loc) ElO := by
 intro ly I S M1 G hM hmono hy xs hI
 have h1' := h1.mono hM
 have h2' := h2.mono hM
 have h3' := h3.mono hM
 have hps1 := hps.mono hM
 have hds1 := hds.mono hM
 obtain ⟨ea, ec, rfl, hpr⟩ := hps
 obtain ⟨da, dc, rfl, hdr⟩ := hds
 refine Con.enter Q35_ok (args := [yv ly, pv lb 0, pv pb 0, pv db 0]) (by simp [Q35]) fun w0 => ?_
 simp only [Q35, argE]
 refine EV.seq (EV.reg ?_)
 simp only [wpS, wpA, wpQL, push_cast, Int.cast_ofNat_Int, reduceIte, Nat.reduceEqDiff, reduceCtorEq, Nat.reduceAdd, Nat.reduceSub, Nat.reduceMul, Int.reduceToNat, Nat.reduceLeDiff, Q35_0]
 intro yb
 refine EV.frz [(yb, Cl 149 [yv ly])] ?_
 generalize hR : M1.add _ = N
 have hMN : M1.le N := hR ▸ PHeap.le_add _ _
 have hyN : rd N yb 0 1 [yv ly] := hR ▸ rd_own' 0 rfl rfl (by simp)
 clear hR
 have h1N := h1'.mono hMN
 have h2N := h2'.mono hMN
 have h3N := h3'.mono hMN
 have hIN := hmono _ _ _ _ hMN hI
 cases k with
 | zero =>
  have hl3 : decide (loc = 3) = true := decide_eq_true (by omega)
  repeat' first
    | refine EV.seq ?_
    | (refine EV.reg ?_; (conv => (arg 2; whnf)); simp only [wpS, wpA, wpQL, push_cast, Int.cast_ofNat_Int, reduceIte, Nat.reduceEqDiff, reduceCtorEq, Nat.reduceAdd, Nat.reduceSub, Nat.reduceMul, Int.reduceToNat, Nat.reduceLeDiff, hl3])
    | (refine EV.condX rfl (fun h => ?_) (fun h => ?_) <;> try exact dead h)
    | (refine Exists.intro _ (And.intro (rd_M (by assumption)) ?_); try simp only [wpS, wpA, wpQL, push_cast, Int.cast_ofNat_Int, reduceIte, Nat.reduceEqDiff, reduceCtorEq, Nat.reduceAdd, Nat.reduceSub, Nat.reduceMul, Int.reduceToNat, Nat.reduceLeDiff, hl3])
    | fail
  refine YCon.run (hy xs [] (by simp [ordersN]) N G _ hMN hIN ⟨none, 0, [], rfl, rfl, .inl ⟨rfl, rfl⟩, fun i h => absurd h (Nat.not_lt_zero _)⟩) ?_
  intro v M' G' hM' hv
  repeat' first
    | fail
  refine EV.ret Q35_ok ?_
  simp only [wpS, wpA, wpQL, push_cast, Int.cast_ofNat_Int, reduceIte, Nat.reduceEqDiff, reduceCtorEq, Nat.reduceAdd, Nat.reduceSub, Nat.reduceMul, Int.reduceToNat, Nat.reduceLeDiff, Q35]
  rcases hv with ⟨_, hv⟩ | ⟨_, hv⟩
  ·left; exact hv
  ·right; exact hv
 | succ k =>
  have hl3 : decide (loc = 3) = false := decide_eq_false (by omega)
  repeat' first
    | refine EV.seq ?_
    | refine EV.skip ?_
    | (refine EV.reg ?_; (conv => (arg 2; whnf)); simp only [wpS, wpA, wpQL, push_cast, Int.cast_ofNat_Int, reduceIte, Nat.reduceEqDiff, reduceCtorEq, Nat.reduceAdd, Nat.reduceSub, Nat.reduceMul, Int.reduceToNat, Nat.reduceLeDiff, hl3])
    | (refine EV.condX rfl (fun h => ?_) (fun h => ?_) <;> try exact dead h)
    | (refine Exists.intro _ (And.intro (rd_M (by assumption)) ?_); try simp only [wpS, wpA, wpQL, push_cast, Int.cast_ofNat_Int, reduceIte, Nat.reduceEqDiff, reduceCtorEq, Nat.reduceAdd, Nat.reduceSub, Nat.reduceMul, Int.reduceToNat, Nat.reduceLeDiff, hl3])
    | fail
  refine EV.any (t := Q35_3) [] (List.nil_sublist _) ?_
  simp only [norm_cons, norm_nil, get_cons, get_nil, reduceIte, Nat.reduceEqDiff]
  repeat' first
    | ((first | refine wQ_op (by first | with_reducible assumption | rfl) (fun lq hlq => ?_) | refine wQ_nil (by first | with_reducible assumption | rfl) ?_ | fail); try (refine nz ?_; try with_reducible exact ⟨⟩))
    | (refine wA_s (by first | with_reducible assumption | rfl) (fun tq htq => ?_) (fun tq htq => ?_) <;> try (refine nz ?_; try with_reducible exact ⟨⟩))
    | exact wA_no (by first | with_reducible assumption | rfl)
    | ((first | refine Exists.intro _ (And.intro (rd_M (by assumption)) ?_) | refine Exists.intro _ (Exists.intro _ (Exists.intro _ (And.intro (rd_M (by assumption)) ?_))) | fail); try (refine nz ?_; try with_reducible exact ⟨⟩))
    | fail
  refine Con.callS (G1 := []) (ax_writers_c p _ (hps1.mono hMN) (by omega) dn _ (hds1.mono hMN) hdl loc) ?_
  rintro v M2 G2 hM2 ⟨_, ⟨ow, rfl, how, rfl⟩, rfl⟩
  refine ⟨hM2, fun q hq => absurd hq List.not_mem_nil, ?_⟩
  repeat' first
    | (refine wQ_nil (by first | with_reducible assumption | rfl) ?_; try (refine nz ?_; try with_reducible exact ⟨⟩))
    | refine wA_q (by first | with_reducible assumption | rfl) (fun lq tq hlq htq => ?_)
    | (refine wA_sT (by first | with_reducible assumption | rfl) (fun tq htq => ?_) (fun tq htq => ?_) <;> try (refine nz ?_; try with_reducible exact ⟨⟩))
    | exact wA_no (by first | with_reducible assumption | rfl)
    | fail
  refine CallW.keep G ?_
  generalize hR : M2.add _ = N2
  have hMN2 : M2.le N2 := hR ▸ PHeap.le_add _ _
  have hws : SlC N2 1 ei (osv ow (writersI p dn loc).length) (writersI p dn loc) := hR ▸ SlC_osv (T := 3) how rfl (fun q hq => by simp [hq])
  clear hR
  have hNN2 := PHeap.le_trans hM2 hMN2
  have hwl : (writersI p dn loc).length ≤ p.length := pickI_len _ _
  refine Con.callS (G1 := []) (ax_merges_c p (by omega) (hps1.mono (PHeap.le_trans hMN hNN2)) hws (writers_in p dn loc) (by omega)) ?_
  rintro v M3 G3 hM3 ⟨g, caps, rfl, hit⟩
  repeat' first
    | (refine wQ_nil (by first | with_reducible assumption | rfl) ?_; try (refine nz ?_; try with_reducible exact ⟨⟩))
    | refine wA_q (by first | with_reducible assumption | rfl) (fun lq tq hlq htq => ?_)
    | refine wA_fin (by first | with_reducible assumption | rfl) ?_
    | fail
  have hNM3 := PHeap.le_trans hNN2 hM3
  refine EV.toS (ρ' := [(0, yv ly), (1, pv lb 0), (2, pv pb 0), (3, pv db 0), (4, pv yb 0), (16, .func (.func g) #[] caps)]) (G' := G) ?_ ?env1
  case env1 =>
   repeat' first
    | (refine List.forall_mem_cons.2 (And.intro ?_ ?_))
    | (intro _ hnil; cases hnil; done)
    | rfl
    | fail
  refine EV.block ?_
  have hrl := hrec k rfl
  have hLs : ordersN p dn (k + 1) loc = (mergesP p (writersI p dn loc)).flatMap fun l => (ordersN p dn k (loc + 1)).map (l :: ·) := rfl
  have hwl1 : IntKind.i64.wrap (loc + 1) = loc + 1 := w64 (by omega) (by omega)
  generalize mergesP p (writersI p dn loc) = ms at *
  generalize hrs : ordersN p dn k (loc + 1) = rs at *
  refine EV.over rfl rfl rfl hit (fun d ls M G' => ∃ G0, G'.Perm ((d, Obj.deferred (some [])) :: G0) ∧ I (xs ++ ls.flatMap fun l => rs.map (l :: ·)) M G0)
   (fun d c M G' => c = .ret ∧ ∃ G0, G'.Perm ((d, Obj.deferred (some [])) :: G0) ∧ S M G0) ?_ ?_ ?_ ?_ ?_
  ·rintro d ls M4 M5 G4 hle ⟨G0, hp, hI0⟩
   exact ⟨G0, hp, hmono _ _ _ _ hle hI0⟩
  ·intro d
   exact ⟨G, List.Perm.refl _, by simpa using hmono _ _ _ _ hNM3 hIN⟩
  ·intro l d r hr1 hr2 ls x v M4 G4 w1 F hx hM4 ⟨G0, hp4, hI4⟩ hel
   refine EV.permG ?_ (List.Perm.cons _ hp4)
   have hel0 := hel
   obtain ⟨xa, xc, rfl, hxc, hxr⟩ := hel
   refine EV.reg (sts := Q35_4) ?_
   simp only [wpS, wpA, wpQL, push_cast, Int.cast_ofNat_Int, reduceIte, Nat.reduceEqDiff, reduceCtorEq, Nat.reduceAdd, Nat.reduceSub, Nat.reduceMul, Int.reduceToNat, Nat.reduceLeDiff, Q35_4]
   intro xb
   repeat' first
     | (refine xw ?_; (refine nx ?_; try with_reducible exact ⟨⟩))
     | fail
   refine EV.frz [(xb, Cl 34 [.slice xa x.length xc])] ?_
   generalize hR : M4.add _ = N4
   have hMN4 : M4.le N4 := hR ▸ PHeap.le_add _ _
   have hxb : rd N4 xb 0 1 [.slice xa x.length xc] := hR ▸ rd_own' 0 rfl rfl (by simp)
   clear hR
   refine EV.rbegin hr1 ?_
   have hN4 := PHeap.le_trans hNM3 (PHeap.le_trans hM4 hMN4)
   have h1q := h1N.mono hN4
   have h2q := h2N.mono hN4
   have h3q := h3N.mono hN4
   have hyq := hyN.mono hN4
   have hIq := hmono _ _ _ _ hMN4 hI4
   clear h1N h2N h3N hyN
   refine EV.block ?_
   repeat' first
     | refine EV.seq ?_
     | (refine EV.reg ?_; (conv => (arg 2; whnf)); simp only [wpS, wpA, wpQL, push_cast, Int.cast_ofNat_Int, reduceIte, Nat.reduceEqDiff, reduceCtorEq, Nat.reduceAdd, Nat.reduceSub, Nat.reduceMul, Int.reduceToNat, Nat.reduceLeDiff, hwl1])
     | ((first | refine Exists.intro _ (And.intro (rd_M (by assumption)) ?_) | refine Exists.intro _ (Exists.intro _ (Exists.intro _ (And.intro (rd_M (by assumption)) ?_))) | fail); try simp only [wpS, wpA, wpQL, push_cast, Int.cast_ofNat_Int, reduceIte, Nat.reduceEqDiff, reduceCtorEq, Nat.reduceAdd, Nat.reduceSub, Nat.reduceMul, Int.reduceToNat, Nat.reduceLeDiff, hwl1])
     | fail
   refine Con.callS (G1 := []) (hrl N4 _ _ (hps1.mono (PHeap.le_trans hMN hN4)) (hds1.mono (PHeap.le_trans hMN hN4))) ?_
   rintro v5 M5 G5 hM5 ⟨g5, caps5, rfl, hit5⟩
   repeat' first
     | refine EV.block ?_
     | fail
   refine EV.toS (ρ' := [(0, yv ly), (1, pv lb 0), (2, pv pb 0), (3, pv db 0), (4, pv yb 0), (5, pv xb 0), (22, .func (.func g5) #[] caps5)]) (G' := (l, Obj.loop { r with state := .busy }) :: (d, Obj.deferred (some [])) :: G0) ?_ ?env2
   case env2 =>
    repeat' first
     | (refine List.forall_mem_cons.2 (And.intro ?_ ?_))
     | (intro _ hnil; cases hnil; done)
     | rfl
     | fail
   refine EV.overI (l0 := l) (r0 := { r with state := .busy }) rfl (by simp) rfl rfl hit5 (fun zs M G' => ∃ G1, G'.Perm ((l, Obj.loop { r with state := .busy }) :: (d, Obj.deferred (some [])) :: G1) ∧ I ((xs ++ ls.flatMap fun l => rs.map (l :: ·)) ++ zs.map (x :: ·)) M G1)
    (fun c M G' => c = .ret ∧ ∃ G1, G'.Perm ((l, Obj.loop { r with state := .busy }) :: (d, Obj.deferred (some [])) :: G1) ∧ S M G1) ?_ ?_ ?_ ?_ ?_
   ·rintro zs M6 M7 G6 hle ⟨G1, hp, hI0⟩
    exact ⟨G1, hp, hmono _ _ _ _ hle hI0⟩
   ·exact ⟨G0, List.Perm.refl _, by simpa using hmono _ _ _ _ hM5 hIq⟩
   ·intro l2 r2 hr3 hr4 zs z vz M6 G6 w2 F2 hz hM6 ⟨G1, hp6, hI6⟩ helz
    refine EV.permG ?_ (List.Perm.cons _ hp6)
    have hyz := hyq.mono (PHeap.le_trans hM5 hM6)
    have hxz := hxb.mono (PHeap.le_trans hM5 hM6)
    have hel6 := (hel0.mono (PHeap.le_trans hMN4 (PHeap.le_trans hM5 hM6)))
    have hzk := ordersN_len k (loc + 1) z (hrs ▸ hz)
    obtain ⟨za, zc, zvs, rfl, hzl, hzr, hzs⟩ := helz
    refine EV.reg (sts := Q35_6) ?_
    simp only [wpS, wpA, wpQL, push_cast, Int.cast_ofNat_Int, reduceIte, Nat.reduceEqDiff, reduceCtorEq, Nat.reduceAdd, Nat.reduceSub, Nat.reduceMul, Int.reduceToNat, Nat.reduceLeDiff, Q35_6]
    refine EV.rbegin hr3 ?_
    refine EV.block (EV.seq ?_)
    refine EV.any (t := Q35_7) [] (List.nil_sublist _) ?_
    simp only [norm_cons, norm_nil, get_cons, get_nil, reduceIte, Nat.reduceEqDiff]
    repeat' first
      | ((first | refine wQ_op (by first | with_reducible assumption | rfl) (fun lq hlq => ?_) | refine wQ_nil (by first | with_reducible assumption | rfl) ?_ | fail); try (refine nz ?_; try with_reducible exact ⟨⟩))
      | refine wA_q (by first | with_reducible assumption | rfl) (fun lq tq hlq htq => ?_)
      | (refine wA_s (by first | with_reducible assumption | rfl) (fun tq htq => ?_) (fun tq htq => ?_) <;> try (refine nz ?_; try with_reducible exact ⟨⟩))
      | exact wA_no (by first | with_reducible assumption | rfl)
      | ((first | with_reducible intro b | refine Exists.intro _ (And.intro (rd_M (by assumption)) ?_) | refine Exists.intro _ (Exists.intro _ (Exists.intro _ (And.intro (rd_M (by assumption)) ?_))) | refine And.intro (PHeap.le_refl _) (And.intro (mem_of_sub ?_) ?_); focus ((repeat' first | exact List.Sublist.refl _ | exact List.nil_sublist _ | exact List.sublist_append_left _ _ | refine List.Sublist.cons_cons _ ?_ | refine List.Sublist.append_left ?_ _ | refine List.sublist_append_of_sublist_right ?_ | refine List.Sublist.cons _ ?_); done) | fail); try (refine nz ?_; try with_reducible exact ⟨⟩))
      | fail
    refine ⟨zvs, rdS_M hzr, SlSlC.ok1 hzl hzs, Or.inl ⟨some (b, 1, []), 1, rfl, [.slice xa x.length xc], ⟨rfl, rfl, Nat.le_refl _, by decide⟩, (l2, Obj.loop { r2 with state := .busy }) :: (l, Obj.loop { r with state := .busy }) :: (d, Obj.deferred (some [])) :: G1, by simp [osg], by simp only [maxLen]; omega, by omega, fun o2 ho2 _ => ?_⟩⟩
    repeat' first
      | (refine wQ_nil (by first | with_reducible assumption | rfl) ?_; try (refine nz ?_; try with_reducible exact ⟨⟩))
      | refine wA_q (by first | with_reducible assumption | rfl) (fun lq tq hlq htq => ?_)
      | (refine wA_sT (by first | with_reducible assumption | rfl) (fun tq htq => ?_) (fun tq htq => ?_) <;> try (refine nz ?_; try with_reducible exact ⟨⟩))
      | exact wA_no (by first | with_reducible assumption | rfl)
      | (refine And.intro (PHeap.le_refl _) (And.intro (mem_of_sub ?_) ?_); focus ((repeat' first | exact List.Sublist.refl _ | exact List.nil_sublist _ | exact List.sublist_append_left _ _ | refine List.Sublist.cons_cons _ ?_ | refine List.Sublist.append_left ?_ _ | refine List.sublist_append_of_sublist_right ?_ | refine List.Sublist.cons _ ?_); done); try (refine nz ?_; try with_reducible exact ⟨⟩))
      | fail
    have ho2' : osok 1 o2 (1 + z.length) (.slice xa x.length xc :: zvs) := by simpa using ho2
    refine YieldW.frzS (osg 34 o2 (.slice xa x.length xc :: zvs)) ?_
    have hmem : x :: z ∈ ordersN p dn (k + 1) loc := by rw [hLs]; exact List.mem_flatMap.2 ⟨x, hx, List.mem_map.2 ⟨z, hz, rfl⟩⟩
    have helO : ElO (x :: z) (osv o2 (1 + z.length)) (M6.add (osg 34 o2 (.slice xa x.length xc :: zvs))) := by
     refine ⟨oad o2, ocap o2, .slice xa x.length xc :: zvs, by rw [List.length_cons, Nat.add_comm], by simp [hzl], ?_, ?_⟩
     ·rw [List.length_cons, Nat.add_comm]; exact rd_osg ho2' (fun q hq => hq)
     ·intro i hi hi2
      cases i with
      | zero => exact hel6.mono (PHeap.le_add _ _)
      | succ i => exact (hzs i (by simpa using hi) (by simpa using hi2)).mono (PHeap.le_add _ _)
    refine YCon.callS (hy _ (x :: z) hmem _ G1 _ (PHeap.le_trans hMN (PHeap.le_trans hN4 (PHeap.le_trans hM5 (PHeap.le_trans hM6 (PHeap.le_add _ _))))) (hmono _ _ _ _ (PHeap.le_add _ _) hI6) helO) ?_
    rintro v8 M8 G8 hM8 (⟨rfl, hI8⟩ | ⟨rfl, hS8⟩)
    ·repeat' first
      | ((first | refine wQ_op (by first | with_reducible assumption | rfl) (fun lq hlq => ?_) | refine wQ_nil (by first | with_reducible assumption | rfl) ?_ | fail); try simp only [push_cast, Int.cast_ofNat_Int, reduceIte, Nat.reduceEqDiff, reduceCtorEq, Nat.reduceAdd, Nat.reduceSub, Nat.reduceMul, Int.reduceToNat, Nat.reduceLeDiff, Bool.not_true])
      | refine wA_q (by first | with_reducible assumption | rfl) (fun lq tq hlq htq => ?_)
      | refine wA_fin (by first | with_reducible assumption | rfl) ?_
      | fail
     repeat' first
       | refine EV.skip ?_
       | refine EV.inBlock ?_
       | (refine EV.condX rfl (fun h => ?_) (fun h => ?_) <;> try exact dead h)
       | fail
     refine EV.rend hr3 hr4 (List.Perm.refl _) ⟨G8, List.Perm.refl _, ?_⟩
     simpa only [List.map_append, List.map_singleton, List.append_assoc] using hI8
    ·repeat' first
      | ((first | refine wQ_op (by first | with_reducible assumption | rfl) (fun lq hlq => ?_) | refine wQ_nil (by first | with_reducible assumption | rfl) ?_ | fail); try simp only [push_cast, Int.cast_ofNat_Int, reduceIte, Nat.reduceEqDiff, reduceCtorEq, Nat.reduceAdd, Nat.reduceSub, Nat.reduceMul, Int.reduceToNat, Nat.reduceLeDiff, Bool.not_false])
      | refine wA_q (by first | with_reducible assumption | rfl) (fun lq tq hlq htq => ?_)
      | refine wA_fin (by first | with_reducible assumption | rfl) ?_
      | fail
     repeat' first
       | (refine EV.condX rfl (fun h => ?_) (fun h => ?_) <;> try exact dead h)
       | fail
     exact EV.rret (List.Perm.refl _) ⟨rfl, G8, List.Perm.refl _, hS8⟩
   ·rintro M6 G6 hM6 ⟨G1, hp6, hI6⟩
    repeat' first
      | refine EV.inBlock ?_
      | fail
    refine EV.rend hr1 hr2 hp6 ⟨G1, List.Perm.refl _, ?_⟩
    rw [List.flatMap_append, List.flatMap_singleton, ← List.append_assoc]; exact hI6
   ·rintro c M6 G6 hM6 ⟨rfl, G1, hp6, hS6⟩
    exact EV.rret hp6 ⟨rfl, G1, List.Perm.refl _, hS6⟩
  ·rintro d M4 G4 hM4 ⟨G0, hp4, hI4⟩
   refine EV.inBlock ?_
   refine EV.doneM Q35_ok (ms := [d]) (by simpa [msOwn] using hp4) ?_
   simp only [wpS, wpA, wpQL, push_cast, Int.cast_ofNat_Int, reduceIte, Nat.reduceEqDiff, reduceCtorEq, Nat.reduceAdd, Nat.reduceSub, Nat.reduceMul, Int.reduceToNat, Nat.reduceLeDiff, Q35]
   left; rw [hLs]; exact hI4
  ·rintro d c M4 G4 hM4 ⟨rfl, G0, hp4, hS4⟩
   refine EV.retM Q35_ok (ms := [d]) (by simpa [msOwn] using hp4) ?_
   simp only [wpS, wpA, wpQL, push_cast, Int.cast_ofNat_Int, reduceIte, Nat.reduceEqDiff, reduceCtorEq, Nat.reduceAdd, Nat.reduceSub, Nat.reduceMul, Int.reduceToNat, Nat.reduceLeDiff, Q35]
   right; exact hS4

theorem ax_orders_c (p : List Ev) (dn : List Bool) (hpl : p.length ≤ 32) (hdl : dn.length = p.length) : ∀ (k : Nat) (loc : Int), loc + k = 3 → 0 ≤ loc → ∀ M (ps ds : Value), Sl M 6 encEv ps p → Sl M 1 eb ds dn →
  Con Tryz.prog 79 #[ps, ds, vi loc] M [] (Its (ordersN p dn k loc) ElO) := by
 intro k
 induction k with
 | zero =>
  intro loc hk h0 M ps ds hps hds
  have hps0 := hps
  have hds0 := hds
  obtain ⟨ea, ec, rfl, hpr⟩ := hps
  obtain ⟨da, dc, rfl, hdr⟩ := hds
  refine Con.enter Q34_ok (args := [.slice ea p.length ec, .slice da dn.length dc, vi loc]) (by simp [Q34]) fun w0 => ?_
  simp only [Q34, argE]
  repeat' first
    | refine EV.seq ?_
    | (refine EV.reg ?_; (conv => (arg 2; whnf)); (refine nx ?_; try with_reducible exact ⟨⟩))
    | (with_reducible intro b; try (refine nx ?_; try with_reducible exact ⟨⟩))
    | fail
  refine EV.keep [] ?_
  generalize hR : M.add _ = N
  have hMN : M.le N := hR ▸ PHeap.le_add _ _
  refine EV.ret Q34_ok ?_
  simp only [wpS, wpA, wpQL, push_cast, Int.cast_ofNat_Int, reduceIte, Nat.reduceEqDiff, reduceCtorEq, Nat.reduceAdd, Nat.reduceSub, Nat.reduceMul, Int.reduceToNat, Nat.reduceLeDiff, Q34]
  refine ⟨_, _, rfl, ax_orders_it p dn hpl hdl 0 loc hk h0 (fun k' e => by cases e) (hps0.mono hMN) (hds0.mono hMN) ?_ ?_ ?_⟩
  ·exact hR ▸ rd_at (T := 3) (cs := [vi loc]) (by simp) rfl (by simp)
  ·exact hR ▸ rd_at (T := 74) (cs := [.slice ea p.length ec]) (by simp) rfl (by simp)
  ·exact hR ▸ rd_at (T := 35) (cs := [.slice da dn.length dc]) (by simp) rfl (by simp)
 | succ k ih =>
  intro loc hk h0 M ps ds hps hds
  have hps0 := hps
  have hds0 := hds
  obtain ⟨ea, ec, rfl, hpr⟩ := hps
  obtain ⟨da, dc, rfl, hdr⟩ := hds
  refine Con.enter Q34_ok (args := [.slice ea p.length ec, .slice da dn.length dc, vi loc]) (by simp [Q34]) fun w0 => ?_
  simp only [Q34, argE]
  repeat' first
    | refine EV.seq ?_
    | (refine EV.reg ?_; (conv => (arg 2; whnf)); (refine nx ?_; try with_reducible exact ⟨⟩))
    | (with_reducible intro b; try (refine nx ?_; try with_reducible exact ⟨⟩))
    | fail
  refine EV.keep [] ?_
  generalize hR : M.add _ = N
  have hMN : M.le N := hR ▸ PHeap.le_add _ _
  refine EV.ret Q34_ok ?_
  simp only [wpS, wpA, wpQL, push_cast, Int.cast_ofNat_Int, reduceIte, Nat.reduceEqDiff, reduceCtorEq, Nat.reduceAdd, Nat.reduceSub, Nat.reduceMul, Int.reduceToNat, Nat.reduceLeDiff, Q34]
  refine ⟨_, _, rfl, ax_orders_it p dn hpl hdl (k + 1) loc hk h0 (fun k' e M' ps' ds' h1 h2 => by cases e; exact ih (loc + 1) (by omega) (by omega) M' ps' ds' h1 h2) (hps0.mono hMN) (hds0.mono hMN) ?_ ?_ ?_⟩
  ·exact hR ▸ rd_at (T := 3) (cs := [vi loc]) (by simp) rfl (by simp)
  ·exact hR ▸ rd_at (T := 74) (cs := [.slice ea p.length ec]) (by simp) rfl (by simp)
  ·exact hR ▸ rd_at (T := 35) (cs := [.slice da dn.length dc]) (by simp) rfl (by simp)

end
end Go.EV

namespace Go.EV
open Go.Proofs

def fencesI (p : List Ev) : List Int := pickI p.length fun i => (evAt p i).strong
def execsF (p : List Ev) (dn : List Bool) (ord : List (List Int)) (frm : List Int) : List Exec :=
 if possibleP p ⟨frm, dn, ord, []⟩ then ((mergesP p (fencesI p)).map fun f => (⟨frm, dn, ord, f⟩ : Exec)).filter fun e => decide (brokenP p e = 0) else []
def execsO (p : List Ev) (dn : List Bool) (ord : List (List Int)) : List Exec := (fromsP p dn ord).flatMap (execsF p dn ord)
def execsD (p : List Ev) (dn : List Bool) : List Exec := (ordersP p dn).flatMap (execsO p dn)
def execsP (p : List Ev) : List Exec := (donesP p).flatMap (execsD p)

theorem mergesN_perm {p : List Ev} : ∀ (n : Nat) (l m : List Int), l.length = n → m ∈ mergesN p n l → m.Perm l
 | 0, l, m, hl, hm => by
  simp only [mergesN, List.mem_singleton] at hm
  rw [hm, List.length_eq_zero_iff.1 hl]
 | n + 1, l, m, hl, hm => by
  simp only [mergesN, List.mem_flatMap, List.mem_range] at hm
  obtain ⟨i, hi, hm⟩ := hm
  split at hm
  ·exact absurd hm List.not_mem_nil
  ·obtain ⟨m', hm', rfl⟩ := List.mem_map.1 hm
   have hil : i < l.length := by omega
   have ih := mergesN_perm n (l.eraseIdx i) m' (by rw [List.length_eraseIdx_of_lt hil]; omega) hm'
   have e : numAt l i = l[i] := by simp only [numAt, List.getElem?_eq_getElem hil, Option.getD_some]
   rw [e]
   refine (List.Perm.cons _ ih).trans ?_
   have h1 : l.Perm (l[i] :: l.eraseIdx i) := by
    have h2 : l = l.take i ++ l[i] :: l.drop (i + 1) := by rw [List.getElem_cons_drop, List.take_append_drop]
    rw [List.eraseIdx_eq_take_drop_succ]
    conv => lhs; rw [h2]
    exact List.perm_middle
   exact h1.symm
theorem mergesP_perm {p : List Ev} {l m : List Int} (h : m ∈ mergesP p l) : m.Perm l := mergesN_perm _ l m rfl h

theorem InEv.perm {p : List Ev} {l m : List Int} (h : InEv p l) (hp : m.Perm l) : InEv p m := fun x hx => h x (hp.mem_iff.1 hx)
theorem fences_in (p : List Ev) : InEv p (fencesI p) := fun x hx => by
 obtain ⟨i, h1, _, rfl⟩ := mem_pickI.1 hx; omega

theorem ordersN_mem {p : List Ev} {dn : List Bool} : ∀ (k : Nat) (loc : Int) (x : List (List Int)), x ∈ ordersN p dn k loc → ∀ j (h : j < x.length), x[j].Perm (writersI p dn (loc + j))
 | 0, _, x, h => by simp [ordersN] at h; subst h; intro j hj; simp at hj
 | k + 1, loc, x, h => by
  simp only [ordersN, List.mem_flatMap, List.mem_map] at h
  obtain ⟨l, hl, y, hy, rfl⟩ := h
  intro j hj
  cases j with
  | zero => simpa using mergesP_perm hl
  | succ j =>
   have := ordersN_mem k (loc + 1) y hy j (by simpa using hj)
   simpa [Int.add_assoc, Int.add_comm 1] using this

theorem ordersP_ok {p : List Ev} {dn : List Bool} {ord : List (List Int)} (hp : POk p) (hdl : dn.length = p.length) (h : ord ∈ ordersP p dn) : OrdsOk p dn ord ∧ ∀ l ∈ ord, InEv p l ∧ l.length ≤ p.length := by
 have hl := ordersN_len 3 0 ord h
 have hm := ordersN_mem 3 0 ord h
 have hall : ∀ l ∈ ord, InEv p l ∧ l.length ≤ p.length := by
  intro l hlm
  obtain ⟨j, hj, rfl⟩ := List.getElem_of_mem hlm
  have := hm j hj
  exact ⟨(writers_in p dn _).perm this, by rw [this.length_eq]; exact pickI_len _ _⟩
 refine ⟨⟨hl, fun l hlm => (hall l hlm).2, ?_⟩, hall⟩
 intro i hi hr hd
 have hloc := hp.loc i hi
 have hj : (evAt p i).op.loc.toNat < ord.length := by omega
 rw [List.getElem?_eq_getElem hj, Option.getD_some]
 have := hm _ hj
 rw [this.mem_iff, writersI, mem_pickI]
 refine ⟨i, hi, ?_, rfl⟩
 have hk5 : (evAt p i).op.kind ≠ 5 := by
  simp only [Ev.reads, Bool.and_eq_true, decide_eq_true_eq] at hr; exact hr.2
 simp only [Bool.and_eq_true, decide_eq_true_eq]
 exact ⟨⟨hk5, hd⟩, by omega⟩

theorem fromsN_mem {p : List Ev} {dn : List Bool} {ord : List (List Int)} : ∀ (k i : Nat) (x : List Int), x ∈ fromsN p dn ord k i → x.length = k ∧ ∀ j (h : j < x.length), x[j] ∈ choicesP p dn ord (i + j)
 | 0, _, x, h => by simp [fromsN] at h; subst h; exact ⟨rfl, fun j hj => by simp at hj⟩
 | k + 1, i, x, h => by
  simp only [fromsN, List.mem_flatMap, List.mem_map] at h
  obtain ⟨w, hw, y, hy, rfl⟩ := h
  obtain ⟨h1, h2⟩ := fromsN_mem k (i + 1) y hy
  refine ⟨by simp [h1], fun j hj => ?_⟩
  cases j with
  | zero => simpa using hw
  | succ j =>
   have := h2 j (by simpa using hj)
   simpa [Nat.add_assoc, Nat.add_comm 1] using this

theorem choices_ok {p : List Ev} {dn : List Bool} {ord : List (List Int)} (hin : ∀ l ∈ ord, InEv p l) {i : Nat} {w : Int} (h0 : 0 < p.length) (h : w ∈ choicesP p dn ord i) : w < p.length ∧ ((evAt p i).reads = true → -1 ≤ w) := by
 have hsrc : ∀ y ∈ srcL p ord i, -1 ≤ y ∧ y < p.length := by
  intro y hy
  rcases List.mem_cons.1 hy with rfl | hy
  ·omega
  ·rcases hq : ord[(evAt p i).op.loc.toNat]? with _ | l
   ·rw [hq] at hy; exact absurd hy List.not_mem_nil
   ·rw [hq] at hy
    have := hin l (List.mem_of_getElem? hq) y hy
    omega
 unfold choicesP at h
 split at h
 ·rename_i hr
  simp only [List.mem_singleton] at h
  subst h
  exact ⟨by omega, fun h2 => by rw [hr] at h2; cases h2⟩
 ·split at h
  ·simp only [List.mem_singleton] at h
   subst h
   have : -1 ≤ frontOf (srcL p ord i) i ∧ frontOf (srcL p ord i) i < p.length := by
    unfold frontOf numAt
    rcases hq : (srcL p ord i)[(srcL p ord i).findIdx (fun y => decide ((i : Int) = y)) - 1]? with _ | y
    ·simp only [Option.getD_none]; omega
    ·simp only [Option.getD_some]; exact hsrc y (List.mem_of_getElem? hq)
   exact ⟨this.2, fun _ => this.1⟩
  ·exact ⟨(hsrc w h).2, fun _ => (hsrc w h).1⟩

theorem exec_ok {p : List Ev} {dn : List Bool} {ord : List (List Int)} {frm fen : List Int} (hp : POk p) (hd : dn ∈ donesP p) (ho : ord ∈ ordersP p dn) (hf : frm ∈ fromsP p dn ord) (hn : InEv p fen ∧ fen.length ≤ p.length) : XOk p ⟨frm, dn, ord, fen⟩ := by
 have hdl : dn.length = p.length := by
  obtain ⟨set, _, rfl⟩ := List.mem_map.1 hd; exact doneOf_len p set
 obtain ⟨ho1, ho2⟩ := ordersP_ok hp hdl ho
 obtain ⟨hf1, hf2⟩ := fromsN_mem _ _ _ hf
 refine ⟨hf1, hdl, ho1.len, ?_, ho2, hn⟩
 intro i hi
 have hif : i < frm.length := by rw [hf1]; exact hi
 have := hf2 i hif
 rw [Nat.zero_add] at this
 rw [show (⟨frm, dn, ord, fen⟩ : Exec).frm[i]?.getD 0 = frm[i] from by simp [hif]]
 exact choices_ok (fun l hl => (ho2 l hl).1) (by omega) this

theorem merges_fen {p : List Ev} {f : List Int} (h : f ∈ mergesP p (fencesI p)) : InEv p f ∧ f.length ≤ p.length := by
 have := mergesP_perm h
 exact ⟨(fences_in p).perm this, by rw [this.length_eq]; exact pickI_len _ _⟩

end Go.EV

namespace Go.EV
open Go.Proofs

/-- A chain of steps. -/
inductive TG (R : Nat → Nat → Prop) : Nat → Nat → Prop
 | one {a b : Nat} (h : R a b) : TG R a b
 | more {a b c : Nat} (h : R a b) (t : TG R b c) : TG R a c

namespace TG
theorem trans {R : Nat → Nat → Prop} {a b c : Nat} (h : TG R a b) (k : TG R b c) : TG R a c := by
 induction h with
 | one h => exact .more h k
 | more h _ ih => exact .more h (ih k)
theorem mono {R S : Nat → Nat → Prop} {a b : Nat} (h : TG R a b) (hk : ∀ a b, R a b → S a b) : TG S a b := by
 induction h with
 | one h => exact .one (hk _ _ h)
 | more h _ ih => exact .more (hk _ _ h) ih
/-- Chains of chains are chains. -/
theorem flat {R S : Nat → Nat → Prop} {a b : Nat} (h : TG R a b) (hk : ∀ a b, R a b → TG S a b) : TG S a b := by
 induction h with
 | one h => exact hk _ _ h
 | more h _ ih => exact (hk _ _ h).trans ih
theorem last {R : Nat → Nat → Prop} {a b : Nat} (h : TG R a b) : ∃ c, R c b ∧ (c = a ∨ TG R a c) := by
 induction h with
 | one h => exact ⟨_, h, .inl rfl⟩
 | more h _ ih =>
  obtain ⟨c, h1, h2⟩ := ih
  refine ⟨c, h1, .inr ?_⟩
  rcases h2 with rfl | h2
  ·exact .one h
  ·exact .more h h2
theorem first {R : Nat → Nat → Prop} {a b : Nat} (h : TG R a b) : ∃ c, R a c ∧ (c = b ∨ TG R c b) := by
 cases h with
 | one h => exact ⟨_, h, .inl rfl⟩
 | more h t => exact ⟨_, h, .inr t⟩
theorem iff {R S : Nat → Nat → Prop} (h1 : ∀ a b, R a b → TG S a b) (h2 : ∀ a b, S a b → TG R a b) {a b : Nat} : TG R a b ↔ TG S a b := ⟨fun h => h.flat h1, fun h => h.flat h2⟩
theorem congr {R S : Nat → Nat → Prop} (h : ∀ a b, R a b ↔ S a b) {a b : Nat} : TG R a b ↔ TG S a b := iff (fun a b k => .one ((h a b).1 k)) (fun a b k => .one ((h a b).2 k))
/-- A chain seen through a map. -/
theorem map {R S : Nat → Nat → Prop} (f : Nat → Nat) {a b : Nat} (h : TG R a b) (hk : ∀ a b, R a b → S (f a) (f b)) : TG S (f a) (f b) := by
 induction h with
 | one h => exact .one (hk _ _ h)
 | more h _ ih => exact .more (hk _ _ h) ih
theorem of_trans {R : Nat → Nat → Prop} (ht : ∀ a b c, R a b → R b c → R a c) {a b : Nat} (h : TG R a b) : R a b := by
 induction h with
 | one h => exact h
 | more h _ ih => exact ht _ _ _ h ih
end TG

theorem hasR_out {r : Rel} {a b : Nat} (h : r.length ≤ a) : hasR r a b = false := by
 simp [hasR, List.getElem?_eq_none h]
theorem hasR_or {r : Rel} {a m x y : Nat} : hasR (orR r a m) x y = (hasR r x y || (decide (x = a ∧ a < r.length) && m.testBit y)) := by
 simp only [hasR, orR, List.getElem?_set]
 by_cases h : a = x
 ·subst h
  by_cases h2 : a < r.length
  ·simp [h2, Nat.testBit_or]
  ·simp [h2, List.getElem?_eq_none (Nat.le_of_not_lt h2)]
 ·have h' : ¬ x = a := fun e => h e.symm
  simp [h, h']
theorem hasR_put {r : Rel} {a b x y : Nat} : hasR (putR r a b) x y = true ↔ hasR r x y = true ∨ (x = a ∧ a < r.length ∧ y = b) := by
 rw [putR, hasR_or]
 simp only [Bool.or_eq_true, Bool.and_eq_true, decide_eq_true_eq, Nat.testBit_two_pow]
 constructor
 ·rintro (h | ⟨⟨h1, h2⟩, h3⟩)
  ·exact .inl h
  ·exact .inr ⟨h1, h2, h3.symm⟩
 ·rintro (h | ⟨h1, h2, h3⟩)
  ·exact .inl h
  ·exact .inr ⟨⟨h1, h2⟩, h3.symm⟩
theorem hasR_zero {n a b : Nat} : hasR (List.replicate n 0) a b = false := by
 simp only [hasR, List.getElem?_replicate]
 split <;> simp
theorem RelOk.has {n : Nat} {r : Rel} (h : RelOk n r) {a b : Nat} (k : hasR r a b = true) : a < n ∧ b < n := by
 constructor
 ·apply Decidable.byContradiction; intro hn
  rw [hasR_out (by rw [h.len]; omega)] at k; cases k
 ·apply Decidable.byContradiction; intro hn
  have := h.lt a
  have h2 : (r[a]?.getD 0).testBit b = false := Nat.testBit_lt_two_pow (Nat.lt_of_lt_of_le this (Nat.pow_le_pow_right (by decide) (by omega)))
  rw [hasR, h2] at k; cases k

theorem orR_len {r : Rel} {a m : Nat} : (orR r a m).length = r.length := by simp [orR]
theorem closeRow_len (r : Rel) (k : Nat) : ∀ a, (closeRow r k a).length = r.length
 | 0 => rfl
 | a + 1 => by
  simp only [closeRow]
  split
  ·rw [orR_len, closeRow_len r k a]
  ·exact closeRow_len r k a
theorem closeGo_len (r : Rel) : ∀ k, (closeGo r k).length = r.length
 | 0 => rfl
 | k + 1 => by rw [closeGo, closeRow_len, closeGo_len r k]

theorem closeRow_has (r : Rel) (k : Nat) : ∀ m, m ≤ r.length → ∀ a b, hasR (closeRow r k m) a b = (hasR r a b || (decide (a < m) && hasR r a k && hasR r k b))
 | 0, _, a, b => by simp [closeRow]
 | m + 1, hm, a, b => by
  have ih := closeRow_has r k m (by omega)
  have hk : hasR (closeRow r k m) m k = hasR r m k := by
   rw [ih]; simp
  have hrow : ∀ y, ((closeRow r k m)[k]?.getD 0).testBit y = hasR r k y := by
   intro y
   have := ih k y
   rw [hasR] at this
   rw [this]
   cases h1 : hasR r k y <;> cases h2 : hasR r k k <;> simp
  rw [closeRow, hk]
  by_cases h : hasR r m k = true
  ·rw [if_pos h, hasR_or, ih, hrow, closeRow_len]
   by_cases ha : a = m
   ·subst ha
    have : a < r.length := by omega
    simp [h, this]
   ·have : (decide (a < m + 1)) = decide (a < m) := by rw [decide_eq_decide]; omega
    simp [ha, this]
  ·have h' : hasR r m k = false := by simpa using h
   rw [if_neg h, ih]
   by_cases ha : a = m
   ·subst ha; simp [h']
   ·have : (decide (a < m + 1)) = decide (a < m) := by rw [decide_eq_decide]; omega
    rw [this]

theorem closeGo_step {n : Nat} {r : Rel} (h : r.length = n) (k a b : Nat) : hasR (closeGo r (k + 1)) a b = (hasR (closeGo r k) a b || (hasR (closeGo r k) a k && hasR (closeGo r k) k b)) := by
 rw [closeGo, closeRow_has _ _ _ (by rw [closeGo_len]; omega)]
 by_cases ha : a < r.length
 ·simp [ha]
 ·rw [hasR_out (a := a) (b := b) (by rw [closeGo_len]; omega), hasR_out (a := a) (b := k) (by rw [closeGo_len]; omega)]
  simp

theorem closeR_iff {n : Nat} {r : Rel} (h : RelOk n r) {a b : Nat} : hasR (closeR r) a b = true ↔ TG (fun x y => hasR r x y = true) a b := by
 have up : ∀ k a b, hasR r a b = true → hasR (closeGo r k) a b = true := by
  intro k
  induction k with
  | zero => intro a b h; exact h
  | succ k ih => intro a b hab; rw [closeGo_step h.len, ih a b hab]; simp
 have dn : ∀ k a b, hasR (closeGo r k) a b = true → TG (fun x y => hasR r x y = true) a b := by
  intro k
  induction k with
  | zero => intro a b h; exact .one h
  | succ k ih =>
   intro a b hab
   rw [closeGo_step h.len] at hab
   simp only [Bool.or_eq_true, Bool.and_eq_true] at hab
   rcases hab with hab | ⟨h1, h2⟩
   ·exact ih a b hab
   ·exact (ih a k h1).trans (ih k b h2)
 have tr : ∀ k a c b, c < k → hasR (closeGo r k) a c = true → hasR (closeGo r k) c b = true → hasR (closeGo r k) a b = true := by
  intro k
  induction k with
  | zero => intro a c b hc; omega
  | succ k ih =>
   intro a c b hc h1 h2
   rw [closeGo_step h.len] at h1 h2 ⊢
   simp only [Bool.or_eq_true, Bool.and_eq_true] at h1 h2 ⊢
   by_cases hck : c = k
   ·subst hck
    right
    refine ⟨?_, ?_⟩
    ·rcases h1 with h1 | ⟨h1, _⟩ <;> exact h1
    ·rcases h2 with h2 | ⟨_, h2⟩ <;> exact h2
   ·have hc' : c < k := by omega
    rcases h1 with h1 | ⟨h1, h1'⟩ <;> rcases h2 with h2 | ⟨h2, h2'⟩
    ·exact .inl (ih a c b hc' h1 h2)
    ·exact .inr ⟨ih a c k hc' h1 h2, h2'⟩
    ·exact .inr ⟨h1, ih k c b hc' h1' h2⟩
    ·exact .inr ⟨h1, h2'⟩
 refine ⟨dn _ a b, fun ht => ?_⟩
 have ht2 : TG (fun x y => hasR (closeR r) x y = true) a b := ht.mono fun a b => up _ a b
 refine ht2.of_trans (R := fun x y => hasR (closeR r) x y = true) (fun a c b h1 h2 => ?_)
 have hok : RelOk n (closeR r) := h.close
 exact tr _ a c b (by rw [h.len]; exact (hok.has h1).2) h1 h2

theorem circleR_iff {r : Rel} : circleR r = true ↔ ∃ a, hasR r a a = true := by
 unfold circleR
 rw [List.any_eq_true]
 constructor
 ·rintro ⟨a, _, h⟩; exact ⟨a, h⟩
 ·rintro ⟨a, h⟩
  refine ⟨a, ?_, h⟩
  rw [List.mem_range]
  apply Decidable.byContradiction; intro hn
  rw [hasR_out (by omega)] at h; cases h

end Go.EV

namespace Go.EV
open Go.Proofs

theorem putR_len {r : Rel} {a b : Nat} : (putR r a b).length = r.length := orR_len

theorem stepsA_len (p : List Ev) : ∀ i, (stepsA p i).length = p.length
 | 0 => by simp [stepsA]
 | i + 1 => by
  simp only [stepsA]
  split
  ·rw [putR_len, stepsA_len p i]
  ·exact stepsA_len p i
theorem stepsB_len (r : Rel) (fen : List Int) : ∀ k, (stepsB r fen k).length = r.length
 | 0 => rfl
 | k + 1 => by rw [stepsB, putR_len, stepsB_len r fen k]

theorem stepsA_has (p : List Ev) (a b : Nat) : ∀ i, i ≤ p.length - 1 → (hasR (stepsA p i) a b = true ↔ a < i ∧ b = a + 1 ∧ (evAt p b).th = (evAt p a).th)
 | 0, _ => by simp [stepsA, hasR_zero]
 | i + 1, hi => by
  have ih := stepsA_has p a b i (by omega)
  simp only [stepsA]
  split
  ·rename_i h
   rw [hasR_put, ih, stepsA_len]
   constructor
   ·rintro (⟨h1, h2, h3⟩ | ⟨rfl, h1, rfl⟩)
    ·exact ⟨by omega, h2, h3⟩
    ·exact ⟨by omega, rfl, h⟩
   ·rintro ⟨h1, h2, h3⟩
    by_cases ha : a = i
    ·subst ha; exact .inr ⟨rfl, by omega, h2⟩
    ·exact .inl ⟨by omega, h2, h3⟩
  ·rename_i h
   rw [ih]
   constructor
   ·rintro ⟨h1, h2, h3⟩; exact ⟨by omega, h2, h3⟩
   ·rintro ⟨h1, h2, h3⟩
    by_cases ha : a = i
    ·subst ha; subst h2; exact absurd h3 h
    ·exact ⟨by omega, h2, h3⟩

theorem stepsB_has {r : Rel} {fen : List Int} {a b : Nat} (hin : ∀ k, k < fen.length → 0 ≤ numAt fen k ∧ numAt fen k < r.length) : ∀ k, k ≤ fen.length - 1 →
  (hasR (stepsB r fen k) a b = true ↔ hasR r a b = true ∨ ∃ j, j < k ∧ numAt fen j = a ∧ numAt fen (j + 1) = b)
 | 0, _ => by simp [stepsB]
 | k + 1, hk => by
  have ih := stepsB_has (r := r) (a := a) (b := b) hin k (by omega)
  have h1 := hin k (by omega)
  have h2 := hin (k + 1) (by omega)
  simp only [numAt] at h1 h2 ih ⊢
  rw [stepsB, hasR_put, ih, stepsB_len]
  constructor
  ·rintro ((h | ⟨j, q1, q2, q3⟩) | ⟨q1, q2, q3⟩)
   ·exact .inl h
   ·exact .inr ⟨j, by omega, q2, q3⟩
   ·exact .inr ⟨k, by omega, by omega, by omega⟩
  ·rintro (h | ⟨j, q1, q2, q3⟩)
   ·exact .inl (.inl h)
   ·by_cases hj : j = k
    ·subst hj; exact .inr ⟨by omega, by omega, by omega⟩
    ·exact .inl (.inr ⟨j, by omega, q2, q3⟩)

/-- Program order, one step. -/
def Sb1 (p : List Ev) (a b : Nat) : Prop := b = a + 1 ∧ b < p.length ∧ (evAt p b).th = (evAt p a).th
/-- Two strong fences, one directly ahead of the other. -/
def Fo1 (fen : List Int) (a b : Nat) : Prop := ∃ j, j + 1 < fen.length ∧ numAt fen j = a ∧ numAt fen (j + 1) = b
/-- b reads from a. -/
def Rf (e : Exec) (n a b : Nat) : Prop := b < n ∧ frmAt e b = a

theorem InEv.num {p : List Ev} {l : List Int} (h : InEv p l) {k : Nat} (hk : k < l.length) : 0 ≤ numAt l k ∧ numAt l k < p.length := h.at hk

theorem stepsP_has {p : List Ev} {fen : List Int} (hf : InEv p fen) {a b : Nat} : hasR (stepsP p fen) a b = true ↔ Sb1 p a b ∨ Fo1 fen a b := by
 have hl : (stepsA p (p.length - 1)).length = p.length := stepsA_len _ _
 rw [stepsP, stepsB_has (fun k hk => by rw [hl]; exact hf.num hk) _ (Nat.le_refl _), stepsA_has _ _ _ _ (Nat.le_refl _)]
 unfold Sb1 Fo1
 constructor
 ·rintro (⟨h1, h2, h3⟩ | ⟨j, h1, h2, h3⟩)
  ·exact .inl ⟨h2, by omega, h3⟩
  ·exact .inr ⟨j, by omega, h2, h3⟩
 ·rintro (⟨h1, h2, h3⟩ | ⟨j, h1, h2, h3⟩)
  ·exact .inl ⟨by omega, h1, h3⟩
  ·exact .inr ⟨j, by omega, h2, h3⟩

theorem roundGo_len {q : Rel} {e : Exec} : ∀ r, (roundGo q e r).length = q.length
 | 0 => rfl
 | r + 1 => by
  simp only [roundGo]
  split
  ·rw [putR_len, roundGo_len r]
  ·exact roundGo_len r
theorem roundGo_has {q : Rel} {e : Exec} {a b : Nat} (hfr : ∀ i : Nat, i < q.length → frmAt e i < q.length) : ∀ r, r ≤ q.length → (hasR (roundGo q e r) a b = true ↔ hasR q a b = true ∨ Rf e r a b)
 | 0, _ => by simp [roundGo, Rf]
 | r + 1, hr => by
  have ih := roundGo_has (a := a) (b := b) hfr r (by omega)
  have := hfr r (by omega)
  unfold Rf at ih ⊢
  simp only [roundGo]
  split
  ·rename_i h0
   rw [hasR_put, ih, roundGo_len]
   constructor
   ·rintro ((h | ⟨h1, h2⟩) | ⟨h1, h2, rfl⟩)
    ·exact .inl h
    ·exact .inr ⟨by omega, h2⟩
    ·exact .inr ⟨by omega, by omega⟩
   ·rintro (h | ⟨h1, h2⟩)
    ·exact .inl (.inl h)
    ·by_cases hb : b = r
     ·subst hb; exact .inr ⟨by omega, by omega, rfl⟩
     ·exact .inl (.inr ⟨by omega, h2⟩)
  ·rename_i h0
   rw [ih]
   constructor
   ·rintro (h | ⟨h1, h2⟩)
    ·exact .inl h
    ·exact .inr ⟨by omega, h2⟩
   ·rintro (h | ⟨h1, h2⟩)
    ·exact .inl h
    ·by_cases hb : b = r
     ·subst hb; omega
     ·exact .inr ⟨by omega, h2⟩

/-! ### Circles -/
theorem roundP_iff {p : List Ev} {e : Exec} (hx : XOk p e) : circleR (roundP p e) = true ↔ ∃ a, TG (fun a b => Sb1 p a b ∨ Fo1 e.fen a b ∨ Rf e p.length a b) a a := by
 have hst : (stepsP p e.fen).length = p.length := (stepsP_ok hx.fin.1).len
 have hok := roundGo_ok (stepsP_ok hx.fin.1) hx _ (Nat.le_refl _)
 rw [circleR_iff]
 refine exists_congr fun a => ?_
 rw [roundP, closeR_iff hok]
 refine TG.congr fun x y => ?_
 rw [roundGo_has (fun i hi => by rw [hst] at hi ⊢; exact (hx.fr i hi).1) _ (by rw [hst]; exact Nat.le_refl _), stepsP_has hx.fin.1, or_assoc]

/-! ### What releases and what acquires -/
theorem startsGo_has (p : List Ev) (w c : Nat) : ∀ (a s : Nat), (startsGo p w a s).testBit c = true ↔ s.testBit c = true ∨ (c < a ∧ (∀ x, c ≤ x → x < a → (evAt p x).th = (evAt p w).th) ∧ (evAt p c).op.kind = 5 ∧ (evAt p c).rel = true)
 | 0, s => by simp [startsGo]
 | a + 1, s => by
  simp only [startsGo]
  split
  ·rename_i hth
   rw [startsGo_has p w c a]
   have hs : (if (evAt p a).op.kind = 5 ∧ (evAt p a).rel = true then s ||| 2 ^ a else s).testBit c = true ↔ s.testBit c = true ∨ (c = a ∧ (evAt p c).op.kind = 5 ∧ (evAt p c).rel = true) := by
    split
    ·rename_i h
     simp only [Nat.testBit_or, Bool.or_eq_true, Nat.testBit_two_pow, decide_eq_true_eq]
     constructor
     ·rintro (h1 | rfl)
      ·exact .inl h1
      ·exact .inr ⟨rfl, h⟩
     ·rintro (h1 | ⟨rfl, _⟩)
      ·exact .inl h1
      ·exact .inr rfl
    ·rename_i h
     constructor
     ·exact .inl
     ·rintro (h1 | ⟨rfl, h2⟩)
      ·exact h1
      ·exact absurd h2 h
   rw [hs]
   constructor
   ·rintro ((h | ⟨rfl, h⟩) | ⟨h1, h2, h3⟩)
    ·exact .inl h
    ·exact .inr ⟨by omega, fun x q1 q2 => by rw [show x = c by omega]; exact hth, h⟩
    ·refine .inr ⟨by omega, fun x q1 q2 => ?_, h3⟩
     by_cases hx : x = a
     ·rw [hx]; exact hth
     ·exact h2 x q1 (by omega)
   ·rintro (h | ⟨h1, h2, h3⟩)
    ·exact .inl (.inl h)
    ·by_cases hc : c = a
     ·exact .inl (.inr ⟨hc, h3⟩)
     ·exact .inr ⟨by omega, fun x q1 q2 => h2 x q1 (by omega), h3⟩
  ·rename_i hth
   constructor
   ·exact .inl
   ·rintro (h | ⟨h1, h2, h3⟩)
    ·exact h
    ·exact absurd (h2 a (by omega) (by omega)) hth

/-- The events of a thread stand together. -/
def Mono (p : List Ev) : Prop := ∀ a b, a ≤ b → b < p.length → (evAt p a).th ≤ (evAt p b).th

theorem Mono.between {p : List Ev} (h : Mono p) {a b x : Nat} (hb : b < p.length) (h1 : a ≤ x) (h2 : x ≤ b) (he : (evAt p a).th = (evAt p b).th) : (evAt p x).th = (evAt p b).th := by
 have q1 := h a x h1 (by omega)
 have q2 := h x b h2 hb
 omega

/-- The events from which what w wrote is released. -/
def Rel1 (p : List Ev) (w c : Nat) : Prop := (evAt p c).rel = true ∧ (c = w ∨ (c < w ∧ (evAt p c).th = (evAt p w).th ∧ (evAt p c).op.kind = 5))
/-- The events that acquire what r read. -/
def Acq1 (p : List Ev) (r c : Nat) : Prop := (evAt p c).acq = true ∧ (c = r ∨ (r < c ∧ c < p.length ∧ (evAt p c).th = (evAt p r).th ∧ (evAt p c).op.kind = 5))

theorem startsP_has {p : List Ev} (hm : Mono p) {w c : Nat} (hw : w < p.length) : (startsP p w).testBit c = true ↔ Rel1 p w c := by
 rw [startsP, startsGo_has]
 unfold Rel1
 constructor
 ·rintro (h | ⟨h1, h2, h3, h4⟩)
  ·split at h
   ·rename_i hr
    rw [Nat.testBit_two_pow, decide_eq_true_eq] at h
    subst h; exact ⟨hr, .inl rfl⟩
   ·simp at h
  ·exact ⟨h4, .inr ⟨h1, h2 c (Nat.le_refl _) h1, h3⟩⟩
 ·rintro ⟨h1, rfl | ⟨h2, h3, h4⟩⟩
  ·left; rw [if_pos h1]; simp
  ·right
   exact ⟨h2, fun x q1 q2 => hm.between hw q1 (by omega) h3, h4, h1⟩

theorem endsGo_has (p : List Ev) (r c : Nat) : ∀ (f b s : Nat), (endsGo p r f b s).testBit c = true ↔ s.testBit c = true ∨ (b ≤ c ∧ c < b + f ∧ (∀ x, b ≤ x → x ≤ c → (evAt p x).th = (evAt p r).th) ∧ (evAt p c).op.kind = 5 ∧ (evAt p c).acq = true)
 | 0, b, s => by
  simp only [endsGo]
  constructor
  ·exact .inl
  ·rintro (h | ⟨h1, h2, _⟩)
   ·exact h
   ·omega
 | f + 1, b, s => by
  simp only [endsGo]
  split
  ·rename_i hth
   rw [endsGo_has p r c f]
   have hs : (if (evAt p b).op.kind = 5 ∧ (evAt p b).acq = true then s ||| 2 ^ b else s).testBit c = true ↔ s.testBit c = true ∨ (c = b ∧ (evAt p c).op.kind = 5 ∧ (evAt p c).acq = true) := by
    split
    ·rename_i h
     simp only [Nat.testBit_or, Bool.or_eq_true, Nat.testBit_two_pow, decide_eq_true_eq]
     constructor
     ·rintro (h1 | rfl)
      ·exact .inl h1
      ·exact .inr ⟨rfl, h⟩
     ·rintro (h1 | ⟨rfl, _⟩)
      ·exact .inl h1
      ·exact .inr rfl
    ·rename_i h
     constructor
     ·exact .inl
     ·rintro (h1 | ⟨rfl, h2⟩)
      ·exact h1
      ·exact absurd h2 h
   rw [hs]
   constructor
   ·rintro ((h | ⟨rfl, h⟩) | ⟨h1, h2, h3, h4⟩)
    ·exact .inl h
    ·exact .inr ⟨by omega, by omega, fun x q1 q2 => by rw [show x = c by omega]; exact hth, h⟩
    ·refine .inr ⟨by omega, by omega, fun x q1 q2 => ?_, h4⟩
     by_cases hx : x = b
     ·rw [hx]; exact hth
     ·exact h3 x (by omega) q2
   ·rintro (h | ⟨h1, h2, h3, h4⟩)
    ·exact .inl (.inl h)
    ·by_cases hc : c = b
     ·exact .inl (.inr ⟨hc, h4⟩)
     ·exact .inr ⟨by omega, by omega, fun x q1 q2 => h3 x (by omega) q2, h4⟩
  ·rename_i hth
   constructor
   ·exact .inl
   ·rintro (h | ⟨h1, h2, h3, h4⟩)
    ·exact h
    ·exact absurd (h3 b (by omega) h1) hth

theorem endsP_has {p : List Ev} (hm : Mono p) {r c : Nat} (hr : r < p.length) : (endsP p r).testBit c = true ↔ Acq1 p r c := by
 rw [endsP, endsGo_has]
 unfold Acq1
 constructor
 ·rintro (h | ⟨h1, h2, h3, h4, h5⟩)
  ·split at h
   ·rename_i hr
    rw [Nat.testBit_two_pow, decide_eq_true_eq] at h
    subst h; exact ⟨hr, .inl rfl⟩
   ·simp at h
  ·exact ⟨h5, .inr ⟨by omega, by omega, h3 c h1 (Nat.le_refl _), h4⟩⟩
 ·rintro ⟨h1, rfl | ⟨h2, h3, h4, h5⟩⟩
  ·left; rw [if_pos h1]; simp
  ·right
   refine ⟨by omega, by omega, fun x q1 q2 => ?_, h5, h1⟩
   have := hm.between (a := r) (b := c) (x := x) h3 (by omega) q2 h4.symm
   rw [this, h4]

end Go.EV

namespace Go.EV
open Go.Proofs

/-! ### Chains are short -/
theorem nodup_len : ∀ (n : Nat) (l : List Nat), l.Nodup → (∀ x ∈ l, x < n) → l.length ≤ n
 | 0, l, _, h => by
  rcases l with _ | ⟨x, l⟩
  ·exact Nat.le_refl _
  ·exact absurd (h x (List.mem_cons_self ..)) (Nat.not_lt_zero _)
 | n + 1, l, hn, h => by
  have h1 := nodup_len n (l.erase n) (hn.erase n) (fun x hx => by
   obtain ⟨h1, h2⟩ := (hn.mem_erase_iff).1 hx
   have := h x h2; omega)
  have h2 : l.length ≤ (l.erase n).length + 1 := by
   rw [List.length_erase]; split <;> omega
  omega

/-- A way of steps: from place to place. -/
theorem way_TG {R : Nat → Nat → Prop} {f : Nat → Nat} {m : Nat} (h : ∀ i, i < m → R (f i) (f (i + 1))) : ∀ (d i : Nat), i + d + 1 ≤ m → TG R (f i) (f (i + d + 1))
 | 0, i, hi => .one (h i (by omega))
 | d + 1, i, hi => (way_TG h d i (by omega)).trans (.one (h (i + d + 1) (by omega)))

theorem way_len {R : Nat → Nat → Prop} {n m : Nat} {f : Nat → Nat} (hac : ∀ a, ¬ TG R a a) (h : ∀ i, i < m → R (f i) (f (i + 1))) (hlt : ∀ i, i ≤ m → f i < n) : m < n := by
 have hnd : ((List.range (m + 1)).map f).Nodup := by
  rw [List.nodup_iff_pairwise_ne, List.pairwise_map, List.pairwise_iff_getElem]
  intro i j hi hj hij he
  rw [List.length_range] at hi hj
  simp only [List.getElem_range] at he
  have := way_TG h (j - i - 1) i (by omega)
  rw [show i + (j - i - 1) + 1 = j by omega, ← he] at this
  exact hac _ this
 have := nodup_len n _ hnd (fun x hx => by
  obtain ⟨i, hi, rfl⟩ := List.mem_map.1 hx
  rw [List.mem_range] at hi
  exact hlt i (by omega))
 simp at this
 omega

/-! ### Heads of chains of exchanges -/
/-- w is written by an exchange that read what v wrote. -/
def Ex1 (p : List Ev) (e : Exec) (w v : Nat) : Prop := exchP p e w = true ∧ frmAt e w = v
/-- Chains of exchanges, back from w. -/
inductive Back (p : List Ev) (e : Exec) : Nat → Nat → Prop
 | here {w : Nat} : Back p e w w
 | on {w v u : Nat} (h : Ex1 p e w v) (t : Back p e v u) : Back p e w u

theorem chainGo_has {p : List Ev} (hm : Mono p) {e : Exec} (hx : XOk p e) {c : Nat} : ∀ (k w s : Nat), w < p.length → ((chainGo p e k w s).testBit c = true → s.testBit c = true ∨ ∃ v, Back p e w v ∧ Rel1 p v c)
 | 0, w, s, hw, h => .inl (by simpa [chainGo] using h)
 | k + 1, w, s, hw, h => by
  have hor : (s ||| startsP p w).testBit c = true → s.testBit c = true ∨ ∃ v, Back p e w v ∧ Rel1 p v c := by
   rw [Nat.testBit_or, Bool.or_eq_true, startsP_has hm hw]
   rintro (h | h)
   ·exact .inl h
   ·exact .inr ⟨w, .here, h⟩
  simp only [chainGo] at h
  split at h
  ·rename_i hc
   have hf := (hx.fr w hw).1
   have hf' : (frmAt e w).toNat < p.length := by unfold frmAt at *; omega
   rcases chainGo_has hm hx k _ _ hf' h with h | ⟨v, h1, h2⟩
   ·exact hor h
   ·exact .inr ⟨v, .on ⟨hc.1, by omega⟩ h1, h2⟩
  ·exact hor h

theorem chainGo_sub {p : List Ev} {e : Exec} {c : Nat} : ∀ (k w s : Nat), s.testBit c = true → (chainGo p e k w s).testBit c = true
 | 0, w, s, h => h
 | k + 1, w, s, h => by
  simp only [chainGo]
  split
  ·exact chainGo_sub k _ _ (by rw [Nat.testBit_or, h]; rfl)
  ·rw [Nat.testBit_or, h]; rfl

/-- Back along exchanges, so many steps. -/
def BackN (p : List Ev) (e : Exec) : Nat → Nat → Nat → Prop
 | 0, w, u => w = u
 | n + 1, w, u => ∃ v, Ex1 p e w v ∧ BackN p e n v u
theorem Back.n {p : List Ev} {e : Exec} {w u : Nat} (h : Back p e w u) : ∃ n, BackN p e n w u := by
 induction h with
 | here => exact ⟨0, rfl⟩
 | on h _ ih => obtain ⟨n, hn⟩ := ih; exact ⟨n + 1, _, h, hn⟩
theorem BackN.back {p : List Ev} {e : Exec} : ∀ {n w u : Nat}, BackN p e n w u → Back p e w u
 | 0, _, _, h => by cases h; exact .here
 | _ + 1, _, _, ⟨_, h1, h2⟩ => .on h1 (BackN.back h2)

theorem BackN.way {p : List Ev} {e : Exec} : ∀ {n w u : Nat}, BackN p e n w u → ∃ f : Nat → Nat, f 0 = w ∧ f n = u ∧ ∀ i, i < n → Ex1 p e (f i) (f (i + 1))
 | 0, w, u, h => ⟨fun _ => w, rfl, h, fun i hi => by omega⟩
 | n + 1, w, u, ⟨v, h1, h2⟩ => by
  obtain ⟨f, q1, q2, q3⟩ := BackN.way h2
  refine ⟨fun i => if i = 0 then w else f (i - 1), rfl, by simpa using q2, fun i hi => ?_⟩
  by_cases h0 : i = 0
  ·subst h0; simpa [q1] using h1
  ·have h' := q3 (i - 1) (by omega)
   rw [show i - 1 + 1 = i by omega] at h'
   simpa [h0] using h'

theorem exch_lt {p : List Ev} {e : Exec} (hx : XOk p e) {w : Nat} (h : exchP p e w = true) : w < p.length := by
 unfold exchP at h
 simp only [Bool.and_eq_true] at h
 apply Decidable.byContradiction; intro hn
 have : e.dn[w]? = none := List.getElem?_eq_none (by rw [hx.dl]; omega)
 rw [this] at h; simp at h

/-- No event reads, over chains, from itself. -/
def RfOk (p : List Ev) (e : Exec) : Prop := ∀ a, ¬ TG (Rf e p.length) a a

theorem chainGo_all {p : List Ev} (hm : Mono p) {e : Exec} (hx : XOk p e) {c : Nat} : ∀ (k w s n u : Nat), w < p.length → n < k → BackN p e n w u → Rel1 p u c → (chainGo p e k w s).testBit c = true
 | 0, w, s, n, u, _, hn, _, _ => by omega
 | k + 1, w, s, 0, u, hw, hn, hb, hr => by
  have hwu : w = u := hb
  subst hwu
  have : (s ||| startsP p w).testBit c = true := by rw [Nat.testBit_or, (startsP_has hm hw).2 hr]; simp
  simp only [chainGo]
  split
  ·exact chainGo_sub _ _ _ this
  ·exact this
 | k + 1, w, s, n + 1, u, hw, hn, ⟨v, ⟨h1, h2⟩, h3⟩, hr => by
  simp only [chainGo]
  rw [if_pos ⟨h1, by omega⟩]
  have hv : (frmAt e w).toNat = v := by omega
  rw [hv]
  have hf := (hx.fr w hw).1
  exact chainGo_all hm hx k v _ n u (by unfold frmAt at h2; omega) (by omega) h3 hr

theorem headsP_has {p : List Ev} (hm : Mono p) {e : Exec} (hx : XOk p e) (hac : RfOk p e) {r w c : Nat} (hr : r < p.length) (hw : frmAt e r = w) : (headsP p e r).testBit c = true ↔ ∃ v, Back p e w v ∧ Rel1 p v c := by
 have hwl : w < p.length := by
  have := (hx.fr r hr).1
  unfold frmAt at hw; omega
 have hwn : (frmAt e r).toNat = w := by omega
 rw [headsP, hwn]
 constructor
 ·intro h
  rcases chainGo_has hm hx _ _ _ hwl h with h | h
  ·simp at h
  ·exact h
 ·rintro ⟨v, hb, hc⟩
  obtain ⟨n, hn⟩ := hb.n
  refine chainGo_all hm hx _ _ _ n v hwl ?_ hn hc
  obtain ⟨f, q1, q2, q3⟩ := hn.way
  refine way_len (R := fun a b => Rf e p.length b a) (f := f) (m := n) (fun a ha => hac a ?_) (fun i hi => ?_) (fun i hi => ?_)
  ·have key : ∀ a b, TG (fun a b => Rf e p.length b a) a b → TG (Rf e p.length) b a := by
    intro a b h
    induction h with
    | one h => exact .one h
    | more h _ ih => exact ih.trans (.one h)
   exact key a a ha
  ·have := q3 i hi
   exact ⟨exch_lt hx this.1, this.2⟩
  ·by_cases h0 : i = 0
   ·subst h0; rw [q1]; exact hwl
   ·have := q3 (i - 1) (by omega)
    rw [show i - 1 + 1 = i by omega] at this
    have h1 := (hx.fr _ (exch_lt hx this.1)).1
    have h2 := this.2
    unfold frmAt at h2; omega

/-! ### hb -/
/-- What one event releases and another one acquires. -/
def Sw (p : List Ev) (e : Exec) (a b : Nat) : Prop := ∃ r w v, r < p.length ∧ (evAt p r).reads = true ∧ frmAt e r = (w : Nat) ∧ Back p e w v ∧ Rel1 p v a ∧ Acq1 p r b

theorem orAll_len {q : Rel} {set to : Nat} : ∀ a, (orAll q set to a).length = q.length
 | 0 => rfl
 | a + 1 => by
  simp only [orAll]
  split
  ·rw [orR_len, orAll_len a]
  ·exact orAll_len a
theorem orAll_has {q : Rel} {set to x y : Nat} : ∀ a, a ≤ q.length → (hasR (orAll q set to a) x y = true ↔ hasR q x y = true ∨ (x < a ∧ set.testBit x = true ∧ to.testBit y = true))
 | 0, _ => by simp [orAll]
 | a + 1, ha => by
  have ih := orAll_has (q := q) (set := set) (to := to) (x := x) (y := y) a (by omega)
  simp only [orAll]
  split
  ·rename_i h
   rw [hasR_or, Bool.or_eq_true, ih, orAll_len]
   simp only [Bool.and_eq_true, decide_eq_true_eq]
   constructor
   ·rintro ((h1 | ⟨h1, h2⟩) | ⟨⟨h1, h2⟩, h3⟩)
    ·exact .inl h1
    ·exact .inr ⟨by omega, h2⟩
    ·subst h1; exact .inr ⟨by omega, h, h3⟩
   ·rintro (h1 | ⟨h1, h2, h3⟩)
    ·exact .inl (.inl h1)
    ·by_cases hxa : x = a
     ·subst hxa; exact .inr ⟨⟨rfl, by omega⟩, h3⟩
     ·exact .inl (.inr ⟨by omega, h2, h3⟩)
  ·rename_i h
   rw [ih]
   constructor
   ·rintro (h1 | ⟨h1, h2⟩)
    ·exact .inl h1
    ·exact .inr ⟨by omega, h2⟩
   ·rintro (h1 | ⟨h1, h2, h3⟩)
    ·exact .inl h1
    ·by_cases hxa : x = a
     ·subst hxa; exact absurd h2 h
     ·exact .inr ⟨by omega, h2, h3⟩

theorem Rel1.lt {p : List Ev} {w c : Nat} (h : Rel1 p w c) (hw : w < p.length) : c < p.length := by
 rcases h.2 with rfl | ⟨h, _⟩ <;> omega
theorem Back.lt {p : List Ev} {e : Exec} (hx : XOk p e) {w v : Nat} (h : Back p e w v) (hw : w < p.length) : v < p.length := by
 induction h with
 | here => exact hw
 | on h _ ih =>
  have h1 := (hx.fr _ (exch_lt hx h.1)).1
  have h2 := h.2
  exact ih (by unfold frmAt at h2; omega)

theorem befGo_len {p : List Ev} {e : Exec} : ∀ r, (befGo p e r).length = p.length
 | 0 => by rw [befGo, stepsP, stepsB_len, stepsA_len]
 | r + 1 => by
  simp only [befGo]
  split
  ·rw [orAll_len, befGo_len r]
  ·exact befGo_len r

theorem befGo_has {p : List Ev} (hm : Mono p) {e : Exec} (hx : XOk p e) (hac : RfOk p e) {a b : Nat} : ∀ n, n ≤ p.length →
  (hasR (befGo p e n) a b = true ↔ Sb1 p a b ∨ Fo1 e.fen a b ∨ ∃ r w v, r < n ∧ (evAt p r).reads = true ∧ frmAt e r = (w : Nat) ∧ Back p e w v ∧ Rel1 p v a ∧ Acq1 p r b)
 | 0, _ => by
  rw [befGo, stepsP_has hx.fin.1]
  constructor
  ·rintro (h | h)
   ·exact .inl h
   ·exact .inr (.inl h)
  ·rintro (h | h | ⟨r, w, v, h, _⟩)
   ·exact .inl h
   ·exact .inr h
   ·omega
 | n + 1, hn => by
  have ih := befGo_has hm hx hac (a := a) (b := b) n (by omega)
  simp only [befGo]
  split
  ·rename_i h
   obtain ⟨w, hw⟩ : ∃ w : Nat, frmAt e n = w := ⟨(frmAt e n).toNat, by omega⟩
   have hwl : w < p.length := by
    have := (hx.fr n (by omega)).1
    unfold frmAt at hw; omega
   rw [orAll_has _ (by rw [befGo_len]; exact Nat.le_refl _), ih, headsP_has hm hx hac (by omega) hw, endsP_has hm (by omega)]
   constructor
   ·rintro ((h1 | h1 | ⟨r, w', v, h1, h2⟩) | ⟨h1, ⟨v, h2, h3⟩, h4⟩)
    ·exact .inl h1
    ·exact .inr (.inl h1)
    ·exact .inr (.inr ⟨r, w', v, by omega, h2⟩)
    ·exact .inr (.inr ⟨n, w, v, by omega, h.1, hw, h2, h3, h4⟩)
   ·rintro (h1 | h1 | ⟨r, w', v, h1, h2, h3, h4, h5, h6⟩)
    ·exact .inl (.inl h1)
    ·exact .inl (.inr (.inl h1))
    ·by_cases hr : r = n
     ·subst hr
      have : w' = w := by omega
      subst this
      exact .inr ⟨h5.lt (h4.lt hx hwl), ⟨v, h4, h5⟩, h6⟩
     ·exact .inl (.inr (.inr ⟨r, w', v, by omega, h2, h3, h4, h5, h6⟩))
  ·rename_i h
   rw [ih]
   constructor
   ·rintro (h1 | h1 | ⟨r, w', v, h1, h2⟩)
    ·exact .inl h1
    ·exact .inr (.inl h1)
    ·exact .inr (.inr ⟨r, w', v, by omega, h2⟩)
   ·rintro (h1 | h1 | ⟨r, w', v, h1, h2, h3, h4⟩)
    ·exact .inl h1
    ·exact .inr (.inl h1)
    ·by_cases hr : r = n
     ·subst hr
      exact absurd ⟨h2, by omega⟩ h
     ·exact .inr (.inr ⟨r, w', v, by omega, h2, h3, h4⟩)

/-- Before. -/
def Hb (p : List Ev) (e : Exec) : Nat → Nat → Prop := TG fun a b => Sb1 p a b ∨ Fo1 e.fen a b ∨ Sw p e a b

theorem beforeP_iff {p : List Ev} (hm : Mono p) {e : Exec} (hx : XOk p e) (hac : RfOk p e) {a b : Nat} : hasR (beforeP p e) a b = true ↔ Hb p e a b := by
 rw [beforeP, closeR_iff (befGo_ok hx _ (Nat.le_refl _))]
 exact TG.congr fun x y => befGo_has hm hx hac _ (Nat.le_refl _)

/-! ### eco -/
/-- One write stands behind another one. -/
def Co1 (l : List Int) (a b : Nat) : Prop := ∃ i j, i < j ∧ j < l.length ∧ numAt l i = a ∧ numAt l j = b
/-- A read, and a write behind the one that it read from. -/
def Fr1 (p : List Ev) (e : Exec) (r w : Nat) : Prop := r < p.length ∧ (evAt p r).reads = true ∧ w ≠ r ∧ ∃ j, j < (ordAt p e r).length ∧ numAt (ordAt p e r) j = w ∧ (frmAt e r = -1 ∨ ∃ i, i < j ∧ numAt (ordAt p e r) i = frmAt e r)

theorem comC_len {q : Rel} {l : List Int} {i : Nat} : ∀ j, (comC q l i j).length = q.length
 | 0 => rfl
 | j + 1 => by rw [comC, putR_len, comC_len j]
theorem comB_len {q : Rel} {l : List Int} : ∀ i, (comB q l i).length = q.length
 | 0 => rfl
 | i + 1 => by rw [comB, comC_len, comB_len i]
theorem comA_len {q : Rel} {ord : List (List Int)} : ∀ i, (comA q ord i).length = q.length
 | 0 => rfl
 | i + 1 => by rw [comA, comB_len, comA_len i]

theorem comC_has {q : Rel} {l : List Int} (hin : ∀ k, k < l.length → 0 ≤ numAt l k ∧ numAt l k < q.length) {i a b : Nat} : ∀ j, i + 1 + j ≤ l.length →
  (hasR (comC q l i j) a b = true ↔ hasR q a b = true ∨ (numAt l i = a ∧ ∃ k, i < k ∧ k < i + 1 + j ∧ numAt l k = b))
 | 0, _ => by
  simp only [comC]
  constructor
  ·exact .inl
  ·rintro (h | ⟨_, k, h1, h2, _⟩)
   ·exact h
   ·omega
 | j + 1, hj => by
  have ih := comC_has hin (i := i) (a := a) (b := b) j (by omega)
  have h1 := hin i (by omega)
  have h2 := hin (i + 1 + j) (by omega)
  rw [comC, hasR_put, ih, comC_len]
  constructor
  ·rintro ((h | ⟨q1, k, q2, q3, q4⟩) | ⟨q1, q2, q3⟩)
   ·exact .inl h
   ·exact .inr ⟨q1, k, q2, by omega, q4⟩
   ·exact .inr ⟨by omega, i + 1 + j, by omega, by omega, by omega⟩
  ·rintro (h | ⟨q1, k, q2, q3, q4⟩)
   ·exact .inl (.inl h)
   ·by_cases hk : k = i + 1 + j
    ·subst hk; exact .inr ⟨by omega, by omega, by omega⟩
    ·exact .inl (.inr ⟨q1, k, q2, by omega, q4⟩)

theorem comB_has {q : Rel} {l : List Int} (hin : ∀ k, k < l.length → 0 ≤ numAt l k ∧ numAt l k < q.length) {a b : Nat} : ∀ i, i ≤ l.length →
  (hasR (comB q l i) a b = true ↔ hasR q a b = true ∨ ∃ x y, x < i ∧ x < y ∧ y < l.length ∧ numAt l x = a ∧ numAt l y = b)
 | 0, _ => by
  simp only [comB]
  constructor
  ·exact .inl
  ·rintro (h | ⟨x, y, h1, _⟩)
   ·exact h
   ·omega
 | i + 1, hi => by
  have ih := comB_has hin (a := a) (b := b) i (by omega)
  rw [comB, comC_has (by rw [comB_len]; exact hin) _ (by omega), ih]
  constructor
  ·rintro ((h | ⟨x, y, h1, h2⟩) | ⟨h1, k, h2, h3, h4⟩)
   ·exact .inl h
   ·exact .inr ⟨x, y, by omega, h2⟩
   ·exact .inr ⟨i, k, by omega, h2, by omega, h1, h4⟩
  ·rintro (h | ⟨x, y, h1, h2, h3, h4, h5⟩)
   ·exact .inl (.inl h)
   ·by_cases hx : x = i
    ·subst hx; exact .inr ⟨h4, y, h2, by omega, h5⟩
    ·exact .inl (.inr ⟨x, y, by omega, h2, h3, h4, h5⟩)

theorem comA_has {p : List Ev} {q : Rel} (hq : q.length = p.length) {ord : List (List Int)} (ho : ∀ l ∈ ord, InEv p l) {a b : Nat} : ∀ k, k ≤ ord.length →
  (hasR (comA q ord k) a b = true ↔ hasR q a b = true ∨ ∃ i l, i < k ∧ ord[i]? = some l ∧ Co1 l a b)
 | 0, _ => by
  simp only [comA]
  constructor
  ·exact .inl
  ·rintro (h | ⟨x, y, h1, _⟩)
   ·exact h
   ·omega
 | k + 1, hk => by
  have ih := comA_has hq ho (a := a) (b := b) k (by omega)
  have hg : ord[k]? = some ord[k] := List.getElem?_eq_getElem (by omega)
  have hin : InEv p ord[k] := ho _ (List.getElem_mem _)
  rw [comA, hg, Option.getD_some, comB_has (fun j hj => by rw [comA_len, hq]; exact hin.num hj) _ (Nat.le_refl _), ih]
  constructor
  ·rintro ((h | ⟨i, l, h1, h2⟩) | ⟨x, y, h1, h2, h3, h4, h5⟩)
   ·exact .inl h
   ·exact .inr ⟨i, l, by omega, h2⟩
   ·exact .inr ⟨k, ord[k], by omega, hg, x, y, h2, h3, h4, h5⟩
  ·rintro (h | ⟨i, l, h1, h2, h3⟩)
   ·exact .inl (.inl h)
   ·by_cases hi : i = k
    ·subst hi
     rw [hg] at h2; cases h2
     obtain ⟨x, y, q1, q2, q3, q4⟩ := h3
     exact .inr ⟨x, y, by omega, q1, q2, q3, q4⟩
    ·exact .inl (.inr ⟨i, l, by omega, h2, h3⟩)

theorem comE_len {q : Rel} {r : Nat} {fr : Int} {l : List Int} : ∀ i, (comE q r fr l i).1.length = q.length
 | 0 => rfl
 | i + 1 => by
  simp only [comE]
  split
  ·rw [putR_len, comE_len i]
  ·exact comE_len i
theorem comE_flag {q : Rel} {r : Nat} {fr : Int} {l : List Int} : ∀ i, (comE q r fr l i).2 = true ↔ fr = -1 ∨ ∃ j, j < i ∧ numAt l j = fr
 | 0 => by simp [comE]
 | i + 1 => by
  simp only [comE, Bool.or_eq_true, decide_eq_true_eq]
  rw [comE_flag i]
  constructor
  ·rintro ((h | ⟨j, h1, h2⟩) | h)
   ·exact .inl h
   ·exact .inr ⟨j, by omega, h2⟩
   ·exact .inr ⟨i, by omega, h⟩
  ·rintro (h | ⟨j, h1, h2⟩)
   ·exact .inl (.inl h)
   ·by_cases hj : j = i
    ·subst hj; exact .inr h2
    ·exact .inl (.inr ⟨j, by omega, h2⟩)
theorem comE_has {q : Rel} {r : Nat} (hr : r < q.length) {fr : Int} {l : List Int} (hin : ∀ k, k < l.length → 0 ≤ numAt l k ∧ numAt l k < q.length) {a b : Nat} : ∀ i, i ≤ l.length →
  (hasR (comE q r fr l i).1 a b = true ↔ hasR q a b = true ∨ (a = r ∧ b ≠ r ∧ ∃ j, j < i ∧ numAt l j = b ∧ (fr = -1 ∨ ∃ k, k < j ∧ numAt l k = fr)))
 | 0, _ => by
  simp only [comE]
  constructor
  ·exact .inl
  ·rintro (h | ⟨_, _, j, h1, _⟩)
   ·exact h
   ·omega
 | i + 1, hi => by
  have ih := comE_has hr hin (a := a) (b := b) (fr := fr) i (by omega)
  have h0 := hin i (by omega)
  simp only [comE]
  split
  ·rename_i h
   rw [comE_flag] at h
   rw [hasR_put, ih, comE_len]
   constructor
   ·rintro ((h1 | ⟨h1, h2, j, h3, h4⟩) | ⟨h1, h2, h3⟩)
    ·exact .inl h1
    ·exact .inr ⟨h1, h2, j, by omega, h4⟩
    ·exact .inr ⟨h1, by omega, i, by omega, by omega, h.1⟩
   ·rintro (h1 | ⟨h1, h2, j, h3, h4, h5⟩)
    ·exact .inl (.inl h1)
    ·by_cases hj : j = i
     ·subst hj; exact .inr ⟨h1, hr, by omega⟩
     ·exact .inl (.inr ⟨h1, h2, j, by omega, h4, h5⟩)
  ·rename_i h
   rw [comE_flag] at h
   rw [ih]
   constructor
   ·rintro (h1 | ⟨h1, h2, j, h3, h4⟩)
    ·exact .inl h1
    ·exact .inr ⟨h1, h2, j, by omega, h4⟩
   ·rintro (h1 | ⟨h1, h2, j, h3, h4, h5⟩)
    ·exact .inl h1
    ·by_cases hj : j = i
     ·subst hj; exact absurd ⟨h5, fun e => h2 (Int.ofNat.inj (h4.symm.trans e))⟩ h
     ·exact .inr ⟨h1, h2, j, by omega, h4, h5⟩

theorem comD_len {p : List Ev} {e : Exec} : ∀ r, (comD p e r).length = p.length
 | 0 => by rw [comD, comA_len, List.length_replicate]
 | r + 1 => by
  simp only [comD]
  split
  ·rw [comE_len, comD1]
   split
   ·rw [putR_len, comD_len r]
   ·exact comD_len r
  ·exact comD_len r

/-- The events that have to do with one location: who read whom, who wrote ahead, who read ahead of a write. -/
def Com1 (p : List Ev) (e : Exec) (a b : Nat) : Prop := (∃ l ∈ e.ord, Co1 l a b) ∨ ((evAt p b).reads = true ∧ Rf e p.length a b) ∨ Fr1 p e a b

theorem comD_has {p : List Ev} (hp : POk p) {e : Exec} (hx : XOk p e) {a b : Nat} : ∀ n, n ≤ p.length →
  (hasR (comD p e n) a b = true ↔ (∃ l ∈ e.ord, Co1 l a b) ∨ ((evAt p b).reads = true ∧ Rf e n a b) ∨ (a < n ∧ Fr1 p e a b))
 | 0, _ => by
  rw [comD, comA_has (p := p) (by simp) (fun l hl => (hx.oin l hl).1) _ (Nat.le_refl _), hasR_zero]
  constructor
  ·rintro (h | ⟨i, l, h1, h2, h3⟩)
   ·cases h
   ·exact .inl ⟨l, List.mem_of_getElem? h2, h3⟩
  ·rintro (⟨l, h1, h2⟩ | ⟨_, h, _⟩ | ⟨h, _⟩)
   ·obtain ⟨i, hi, rfl⟩ := List.getElem_of_mem h1
    exact .inr ⟨i, _, hi, List.getElem?_eq_getElem hi, h2⟩
   ·omega
   ·omega
 | n + 1, hn => by
  have ih := comD_has hp hx (a := a) (b := b) n (by omega)
  have hfr := hx.fr n (by omega)
  obtain ⟨_, _, hoin, _⟩ := ordAt_in hp hx (r := n) (by omega)
  simp only [comD]
  split
  ·rename_i hrd
   have hd1 : hasR (comD1 (comD p e n) e n) a b = true ↔ hasR (comD p e n) a b = true ∨ (b = n ∧ frmAt e n = a) := by
    rw [comD1]
    split
    ·rename_i h0
     rw [hasR_put, comD_len]
     unfold frmAt at h0 ⊢
     constructor
     ·rintro (h | ⟨h1, h2, h3⟩)
      ·exact .inl h
      ·exact .inr ⟨h3, by omega⟩
     ·rintro (h | ⟨h1, h2⟩)
      ·exact .inl h
      ·exact .inr ⟨by omega, by omega, h1⟩
    ·rename_i h0
     constructor
     ·exact .inl
     ·rintro (h | ⟨h1, h2⟩)
      ·exact h
      ·omega
   have hl1 : (comD1 (comD p e n) e n).length = p.length := by
    rw [comD1]; split
    ·rw [putR_len, comD_len]
    ·exact comD_len n
   rw [comE_has (by rw [hl1]; omega) (fun k hk => by rw [hl1]; exact hoin.num hk) _ (Nat.le_refl _), hd1, ih]
   unfold Rf
   constructor
   ·rintro (((h | ⟨h1, h2, h3⟩ | ⟨h1, h2⟩) | ⟨rfl, h⟩) | ⟨rfl, h1, j, h2, h3, h4⟩)
    ·exact .inl h
    ·exact .inr (.inl ⟨h1, by omega, h3⟩)
    ·exact .inr (.inr ⟨by omega, h2⟩)
    ·exact .inr (.inl ⟨hrd, by omega, h⟩)
    ·exact .inr (.inr ⟨by omega, by omega, hrd, h1, j, h2, h3, h4⟩)
   ·rintro (h | ⟨h1, h2, h3⟩ | ⟨h1, h2⟩)
    ·exact .inl (.inl (.inl h))
    ·by_cases hb : b = n
     ·subst hb; exact .inl (.inr ⟨rfl, h3⟩)
     ·exact .inl (.inl (.inr (.inl ⟨h1, by omega, h3⟩)))
    ·by_cases ha : a = n
     ·subst ha
      obtain ⟨_, _, h4, j, h5, h6, h7⟩ := h2
      exact .inr ⟨rfl, h4, j, h5, h6, h7⟩
     ·exact .inl (.inl (.inr (.inr ⟨by omega, h2⟩)))
  ·rename_i hrd
   rw [ih]
   unfold Rf
   constructor
   ·rintro (h | ⟨h1, h2, h3⟩ | ⟨h1, h2⟩)
    ·exact .inl h
    ·exact .inr (.inl ⟨h1, by omega, h3⟩)
    ·exact .inr (.inr ⟨by omega, h2⟩)
   ·rintro (h | ⟨h1, h2, h3⟩ | ⟨h1, h2⟩)
    ·exact .inl h
    ·by_cases hb : b = n
     ·subst hb; exact absurd h1 hrd
     ·exact .inr (.inl ⟨h1, by omega, h3⟩)
    ·by_cases ha : a = n
     ·subst ha; exact absurd h2.2.1 hrd
     ·exact .inr (.inr ⟨by omega, h2⟩)

/-- What has seen what. -/
def Eco (p : List Ev) (e : Exec) : Nat → Nat → Prop := TG (Com1 p e)

theorem comP_iff {p : List Ev} (hp : POk p) {e : Exec} (hx : XOk p e) {a b : Nat} : hasR (comP p e) a b = true ↔ Eco p e a b := by
 rw [comP, closeR_iff (comD_ok hp hx _ (Nat.le_refl _))]
 refine TG.congr fun x y => ?_
 rw [comD_has hp hx _ (Nat.le_refl _)]
 unfold Com1
 constructor
 ·rintro (h | h | ⟨_, h⟩)
  ·exact .inl h
  ·exact .inr (.inl h)
  ·exact .inr (.inr h)
 ·rintro (h | h | h)
  ·exact .inl h
  ·exact .inr (.inl h)
  ·exact .inr (.inr ⟨h.1, h⟩)

/-! ### What is broken -/
/-- Each exchange stands directly behind the one that it read from. -/
def NextOk (p : List Ev) (e : Exec) : Prop := ∀ l ∈ e.ord, ∀ i, i < l.length → (evAt p (numAt l i).toNat).reads = true → frmAt e (numAt l i).toNat = frontAt l i
/-- Condition 2. -/
def Round (p : List Ev) (e : Exec) : Prop := ∃ a, TG (fun a b => Sb1 p a b ∨ Fo1 e.fen a b ∨ Rf e p.length a b) a a
/-- Condition 3. -/
def Cross (p : List Ev) (e : Exec) : Prop := (∃ a, Hb p e a a) ∨ ∃ a b, Hb p e a b ∧ Eco p e b a

theorem Round.rfOk {p : List Ev} {e : Exec} (h : ¬ Round p e) : RfOk p e := fun a ha => h ⟨a, ha.mono fun _ _ k => .inr (.inr k)⟩

theorem cross_iff {p : List Ev} (hp : POk p) (hm : Mono p) {e : Exec} (hx : XOk p e) (hac : RfOk p e) : (circleR (beforeP p e) || crossP p e) = true ↔ Cross p e := by
 unfold Cross
 rw [Bool.or_eq_true, circleR_iff]
 refine or_congr (exists_congr fun a => beforeP_iff hm hx hac) ?_
 unfold crossP
 simp only [List.any_eq_true, List.mem_range, Bool.and_eq_true]
 constructor
 ·rintro ⟨a, _, b, _, h1, h2⟩
  exact ⟨a, b, (beforeP_iff hm hx hac).1 h1, (comP_iff hp hx).1 h2⟩
 ·rintro ⟨a, b, h1, h2⟩
  have h1' := (beforeP_iff hm hx hac).2 h1
  have := (beforeP_ok hx).has h1'
  exact ⟨a, this.1, b, this.2, h1', (comP_iff hp hx).2 h2⟩

theorem next_iff {p : List Ev} {e : Exec} : e.ord.any (nextBad p e) = true ↔ ¬ NextOk p e := by
 unfold NextOk
 simp only [List.any_eq_true, nextBad, badAt, List.mem_range, Bool.and_eq_true, decide_eq_true_eq]
 constructor
 ·rintro ⟨l, hl, i, hi, h1, h2⟩ h
  exact h2 (h l hl i hi h1)
 ·intro h
  apply Decidable.byContradiction
  intro hn
  apply h
  intro l hl i hi hr
  apply Decidable.byContradiction
  intro h2
  exact hn ⟨l, hl, i, hi, hr, h2⟩

open Classical in
theorem brokenP_eq {p : List Ev} (hp : POk p) (hm : Mono p) {e : Exec} (hx : XOk p e) :
  brokenP p e = if Round p e then 2 else if Cross p e then 3 else if NextOk p e then 0 else 4 := by
 unfold brokenP
 by_cases h2 : Round p e
 ·rw [if_pos ((roundP_iff hx).2 h2), if_pos h2]
 ·rw [if_neg (fun h => h2 ((roundP_iff hx).1 h)), if_neg h2]
  have hac := Round.rfOk h2
  by_cases h3 : Cross p e
  ·rw [if_pos ((cross_iff hp hm hx hac).2 h3), if_pos h3]
  ·rw [if_neg (fun h => h3 ((cross_iff hp hm hx hac).1 h)), if_neg h3]
   by_cases h4 : NextOk p e
   ·rw [if_neg (fun h => next_iff.1 h h4), if_pos h4]
   ·rw [if_pos (next_iff.2 h4), if_neg h4]

/-- What is consistent. -/
structure Cons (p : List Ev) (e : Exec) : Prop where
 round : ¬ Round p e
 cross : ¬ Cross p e
 next : NextOk p e

theorem brokenP_zero {p : List Ev} (hp : POk p) (hm : Mono p) {e : Exec} (hx : XOk p e) : brokenP p e = 0 ↔ Cons p e := by
 rw [brokenP_eq hp hm hx]
 constructor
 ·intro h
  split at h
  ·cases h
  ·split at h
   ·cases h
   ·split at h
    ·exact ⟨by assumption, by assumption, by assumption⟩
    ·cases h
 ·intro ⟨h1, h2, h3⟩
  rw [if_neg h1, if_neg h2, if_pos h3]

end Go.EV

namespace Go.EV
open Go.Proofs

def Wd.R (s : Wd) (i : Nat) : Int := s.r[i]?.getD 0
def Wd.W (s : Wd) (i : Nat) : Int := s.w[i]?.getD 0
def Wd.K (s : Wd) (i : Nat) : Bool := s.k[i]?.getD false
def Wd.T (s : Wd) (i : Nat) : Bool := s.t[i]?.getD false
def numF (f : List Int) (i : Nat) : Int := f[i]?.getD 0

theorem getD_set {α : Type} {l : List α} {i j : Nat} {x d : α} (hi : i < l.length) : (l.set i x)[j]?.getD d = if j = i then x else l[j]?.getD d := by
 rw [List.getElem?_set]
 by_cases h : i = j
 ·subst h; simp [hi]
 ·have h' : ¬ j = i := fun e => h e.symm
  simp [h, h']

/-- What the words are so far: nothing wrong. -/
structure Wd.Inv (p : List Ev) (f : List Int) (s : Wd) : Prop where
 len : s.Len p.length
 k : ∀ i, s.K i = true → (evAt p i).reads = true ∧ ((numF f i = -1 ∧ s.R i = 0) ∨ ∃ w : Nat, numF f i = w ∧ s.T w = true ∧ s.R i = s.W w)
 n : ∀ i, s.K i = false → s.R i = 0
 t : ∀ i, s.T i = true → ((evAt p i).op.kind = 1 ∧ s.W i = (evAt p i).op.v) ∨ ((evAt p i).op.kind = 2 ∧ s.K i = true ∧ s.W i = IntKind.i64.wrap (s.R i + (evAt p i).op.v)) ∨ (((evAt p i).op.kind = 3 ∨ (evAt p i).op.kind = 4) ∧ s.W i = (evAt p i).op.w)

/-- More is known, nothing is taken back. -/
structure Wd.Le (s s' : Wd) : Prop where
 k : ∀ i, s.K i = true → s'.K i = true ∧ s'.R i = s.R i
 t : ∀ i, s.T i = true → s'.T i = true ∧ s'.W i = s.W i
theorem Wd.Le.refl (s : Wd) : s.Le s := ⟨fun _ h => ⟨h, rfl⟩, fun _ h => ⟨h, rfl⟩⟩
theorem Wd.Le.trans {a b c : Wd} (h : a.Le b) (k : b.Le c) : a.Le c :=
 ⟨fun i hi => ⟨(k.k i (h.k i hi).1).1, (k.k i (h.k i hi).1).2.trans (h.k i hi).2⟩, fun i hi => ⟨(k.t i (h.t i hi).1).1, (k.t i (h.t i hi).1).2.trans (h.t i hi).2⟩⟩

section
variable {p : List Ev} {f : List Int}

theorem wdRead_inv (hf : FromOk p f) {s : Wd} {i : Nat} (hi : i < p.length) (h : s.Inv p f) : (wdRead p f s i).Inv p f ∧ s.Le (wdRead p f s i) ∧
  (((evAt p i).reads = true ∧ (numF f i = -1 ∨ ∃ w : Nat, numF f i = w ∧ s.T w = true)) → (wdRead p f s i).K i = true) := by
 unfold wdRead
 have hl := h.len
 have hik : i < s.k.length := by rw [hl.k]; exact hi
 have hir : i < s.r.length := by rw [hl.r]; exact hi
 split
 ·rename_i hc
  simp only [Bool.and_eq_true, decide_eq_true_eq] at hc
  have hK : ∀ j, ({ s with k := s.k.set i true } : Wd).K j = if j = i then true else s.K j := fun j => getD_set hik
  refine ⟨⟨⟨hl.r, hl.w, by simp [hl.k], hl.t⟩, fun j hj => ?_, fun j hj => ?_, fun j hj => ?_⟩, ⟨fun j hj => ⟨?_, rfl⟩, fun j hj => ⟨hj, rfl⟩⟩, fun _ => ?_⟩
  ·rw [hK] at hj
   by_cases hji : j = i
   ·subst hji
    refine ⟨hc.1, .inl ⟨hc.2, ?_⟩⟩
    cases hk : s.K j with
    | false => exact h.n j hk
    | true =>
     rcases (h.k j hk).2 with ⟨_, h2⟩ | ⟨w, h1, _⟩
     ·exact h2
     ·have : numF f j = -1 := hc.2
      omega
   ·rw [if_neg hji] at hj; exact h.k j hj
  ·rw [hK] at hj
   by_cases hji : j = i
   ·rw [if_pos hji] at hj; cases hj
   ·rw [if_neg hji] at hj; exact h.n j hj
  ·rcases h.t j hj with h1 | ⟨h1, h2, h3⟩ | h1
   ·exact .inl h1
   ·refine .inr (.inl ⟨h1, ?_, h3⟩)
    rw [hK]; split
    ·rfl
    ·exact h2
   ·exact .inr (.inr h1)
  ·rw [hK]; split
   ·rfl
   ·exact hj
  ·rw [hK, if_pos rfl]
 ·rename_i hc
  split
  ·rename_i hc2
   simp only [Bool.and_eq_true, decide_eq_true_eq, not_and] at hc hc2
   have hne : numF f i ≠ -1 := hc hc2.1
   obtain ⟨w, hw⟩ : ∃ w : Nat, numF f i = w := by
    rcases hf.2 i hi hc2.1 with h1 | ⟨h1, _⟩
    ·exact absurd h1 hne
    ·exact ⟨(numF f i).toNat, by unfold numF; omega⟩
   have hwf : (f[i]?.getD 0).toNat = w := by unfold numF at hw; omega
   rw [hwf] at hc2
   rw [hwf]
   have hK : ∀ j, ({ s with r := s.r.set i (s.w[w]?.getD 0), k := s.k.set i true } : Wd).K j = if j = i then true else s.K j := fun j => getD_set hik
   have hR : ∀ j, ({ s with r := s.r.set i (s.w[w]?.getD 0), k := s.k.set i true } : Wd).R j = if j = i then s.W w else s.R j := fun j => getD_set hir
   have hR2 : ∀ j, s.K j = true → ({ s with r := s.r.set i (s.w[w]?.getD 0), k := s.k.set i true } : Wd).R j = s.R j := by
    intro j hj
    rw [hR]; split
    ·rename_i e; subst e
     rcases (h.k j hj).2 with ⟨h1, _⟩ | ⟨w', h1, _, h3⟩
     ·exact absurd h1 hne
     ·have : w' = w := by omega
      subst this; exact h3.symm
    ·rfl
   refine ⟨⟨⟨by simp [hl.r], hl.w, by simp [hl.k], hl.t⟩, fun j hj => ?_, fun j hj => ?_, fun j hj => ?_⟩, ⟨fun j hj => ⟨?_, hR2 j hj⟩, fun j hj => ⟨hj, rfl⟩⟩, fun _ => ?_⟩
   ·rw [hK] at hj
    rw [hR]
    by_cases hji : j = i
    ·subst hji
     rw [if_pos rfl]
     exact ⟨hc2.1, .inr ⟨w, hw, hc2.2, rfl⟩⟩
    ·rw [if_neg hji] at hj ⊢; exact h.k j hj
   ·rw [hK] at hj
    rw [hR]
    by_cases hji : j = i
    ·rw [if_pos hji] at hj; cases hj
    ·rw [if_neg hji] at hj ⊢; exact h.n j hj
   ·rcases h.t j hj with h1 | ⟨h1, h2, h3⟩ | h1
    ·exact .inl h1
    ·refine .inr (.inl ⟨h1, ?_, ?_⟩)
     ·rw [hK]; split
      ·rfl
      ·exact h2
     ·rw [hR2 j h2]; exact h3
    ·exact .inr (.inr h1)
   ·rw [hK]; split
    ·rfl
    ·exact hj
   ·rw [hK, if_pos rfl]
  ·rename_i hc2
   refine ⟨h, Wd.Le.refl s, fun ⟨h1, h2⟩ => ?_⟩
   exfalso
   simp only [Bool.and_eq_true, decide_eq_true_eq, not_and] at hc hc2
   rcases h2 with h2 | ⟨w, h2, h3⟩
   ·exact hc h1 h2
   ·apply hc2 h1
    have : (f[i]?.getD 0).toNat = w := by unfold numF at h2; omega
    rw [this]; exact h3

theorem wdWrite_inv {s : Wd} {i : Nat} (hi : i < p.length) (h : s.Inv p f) : (wdWrite p s i).Inv p f ∧ s.Le (wdWrite p s i) ∧
  (((evAt p i).op.kind = 1 ∨ ((evAt p i).op.kind = 2 ∧ s.K i = true) ∨ (evAt p i).op.kind = 3 ∨ (evAt p i).op.kind = 4) → (wdWrite p s i).T i = true) ∧ (∀ j, (wdWrite p s i).K j = s.K j) := by
 have hl := h.len
 have hiw : i < s.w.length := by rw [hl.w]; exact hi
 have hit : i < s.t.length := by rw [hl.t]; exact hi
 have key : ∀ (x : Int) (b : Bool), (∀ _ : s.T i = true, b = true ∧ x = s.W i) →
   (b = true → ((evAt p i).op.kind = 1 ∧ x = (evAt p i).op.v) ∨ ((evAt p i).op.kind = 2 ∧ s.K i = true ∧ x = IntKind.i64.wrap (s.R i + (evAt p i).op.v)) ∨ (((evAt p i).op.kind = 3 ∨ (evAt p i).op.kind = 4) ∧ x = (evAt p i).op.w)) →
   ({ s with w := s.w.set i x, t := s.t.set i b } : Wd).Inv p f ∧ s.Le { s with w := s.w.set i x, t := s.t.set i b } ∧ ({ s with w := s.w.set i x, t := s.t.set i b } : Wd).T i = b := by
  intro x b h1 h2
  have hT : ∀ j, ({ s with w := s.w.set i x, t := s.t.set i b } : Wd).T j = if j = i then b else s.T j := fun j => getD_set hit
  have hW : ∀ j, ({ s with w := s.w.set i x, t := s.t.set i b } : Wd).W j = if j = i then x else s.W j := fun j => getD_set hiw
  have hle : s.Le { s with w := s.w.set i x, t := s.t.set i b } := by
   refine ⟨fun j hj => ⟨hj, rfl⟩, fun j hj => ?_⟩
   rw [hT, hW]
   by_cases hji : j = i
   ·subst hji; simp only [if_true]; exact h1 hj
   ·rw [if_neg hji, if_neg hji]; exact ⟨hj, rfl⟩
  refine ⟨⟨⟨hl.r, by simp [hl.w], hl.k, by simp [hl.t]⟩, fun j hj => ?_, h.n, fun j hj => ?_⟩, hle, by rw [hT, if_pos rfl]⟩
  ·obtain ⟨q1, q2⟩ := h.k j hj
   refine ⟨q1, q2.imp id fun ⟨w, e1, e2, e3⟩ => ⟨w, e1, (hle.t w e2).1, ?_⟩⟩
   rw [(hle.t w e2).2]; exact e3
  ·rw [hT] at hj
   rw [hW]
   by_cases hji : j = i
   ·subst hji; rw [if_pos rfl] at hj ⊢; exact h2 hj
   ·rw [if_neg hji] at hj ⊢; exact h.t j hj
 unfold wdWrite
 split
 ·rename_i hk
  obtain ⟨q1, q2, q3⟩ := key (evAt p i).op.v true (fun ht => ⟨rfl, by rcases h.t i ht with ⟨_, e⟩ | ⟨e, _⟩ | ⟨e, _⟩ <;> omega⟩) (fun _ => .inl ⟨hk, rfl⟩)
  exact ⟨q1, q2, fun _ => q3, fun _ => rfl⟩
 ·rename_i hk1
  split
  ·rename_i hk
   obtain ⟨q1, q2, q3⟩ := key (IntKind.i64.wrap (s.r[i]?.getD 0 + (evAt p i).op.v)) (s.k[i]?.getD false)
    (fun ht => by
     rcases h.t i ht with ⟨e, _⟩ | ⟨e, e2, e3⟩ | ⟨e, _⟩
     ·omega
     ·exact ⟨e2, e3.symm⟩
     ·omega) (fun hb => .inr (.inl ⟨hk, hb, rfl⟩))
   refine ⟨q1, q2, fun hh => ?_, fun _ => rfl⟩
   rw [q3]
   rcases hh with e | ⟨_, e⟩ | e | e
   ·omega
   ·exact e
   ·omega
   ·omega
  ·rename_i hk2
   split
   ·rename_i hk
    obtain ⟨q1, q2, q3⟩ := key (evAt p i).op.w true (fun ht => ⟨rfl, by rcases h.t i ht with ⟨e, _⟩ | ⟨e, _⟩ | ⟨_, e⟩ <;> omega⟩) (fun _ => .inr (.inr ⟨hk, rfl⟩))
    exact ⟨q1, q2, fun _ => q3, fun _ => rfl⟩
   ·rename_i hk
    refine ⟨h, Wd.Le.refl s, fun hh => ?_, fun _ => rfl⟩
    omega

/-- A row of steps: what it brings. -/
theorem wdRow_inv (hf : FromOk p f) {s : Wd} (h : s.Inv p f) : ∀ m, m ≤ p.length → (wdRow p f s m).Inv p f ∧ s.Le (wdRow p f s m) ∧
  (∀ i, i < m → ((evAt p i).reads = true ∧ (numF f i = -1 ∨ ∃ w : Nat, numF f i = w ∧ s.T w = true)) → (wdRow p f s m).K i = true) ∧
  (∀ i, i < m → ((evAt p i).op.kind = 1 ∨ ((evAt p i).op.kind = 2 ∧ (wdRow p f s m).K i = true) ∨ (evAt p i).op.kind = 3 ∨ (evAt p i).op.kind = 4) → (wdRow p f s m).T i = true) ∧
  (∀ i, (wdRow p f s m).K i = true → i < m ∨ s.K i = true)
 | 0, _ => ⟨h, Wd.Le.refl s, fun i hi => by omega, fun i hi => by omega, fun i hi => .inr hi⟩
 | m + 1, hm => by
  obtain ⟨h1, h2, h3, h4, h5⟩ := wdRow_inv hf h m (by omega)
  obtain ⟨r1, r2, r3⟩ := wdRead_inv hf (i := m) (by omega) h1
  obtain ⟨w1, w2, w3, w4⟩ := wdWrite_inv (i := m) (by omega) r1
  have hle := (h2.trans r2).trans w2
  have hkr : ∀ j, j ≠ m → (wdRead p f (wdRow p f s m) m).K j = (wdRow p f s m).K j := by
   intro j hj
   have hik : m < (wdRow p f s m).k.length := by rw [h1.len.k]; omega
   unfold wdRead
   split
   ·show ((wdRow p f s m).k.set m true)[j]?.getD false = _
    rw [getD_set hik, if_neg hj]; rfl
   ·split
    ·show ((wdRow p f s m).k.set m true)[j]?.getD false = _
     rw [getD_set hik, if_neg hj]; rfl
    ·rfl
  refine ⟨w1, hle, fun i hi hr => ?_, fun i hi hk => ?_, fun i hi => ?_⟩
  ·by_cases him : i = m
   ·subst him
    show (wdWrite p (wdRead p f (wdRow p f s i) i) i).K i = true
    rw [w4]
    refine r3 ⟨hr.1, hr.2.imp id fun ⟨w, e1, e2⟩ => ⟨w, e1, (h2.t w e2).1⟩⟩
   ·exact ((r2.trans w2).k i (h3 i (by omega) hr)).1
  ·by_cases him : i = m
   ·subst him
    refine w3 (hk.imp id fun e => e.imp (fun e => ⟨e.1, ?_⟩) id)
    have := e.2
    rw [show wdRow p f s (i + 1) = wdWrite p (wdRead p f (wdRow p f s i) i) i from rfl, w4] at this
    exact this
   ·refine ((r2.trans w2).t i (h4 i (by omega) (hk.imp id fun e => e.imp (fun e => ⟨e.1, ?_⟩) id))).1
    have := e.2
    rw [show wdRow p f s (m + 1) = wdWrite p (wdRead p f (wdRow p f s m) m) m from rfl, w4, hkr i him] at this
    exact this
  ·have hi' : (wdWrite p (wdRead p f (wdRow p f s m) m) m).K i = true := hi
   rw [w4] at hi'
   by_cases him : i = m
   ·exact .inl (by omega)
   ·rw [hkr i him] at hi'
    rcases h5 i hi' with h | h
    ·exact .inl (by omega)
    ·exact .inr h

theorem wd0_inv : (wd0 p.length).Inv p f := by
 have hT : ∀ i, (wd0 p.length).T i = false := fun i => by simp only [Wd.T, wd0, List.getElem?_replicate]; split <;> rfl
 have hK : ∀ i, (wd0 p.length).K i = false := fun i => by simp only [Wd.K, wd0, List.getElem?_replicate]; split <;> rfl
 refine ⟨wd0_len _, fun i h => ?_, fun i _ => ?_, fun i h => ?_⟩
 ·rw [hK] at h; cases h
 ·simp only [Wd.R, wd0, List.getElem?_replicate]; split <;> rfl
 ·rw [hT] at h; cases h

theorem wdIter_inv (hf : FromOk p f) : ∀ k, (wdIter p f k).Inv p f
 | 0 => wd0_inv
 | k + 1 => (wdRow_inv hf (wdIter_inv hf k) _ (Nat.le_refl _)).1

/-- Events read from events that write. -/
def SrcOk (p : List Ev) (f : List Int) : Prop := ∀ i w : Nat, i < p.length → (evAt p i).reads = true → numF f i = w → w < p.length ∧ 1 ≤ (evAt p w).op.kind ∧ (evAt p w).op.kind ≤ 4

theorem unknown_back (hf : FromOk p f) (hs : SrcOk p f) : ∀ (m i : Nat), i < p.length → (evAt p i).reads = true → (wdIter p f (m + 1)).K i = false →
  ∃ g : Nat → Nat, g 0 = i ∧ (∀ j, j ≤ m → g j < p.length) ∧ ∀ j, j < m → numF f (g j) = (g (j + 1) : Nat)
 | 0, i, hi, _, _ => ⟨fun _ => i, rfl, fun _ _ => hi, fun j hj => by omega⟩
 | m + 1, i, hi, hr, hk => by
  obtain ⟨_, _, h3, _, _⟩ := wdRow_inv hf (wdIter_inv hf (m + 1)) p.length (Nat.le_refl _)
  obtain ⟨_, _, _, k4, _⟩ := wdRow_inv hf (wdIter_inv hf m) p.length (Nat.le_refl _)
  have hn : numF f i ≠ -1 := fun e => by
   have := h3 i hi ⟨hr, .inl e⟩
   rw [show wdRow p f (wdIter p f (m + 1)) p.length = wdIter p f (m + 1 + 1) from rfl, hk] at this; cases this
  obtain ⟨w, hw⟩ : ∃ w : Nat, numF f i = w := by
   rcases hf.2 i hi hr with h1 | ⟨h1, _⟩
   ·exact absurd h1 hn
   ·exact ⟨(numF f i).toNat, by unfold numF; omega⟩
  obtain ⟨hwl, hk1, hk4⟩ := hs i w hi hr hw
  have hT : (wdIter p f (m + 1)).T w = false := by
   cases ht : (wdIter p f (m + 1)).T w with
   | false => rfl
   | true =>
    have := h3 i hi ⟨hr, .inr ⟨w, hw, ht⟩⟩
    rw [show wdRow p f (wdIter p f (m + 1)) p.length = wdIter p f (m + 1 + 1) from rfl, hk] at this; cases this
  have hk2 : (evAt p w).op.kind = 2 := by
   apply Decidable.byContradiction; intro h2
   have := k4 w hwl (by omega)
   rw [show wdRow p f (wdIter p f m) p.length = wdIter p f (m + 1) from rfl, hT] at this; cases this
  have hKw : (wdIter p f (m + 1)).K w = false := by
   cases ht : (wdIter p f (m + 1)).K w with
   | false => rfl
   | true =>
    have := k4 w hwl (.inr (.inl ⟨hk2, ht⟩))
    rw [show wdRow p f (wdIter p f m) p.length = wdIter p f (m + 1) from rfl, hT] at this; cases this
  obtain ⟨g, g1, g2, g3⟩ := unknown_back hf hs m w hwl (by simp [Ev.reads, hk2]) hKw
  refine ⟨fun j => if j = 0 then i else g (j - 1), rfl, fun j hj => ?_, fun j hj => ?_⟩
  ·by_cases h0 : j = 0
   ·simp [h0, hi]
   ·simp only [h0, if_false]; exact g2 _ (by omega)
  ·by_cases h0 : j = 0
   ·subst h0; simpa [g1] using hw
   ·have := g3 (j - 1) (by omega)
    rw [show j - 1 + 1 = j by omega] at this
    simpa [h0] using this

/-- What the words of an execution are. -/
structure Words (p : List Ev) (f : List Int) (R W : Nat → Int) : Prop where
 out : ∀ i, i < p.length → (evAt p i).reads = false → R i = 0
 init : ∀ i, i < p.length → (evAt p i).reads = true → numF f i = -1 → R i = 0
 from_ : ∀ i w : Nat, i < p.length → (evAt p i).reads = true → numF f i = w → R i = W w
 store : ∀ i, i < p.length → (evAt p i).op.kind = 1 → W i = (evAt p i).op.v
 add : ∀ i, i < p.length → (evAt p i).op.kind = 2 → W i = IntKind.i64.wrap (R i + (evAt p i).op.v)
 cas : ∀ i, i < p.length → ((evAt p i).op.kind = 3 ∨ (evAt p i).op.kind = 4) → W i = (evAt p i).op.w

theorem words_known (hf : FromOk p f) (hs : SrcOk p f) (hac : ∀ a, ¬ TG (fun a b => b < p.length ∧ numF f b = (a : Nat)) a a) {i : Nat} (hi : i < p.length) (hr : (evAt p i).reads = true) : (wordsP p f).K i = true := by
 cases hk : (wordsP p f).K i with
 | true => rfl
 | false =>
  exfalso
  obtain ⟨g, g1, g2, g3⟩ := unknown_back hf hs p.length i hi hr hk
  have := way_len (R := fun a b => a < p.length ∧ numF f a = (b : Nat)) (n := p.length) (m := p.length) (f := g) (fun a ha => ?_) (fun j hj => ⟨g2 j (by omega), g3 j hj⟩) g2
  ·omega
  ·have key : ∀ a b, TG (fun a b => a < p.length ∧ numF f a = (b : Nat)) a b → TG (fun a b => b < p.length ∧ numF f b = (a : Nat)) b a := by
    intro a b h
    induction h with
    | one h => exact .one h
    | more h _ ih => exact ih.trans (.one h)
   exact hac a (key a a ha)

theorem words_ok (hf : FromOk p f) (hs : SrcOk p f) (hac : ∀ a, ¬ TG (fun a b => b < p.length ∧ numF f b = (a : Nat)) a a) : Words p f (wordsP p f).R (wordsP p f).W := by
 have hinv := wdIter_inv hf (p.length + 1)
 have hT : ∀ i, i < p.length → ((evAt p i).op.kind = 1 ∨ ((evAt p i).op.kind = 2 ∧ (wordsP p f).K i = true) ∨ (evAt p i).op.kind = 3 ∨ (evAt p i).op.kind = 4) → (wordsP p f).T i = true :=
  (wdRow_inv hf (wdIter_inv hf p.length) _ (Nat.le_refl _)).2.2.2.1
 refine ⟨fun i hi hr => ?_, fun i hi hr h0 => ?_, fun i w hi hr hw => ?_, fun i hi hk => ?_, fun i hi hk => ?_, fun i hi hk => ?_⟩
 ·refine hinv.n i ?_
  cases hk : (wdIter p f (p.length + 1)).K i with
  | false => rfl
  | true => rw [(hinv.k i hk).1] at hr; cases hr
 ·rcases (hinv.k i (words_known hf hs hac hi hr)).2 with ⟨_, h⟩ | ⟨w, h, _⟩
  ·exact h
  ·omega
 ·rcases (hinv.k i (words_known hf hs hac hi hr)).2 with ⟨h, _⟩ | ⟨w', h, _, h3⟩
  ·omega
  ·have : w' = w := by omega
   subst this; exact h3
 ·rcases hinv.t i (hT i hi (.inl hk)) with ⟨_, h⟩ | ⟨h, _⟩ | ⟨h, _⟩
  ·exact h
  ·omega
  ·omega
 ·have hr : (evAt p i).reads = true := by simp [Ev.reads, hk]
  rcases hinv.t i (hT i hi (.inr (.inl ⟨hk, words_known hf hs hac hi hr⟩))) with ⟨h, _⟩ | ⟨_, _, h⟩ | ⟨h, _⟩
  ·omega
  ·exact h
  ·omega
 ·rcases hinv.t i (hT i hi (.inr (.inr hk))) with ⟨h, _⟩ | ⟨h, _⟩ | ⟨_, h⟩
  ·omega
  ·omega
  ·exact h

/-- What follows along reading, holds. -/
theorem rf_ind {n : Nat} {f : Nat → Int} (hlt : ∀ i, i < n → f i < n) (hac : ∀ a, ¬ TG (fun a b => b < n ∧ f b = (a : Nat)) a a) (C : Nat → Prop) (h : ∀ i, i < n → (∀ w : Nat, f i = w → C w) → C i) : ∀ i, i < n → C i := by
 intro i hi
 apply Classical.byContradiction; intro hn
 have step : ∀ x : { i : Nat // i < n ∧ ¬ C i }, ∃ y : { i : Nat // i < n ∧ ¬ C i }, f x.1 = (y.1 : Nat) := by
  intro ⟨x, hx, hc⟩
  apply Classical.byContradiction; intro hno
  refine hc (h x hx fun w hw => ?_)
  apply Classical.byContradiction; intro hcw
  exact hno ⟨⟨w, by have := hlt x hx; omega, hcw⟩, hw⟩
 have hg : ∃ g : { i : Nat // i < n ∧ ¬ C i } → { i : Nat // i < n ∧ ¬ C i }, ∀ x, f x.1 = ((g x).1 : Nat) := ⟨fun x => Classical.choose (step x), fun x => Classical.choose_spec (step x)⟩
 obtain ⟨g, hg⟩ := hg
 let it : Nat → { i : Nat // i < n ∧ ¬ C i } := fun k => Nat.rec ⟨i, hi, hn⟩ (fun _ x => g x) k
 have := way_len (R := fun a b => a < n ∧ f a = (b : Nat)) (n := n) (m := n) (f := fun k => (it k).1) (fun a ha => ?_) (fun j hj => ⟨(it j).2.1, hg (it j)⟩) (fun j _ => (it j).2.1)
 ·omega
 ·have key : ∀ a b, TG (fun a b => a < n ∧ f a = (b : Nat)) a b → TG (fun a b => b < n ∧ f b = (a : Nat)) b a := by
   intro a b h
   induction h with
   | one h => exact .one h
   | more h _ ih => exact ih.trans (.one h)
  exact hac a (key a a ha)

/-- The words are told by what they are. -/
theorem Words.uniq (hf : FromOk p f) (hs : SrcOk p f) (hac : ∀ a, ¬ TG (fun a b => b < p.length ∧ numF f b = (a : Nat)) a a) (hlt : ∀ i, i < p.length → numF f i < p.length) {R W R' W' : Nat → Int} (h : Words p f R W) (h' : Words p f R' W') :
  ∀ i, i < p.length → R i = R' i ∧ (1 ≤ (evAt p i).op.kind → (evAt p i).op.kind ≤ 4 → W i = W' i) := by
 refine rf_ind (f := numF f) hlt hac _ fun i hi ih => ?_
 have hR : R i = R' i := by
  cases hr : (evAt p i).reads with
  | false => rw [h.out i hi hr, h'.out i hi hr]
  | true =>
   rcases hf.2 i hi hr with h0 | ⟨h0, h1⟩
   ·rw [h.init i hi hr h0, h'.init i hi hr h0]
   ·obtain ⟨w, hw⟩ : ∃ w : Nat, numF f i = w := ⟨(numF f i).toNat, by unfold numF; omega⟩
    obtain ⟨q1, q2, q3⟩ := hs i w hi hr hw
    rw [h.from_ i w hi hr hw, h'.from_ i w hi hr hw]
    exact (ih w hw).2 q2 q3
 refine ⟨hR, fun h1 h4 => ?_⟩
 by_cases k1 : (evAt p i).op.kind = 1
 ·rw [h.store i hi k1, h'.store i hi k1]
 ·by_cases k2 : (evAt p i).op.kind = 2
  ·rw [h.add i hi k2, h'.add i hi k2, hR]
  ·rw [h.cas i hi (by omega), h'.cas i hi (by omega)]

end
end Go.EV

namespace Go.EV
open Go.Proofs

/-! ### Picked numbers -/
theorem pickI_asc (n : Nat) (f : Nat → Bool) : (pickI n f).Pairwise (· < ·) := by
 unfold pickI
 rw [List.pairwise_map]
 refine List.Pairwise.imp (R := fun a b : Nat => a < b) (fun h => by omega) ?_
 exact List.Pairwise.filter _ List.pairwise_lt_range

theorem asc_num {l : List Int} (h : l.Pairwise (· < ·)) {i j : Nat} (hi : i < l.length) (hj : j < l.length) (e : numAt l i = numAt l j) : i = j := by
 have hp := List.pairwise_iff_getElem.1 h
 simp only [numAt, List.getElem?_eq_getElem hi, List.getElem?_eq_getElem hj, Option.getD_some] at e
 rcases Nat.lt_trichotomy i j with h1 | h1 | h1
 ·have := hp i j hi hj h1; omega
 ·exact h1
 ·have := hp j i hj hi h1; omega

theorem numAt_eq {l : List Int} {i : Nat} (hi : i < l.length) : numAt l i = l[i] := by simp [numAt, hi]
theorem mem_numAt {l : List Int} {x : Int} : x ∈ l ↔ ∃ i, i < l.length ∧ numAt l i = x := by
 constructor
 ·intro h
  obtain ⟨i, hi, rfl⟩ := List.getElem_of_mem h
  exact ⟨i, hi, numAt_eq hi⟩
 ·rintro ⟨i, hi, rfl⟩
  rw [numAt_eq hi]; exact List.getElem_mem hi

/-! ### Which events write -/
def dnAt (e : List Bool) (i : Nat) : Bool := e[i]?.getD false

theorem doneB_get (p : List Ev) (i : Nat) (hi : i < p.length) : ∀ m, m ≤ p.length → dnAt (doneB p m) i = (decide (i < m) && (decide ((evAt p i).op.kind = 1) || decide ((evAt p i).op.kind = 2)))
 | 0, _ => by simp [doneB, dnAt, hi]
 | m + 1, hm => by
  have ih := doneB_get p i hi m (by omega)
  unfold dnAt at ih ⊢
  rw [doneB, getD_set (by rw [doneB_len]; omega), ih]
  by_cases h : i = m
  ·subst h; simp
  ·have : decide (i < m + 1) = decide (i < m) := by rw [decide_eq_decide]; omega
   rw [if_neg h, this]

theorem mem_freeP {p : List Ev} {i : Nat} : (i : Int) ∈ freeP p ↔ i < p.length ∧ ((evAt p i).op.kind = 3 ∨ (evAt p i).op.kind = 4) := by
 rw [freeP, mem_pickI]
 constructor
 ·rintro ⟨j, h1, h2, h3⟩
  have : j = i := by omega
  subst this
  exact ⟨h1, by simpa using h2⟩
 ·rintro ⟨h1, h2⟩; exact ⟨i, h1, by simpa using h2, rfl⟩

theorem doneK_get (p : List Ev) (set i : Nat) (hi : i < p.length) : ∀ k, k ≤ (freeP p).length →
  (∀ j, j < k → numAt (freeP p) j = i → dnAt (doneK p set k) i = set.testBit j) ∧ ((∀ j, j < k → numAt (freeP p) j ≠ i) → dnAt (doneK p set k) i = (decide ((evAt p i).op.kind = 1) || decide ((evAt p i).op.kind = 2)))
 | 0, _ => ⟨fun j hj => by omega, fun _ => by rw [doneK, doneB_get p i hi _ (Nat.le_refl _)]; simp [hi]⟩
 | k + 1, hk => by
  obtain ⟨h1, h2⟩ := doneK_get p set i hi k (by omega)
  have hin : (numAt (freeP p) k) ∈ freeP p := mem_numAt.2 ⟨k, by omega, rfl⟩
  obtain ⟨w, hw1, _, hw2⟩ := mem_pickI.1 hin
  have hlen : (numAt (freeP p) k).toNat < (doneK p set k).length := by rw [doneK_len]; omega
  unfold dnAt at h1 h2 ⊢
  rw [doneK, getD_set hlen]
  constructor
  ·intro j hj he
   by_cases hjk : j = k
   ·subst hjk; rw [if_pos (by omega)]
   ·have hne : numAt (freeP p) j ≠ numAt (freeP p) k := fun e => hjk (asc_num (pickI_asc _ _) (show j < (freeP p).length by omega) (show k < (freeP p).length by omega) e)
    rw [if_neg (by omega)]
    exact h1 j (by omega) he
  ·intro hn
   have := hn k (by omega)
   rw [if_neg (by omega)]
   exact h2 fun j hj => hn j (by omega)

/-- Bits in a number. -/
def bitsN (f : Nat → Bool) : Nat → Nat
 | 0 => 0
 | k + 1 => bitsN f k ||| (if f k then 2 ^ k else 0)
theorem bitsN_lt (f : Nat → Bool) : ∀ k, bitsN f k < 2 ^ k
 | 0 => by simp [bitsN]
 | k + 1 => by
  have := bitsN_lt f k
  rw [bitsN]
  refine Nat.or_lt_two_pow (by rw [Nat.pow_succ]; omega) ?_
  split
  ·rw [Nat.pow_succ]; have := Nat.two_pow_pos k; omega
  ·exact Nat.two_pow_pos _
theorem bitsN_get (f : Nat → Bool) (j : Nat) : ∀ k, (bitsN f k).testBit j = (decide (j < k) && f j)
 | 0 => by simp [bitsN]
 | k + 1 => by
  rw [bitsN, Nat.testBit_or, bitsN_get f j k]
  by_cases h : j = k
  ·subst h
   cases f j <;> simp
  ·have h2 : decide (j < k + 1) = decide (j < k) := by rw [decide_eq_decide]; omega
   rw [h2]
   have h3 : (if f k then 2 ^ k else 0).testBit j = false := by
    split
    ·rw [Nat.testBit_two_pow]; simp; omega
    ·simp
   rw [h3, Bool.or_false]

theorem dnAt_ext {a b : List Bool} (hl : a.length = b.length) (h : ∀ i, i < a.length → dnAt a i = dnAt b i) : a = b := by
 refine List.ext_getElem hl fun i h1 h2 => ?_
 have := h i h1
 simpa [dnAt, h1, h2] using this

theorem mem_donesP {p : List Ev} {dn : List Bool} : dn ∈ donesP p ↔ dn.length = p.length ∧ ∀ i, i < p.length →
  (((evAt p i).op.kind = 1 ∨ (evAt p i).op.kind = 2) → dnAt dn i = true) ∧ (dnAt dn i = true → 1 ≤ (evAt p i).op.kind ∧ (evAt p i).op.kind ≤ 4) := by
 have hval : ∀ (set i : Nat), i < p.length → (∀ j, j < (freeP p).length → numAt (freeP p) j = i → dnAt (doneOf p set) i = set.testBit j) ∧ ((evAt p i).op.kind ≠ 3 → (evAt p i).op.kind ≠ 4 → dnAt (doneOf p set) i = (decide ((evAt p i).op.kind = 1) || decide ((evAt p i).op.kind = 2))) := by
  intro set i hi
  obtain ⟨h1, h2⟩ := doneK_get p set i hi _ (Nat.le_refl _)
  refine ⟨h1, fun k3 k4 => h2 fun j hj he => ?_⟩
  have : (i : Int) ∈ freeP p := mem_numAt.2 ⟨j, hj, he⟩
  rcases (mem_freeP.1 this).2 with h | h
  ·exact k3 h
  ·exact k4 h
 constructor
 ·intro h
  obtain ⟨set, hs, rfl⟩ := List.mem_map.1 h
  refine ⟨doneOf_len p set, fun i hi => ?_⟩
  obtain ⟨h1, h2⟩ := hval set i hi
  constructor
  ·rintro (hk | hk)
   ·rw [h2 (by omega) (by omega)]; simp [hk]
   ·rw [h2 (by omega) (by omega)]; simp [hk]
  ·intro hd
   by_cases k3 : (evAt p i).op.kind = 3
   ·omega
   ·by_cases k4 : (evAt p i).op.kind = 4
    ·omega
    ·rw [h2 k3 k4] at hd
     simp only [Bool.or_eq_true, decide_eq_true_eq] at hd
     omega
 ·rintro ⟨hl, h⟩
  refine List.mem_map.2 ⟨bitsN (fun j => dnAt dn (numAt (freeP p) j).toNat) (freeP p).length, List.mem_range.2 (bitsN_lt _ _), ?_⟩
  refine dnAt_ext (by rw [doneOf_len, hl]) fun i hi => ?_
  rw [doneOf_len] at hi
  obtain ⟨h1, h2⟩ := hval (bitsN (fun j => dnAt dn (numAt (freeP p) j).toNat) (freeP p).length) i hi
  by_cases hf : (i : Int) ∈ freeP p
  ·obtain ⟨j, hj, he⟩ := mem_numAt.1 hf
   rw [h1 j hj he, bitsN_get]
   simp [hj, he]
  ·have h34 : (evAt p i).op.kind ≠ 3 ∧ (evAt p i).op.kind ≠ 4 := ⟨fun e => hf (mem_freeP.2 ⟨hi, .inl e⟩), fun e => hf (mem_freeP.2 ⟨hi, .inr e⟩)⟩
   rw [h2 h34.1 h34.2]
   have := h i hi
   cases hd : dnAt dn i with
   | true =>
    have := this.2 hd
    simp only [Bool.or_eq_true, decide_eq_true_eq]; omega
   | false =>
    simp only [Bool.or_eq_false_iff, decide_eq_false_iff_not]
    refine ⟨fun e => ?_, fun e => ?_⟩
    ·rw [this.1 (.inl e)] at hd; cases hd
    ·rw [this.1 (.inr e)] at hd; cases hd

/-! ### Orders that keep each thread's -/
/-- Each thread's events stand in their order. -/
def Keeps (p : List Ev) (m : List Int) : Prop := m.Pairwise fun x y => thI p x = thI p y → x < y

theorem perm_pick {l : List Int} {i : Nat} (hi : i < l.length) : l.Perm (l[i] :: l.eraseIdx i) := by
 have h2 : l = l.take i ++ l[i] :: l.drop (i + 1) := by rw [List.getElem_cons_drop, List.take_append_drop]
 rw [List.eraseIdx_eq_take_drop_succ]
 conv => lhs; rw [h2]
 exact List.perm_middle

theorem mem_mergesN {p : List Ev} : ∀ (n : Nat) (l m : List Int), l.length = n → l.Pairwise (· < ·) → (m ∈ mergesN p n l ↔ m.Perm l ∧ Keeps p m)
 | 0, l, m, hl, _ => by
  have : l = [] := List.length_eq_zero_iff.1 hl
  subst this
  simp only [mergesN, List.mem_singleton, List.perm_nil]
  constructor
  ·rintro rfl; exact ⟨rfl, List.Pairwise.nil⟩
  ·exact fun h => h.1
 | n + 1, l, m, hl, ha => by
  have hp := List.pairwise_iff_getElem.1 ha
  simp only [mergesN, List.mem_flatMap, List.mem_range]
  constructor
  ·rintro ⟨i, hi, hm⟩
   have hil : i < l.length := by omega
   split at hm
   ·exact absurd hm List.not_mem_nil
   ·rename_i hb
    obtain ⟨m', hm', rfl⟩ := List.mem_map.1 hm
    obtain ⟨h1, h2⟩ := (mem_mergesN n (l.eraseIdx i) m' (by rw [List.length_eraseIdx_of_lt hil]; omega) (ha.sublist (List.eraseIdx_sublist ..))).1 hm'
    rw [numAt_eq hil]
    refine ⟨(List.Perm.cons _ h1).trans (perm_pick hil).symm, List.pairwise_cons.2 ⟨fun y hy hth => ?_, h2⟩⟩
    have hy2 : y ∈ l.eraseIdx i := h1.mem_iff.1 hy
    rw [List.eraseIdx_eq_take_drop_succ, List.mem_append] at hy2
    rcases hy2 with hy2 | hy2
    ·exfalso
     apply hb
     rw [blockedAt, List.any_eq_true]
     exact ⟨y, hy2, by rw [numAt_eq hil, decide_eq_true_eq]; exact hth.symm⟩
    ·obtain ⟨j, hj, rfl⟩ := List.getElem_of_mem hy2
     rw [List.getElem_drop]
     exact hp i _ hil _ (by omega)
  ·rintro ⟨h1, h2⟩
   rcases m with _ | ⟨x, m'⟩
   ·have := h1.length_eq; simp at this; omega
   ·have hx : x ∈ l := h1.mem_iff.1 (List.mem_cons_self ..)
    obtain ⟨i, hi, rfl⟩ := List.getElem_of_mem hx
    obtain ⟨h3, h4⟩ := List.pairwise_cons.1 h2
    have h5 : m'.Perm (l.eraseIdx i) := (h1.trans (perm_pick hi)).cons_inv
    refine ⟨i, by omega, ?_⟩
    rw [if_neg ?_]
    ·rw [numAt_eq hi]
     exact List.mem_map.2 ⟨m', (mem_mergesN n (l.eraseIdx i) m' (by rw [List.length_eraseIdx_of_lt hi]; omega) (ha.sublist (List.eraseIdx_sublist ..))).2 ⟨h5, h4⟩, rfl⟩
    ·intro hb
     rw [blockedAt, List.any_eq_true] at hb
     obtain ⟨z, hz, hth⟩ := hb
     rw [numAt_eq hi, decide_eq_true_eq] at hth
     have hzm : z ∈ m' := h5.mem_iff.2 (by rw [List.eraseIdx_eq_take_drop_succ, List.mem_append]; exact .inl hz)
     have := h3 z hzm hth.symm
     obtain ⟨j, hj, rfl⟩ := List.getElem_of_mem hz
     rw [List.length_take] at hj
     rw [List.getElem_take] at this
     have := hp j i (by omega) hi (by omega)
     omega

theorem mem_mergesP {p : List Ev} {l m : List Int} (ha : l.Pairwise (· < ·)) : m ∈ mergesP p l ↔ m.Perm l ∧ Keeps p m := mem_mergesN _ l m rfl ha

theorem writers_asc (p : List Ev) (dn : List Bool) (loc : Int) : (writersI p dn loc).Pairwise (· < ·) := pickI_asc _ _
theorem fences_asc (p : List Ev) : (fencesI p).Pairwise (· < ·) := pickI_asc _ _

theorem mem_ordersN {p : List Ev} {dn : List Bool} : ∀ (k : Nat) (loc : Int) (x : List (List Int)), x ∈ ordersN p dn k loc ↔ x.length = k ∧ ∀ j, j < k → (x[j]?.getD []) ∈ mergesP p (writersI p dn (loc + j))
 | 0, loc, x => by
  simp only [ordersN, List.mem_singleton]
  constructor
  ·rintro rfl; exact ⟨rfl, fun j hj => by omega⟩
  ·rintro ⟨h, _⟩; exact List.length_eq_zero_iff.1 h
 | k + 1, loc, x => by
  simp only [ordersN, List.mem_flatMap, List.mem_map]
  constructor
  ·rintro ⟨l, hl, y, hy, rfl⟩
   obtain ⟨h1, h2⟩ := (mem_ordersN k (loc + 1) y).1 hy
   refine ⟨by simp [h1], fun j hj => ?_⟩
   cases j with
   | zero => simpa using hl
   | succ j =>
    have := h2 j (by omega)
    simpa [Int.add_assoc, Int.add_comm 1] using this
  ·rintro ⟨h1, h2⟩
   rcases x with _ | ⟨l, y⟩
   ·simp at h1
   ·refine ⟨l, by simpa using h2 0 (by omega), y, (mem_ordersN k (loc + 1) y).2 ⟨by simpa using h1, fun j hj => ?_⟩, rfl⟩
    have := h2 (j + 1) (by omega)
    simpa [Int.add_assoc, Int.add_comm 1] using this

theorem mem_fromsN {p : List Ev} {dn : List Bool} {ord : List (List Int)} : ∀ (k i : Nat) (x : List Int), x ∈ fromsN p dn ord k i ↔ x.length = k ∧ ∀ j, j < k → numF x j ∈ choicesP p dn ord (i + j)
 | 0, i, x => by
  simp only [fromsN, List.mem_singleton]
  constructor
  ·rintro rfl; exact ⟨rfl, fun j hj => by omega⟩
  ·rintro ⟨h, _⟩; exact List.length_eq_zero_iff.1 h
 | k + 1, i, x => by
  simp only [fromsN, List.mem_flatMap, List.mem_map]
  constructor
  ·rintro ⟨w, hw, y, hy, rfl⟩
   obtain ⟨h1, h2⟩ := (mem_fromsN k (i + 1) y).1 hy
   refine ⟨by simp [h1], fun j hj => ?_⟩
   cases j with
   | zero => simpa [numF] using hw
   | succ j =>
    have := h2 j (by omega)
    simpa [numF, Nat.add_assoc, Nat.add_comm 1] using this
  ·rintro ⟨h1, h2⟩
   rcases x with _ | ⟨w, y⟩
   ·simp at h1
   ·refine ⟨w, by simpa [numF] using h2 0 (by omega), y, (mem_fromsN k (i + 1) y).2 ⟨by simpa using h1, fun j hj => ?_⟩, rfl⟩
    have := h2 (j + 1) (by omega)
    simpa [numF, Nat.add_assoc, Nat.add_comm 1] using this

/-! ### What fits -/
/-- The parts of an execution fit, as far as no word is asked. -/
structure Shape (p : List Ev) (e : Exec) : Prop where
 fl : e.frm.length = p.length
 dl : e.dn.length = p.length
 ol : e.ord.length = 3
 dn1 : ∀ i, i < p.length → ((evAt p i).op.kind = 1 ∨ (evAt p i).op.kind = 2) → dnAt e.dn i = true
 dn0 : ∀ i, i < p.length → dnAt e.dn i = true → 1 ≤ (evAt p i).op.kind ∧ (evAt p i).op.kind ≤ 4
 out : ∀ i, i < p.length → (evAt p i).reads = false → frmAt e i = -2
 src : ∀ i, i < p.length → (evAt p i).reads = true → frmAt e i = -1 ∨ ∃ w : Nat, frmAt e i = w ∧ w < p.length ∧ dnAt e.dn w = true ∧ (evAt p w).op.loc = (evAt p i).op.loc
 ord : ∀ k : Nat, k < 3 → (e.ord[k]?.getD []).Perm (writersI p e.dn k)
 fen : e.fen.Perm (fencesI p)

/-- The events that write are those that the words allow. -/
def Worded (p : List Ev) (e : Exec) : Prop := ∀ i, i < p.length →
 ((evAt p i).op.kind = 3 → (dnAt e.dn i = true ↔ (wordsP p e.frm).R i = (evAt p i).op.v)) ∧ ((evAt p i).op.kind = 4 → dnAt e.dn i = true → (wordsP p e.frm).R i = (evAt p i).op.v)

theorem mem_writersI {p : List Ev} {dn : List Bool} {k : Int} {x : Int} : x ∈ writersI p dn k ↔ ∃ i : Nat, x = i ∧ i < p.length ∧ (evAt p i).op.kind ≠ 5 ∧ dnAt dn i = true ∧ (evAt p i).op.loc = k := by
 rw [writersI, mem_pickI]
 simp only [Bool.and_eq_true, decide_eq_true_eq, dnAt]
 constructor
 ·rintro ⟨i, h1, ⟨⟨h2, h3⟩, h4⟩, h5⟩; exact ⟨i, h5, h1, h2, h3, h4⟩
 ·rintro ⟨i, h5, h1, h2, h3, h4⟩; exact ⟨i, h1, ⟨⟨h2, h3⟩, h4⟩, h5⟩

theorem Shape.xok {p : List Ev} {e : Exec} (h : Shape p e) (hn : e.fen = [] ∨ True) : XOk p e := by
 have hordl : ∀ l ∈ e.ord, InEv p l ∧ l.length ≤ p.length := by
  intro l hl
  obtain ⟨k, hk, rfl⟩ := List.getElem_of_mem hl
  have := h.ord k (by rw [← h.ol]; exact hk)
  rw [List.getElem?_eq_getElem hk, Option.getD_some] at this
  exact ⟨(writers_in p e.dn _).perm this, by rw [this.length_eq]; exact pickI_len _ _⟩
 refine ⟨h.fl, h.dl, h.ol, fun i hi => ?_, hordl, (fences_in p).perm h.fen, by rw [h.fen.length_eq]; exact pickI_len _ _⟩
 cases hr : (evAt p i).reads with
 | false =>
  have := h.out i hi hr
  unfold frmAt at this
  exact ⟨by omega, fun h => by cases h⟩
 | true =>
  rcases h.src i hi hr with h1 | ⟨w, h1, h2, _⟩
  ·unfold frmAt at h1; exact ⟨by omega, fun _ => by omega⟩
  ·unfold frmAt at h1; exact ⟨by omega, fun _ => by omega⟩

theorem Shape.fromOk {p : List Ev} {e : Exec} (h : Shape p e) : FromOk p e.frm := (h.xok (.inr trivial)).fromOk
theorem Shape.srcOk {p : List Ev} {e : Exec} (h : Shape p e) : SrcOk p e.frm := fun i w hi hr hw => by
 rcases h.src i hi hr with h1 | ⟨w', h1, h2, h3, _⟩
 ·unfold frmAt at h1; unfold numF at hw; omega
 ·have : w' = w := by unfold frmAt at h1; unfold numF at hw; omega
  subst this
  exact ⟨h2, h.dn0 w' h2 h3⟩

theorem Shape.words {p : List Ev} {e : Exec} (h : Shape p e) (hac : RfOk p e) : Words p e.frm (wordsP p e.frm).R (wordsP p e.frm).W := words_ok h.fromOk h.srcOk hac

/-! ### Without an order of the fences -/
theorem hb_less {p : List Ev} {e : Exec} {a b : Nat} (h : Hb p ⟨e.frm, e.dn, e.ord, []⟩ a b) : Hb p e a b := by
 refine TG.mono h fun x y hxy => ?_
 rcases hxy with hxy | ⟨j, hj, _⟩ | ⟨r, w, v, h1, h2, h3, h4, h5, h6⟩
 ·exact .inl hxy
 ·simp at hj
 ·refine .inr (.inr ⟨r, w, v, h1, h2, h3, ?_, h5, h6⟩)
  have key : ∀ {w v : Nat}, Back p ⟨e.frm, e.dn, e.ord, []⟩ w v → Back p e w v := by
   intro w v h
   induction h with
   | here => exact .here
   | on h _ ih => exact .on h ih
  exact key h4

theorem Cons.less {p : List Ev} {e : Exec} (h : Cons p e) : Cons p ⟨e.frm, e.dn, e.ord, []⟩ := by
 refine ⟨fun ⟨a, ha⟩ => h.round ⟨a, ha.mono fun x y hxy => ?_⟩, fun hc => h.cross ?_, h.next⟩
 ·rcases hxy with hxy | ⟨j, hj, _⟩ | hxy
  ·exact .inl hxy
  ·simp at hj
  ·exact .inr (.inr hxy)
 ·rcases hc with ⟨a, ha⟩ | ⟨a, b, h1, h2⟩
  ·exact .inl ⟨a, hb_less ha⟩
  ·refine .inr ⟨a, b, hb_less h1, TG.mono h2 fun x y hxy => ?_⟩
   exact hxy

theorem wordBad_iff {p : List Ev} {e : Exec} : (List.range p.length).any (wordBad p e) = false ↔ Worded p e := by
 unfold Worded
 rw [List.any_eq_false]
 simp only [List.mem_range]
 refine forall_congr' fun i => forall_congr' fun hi => ?_
 unfold wordBad
 show ¬ ((decide ((evAt p i).op.kind = 3) && xor (dnAt e.dn i) (decide ((wordsP p e.frm).R i = (evAt p i).op.v))) || (decide ((evAt p i).op.kind = 4) && (dnAt e.dn i) && decide ((wordsP p e.frm).R i ≠ (evAt p i).op.v))) = true ↔ _
 cases hd : dnAt e.dn i <;> by_cases hv : (wordsP p e.frm).R i = (evAt p i).op.v <;> by_cases h3 : (evAt p i).op.kind = 3 <;> by_cases h4 : (evAt p i).op.kind = 4 <;> simp [hv, h3, h4]

/-! ### All executions -/
theorem find_at {l : List Int} (hn : l.Nodup) {x : Int} {j : Nat} (hj : j < l.length) (e : l[j] = x) : l.findIdx (fun y => decide (x = y)) = j := by
 refine (List.findIdx_eq hj).2 ⟨by simp [e], fun k hk => ?_⟩
 rw [decide_eq_false_iff_not]
 intro h
 have := (List.pairwise_iff_getElem.1 (List.nodup_iff_pairwise_ne.1 hn)) k j (by omega) hj hk
 exact this (by rw [e, ← h])

theorem frontOf_at {l : List Int} (hn : l.Nodup) (hpos : ∀ x ∈ l, 0 ≤ x) {i j : Nat} (hj : j < l.length) (e : l[j] = i) : frontOf (-1 :: l) i = frontAt l j := by
 unfold frontOf
 have : (-1 :: l : List Int).findIdx (fun y => decide ((i : Int) = y)) = j + 1 := by
  refine find_at (x := (i : Int)) (List.nodup_cons.2 ⟨fun h => by have := hpos _ h; omega, hn⟩) (by simp; omega) (by simpa using e)
 rw [this, Nat.add_sub_cancel]
 cases j with
 | zero => rfl
 | succ j => simp [frontAt, numAt]

theorem asc_nodup {l : List Int} (h : l.Pairwise (· < ·)) : l.Nodup := by
 rw [List.nodup_iff_pairwise_ne]; exact h.imp fun h => by omega

theorem sb_hb {p : List Ev} (hm : Mono p) {e : Exec} : ∀ (d a : Nat), a + d + 1 < p.length → (evAt p a).th = (evAt p (a + d + 1)).th → Hb p e a (a + d + 1)
 | 0, a, h, ht => .one (.inl ⟨rfl, h, ht.symm⟩)
 | d + 1, a, h, ht => by
  have h1 := hm.between (a := a) (b := a + (d + 1) + 1) (x := a + d + 1) h (by omega) (by omega) ht
  exact (sb_hb hm d a (by omega) (by rw [h1]; exact ht)).trans (.one (.inl ⟨by omega, h, h1.symm⟩))

theorem sb_round {p : List Ev} (hm : Mono p) {e : Exec} : ∀ (d a : Nat), a + d + 1 < p.length → (evAt p a).th = (evAt p (a + d + 1)).th → TG (fun a b => Sb1 p a b ∨ Fo1 e.fen a b ∨ Rf e p.length a b) a (a + d + 1)
 | 0, a, h, ht => .one (.inl ⟨rfl, h, ht.symm⟩)
 | d + 1, a, h, ht => by
  have h1 := hm.between (a := a) (b := a + (d + 1) + 1) (x := a + d + 1) h (by omega) (by omega) ht
  exact (sb_round hm d a (by omega) (by rw [h1]; exact ht)).trans (.one (.inl ⟨by omega, h, h1.symm⟩))

theorem fo_round {p : List Ev} {e : Exec} : ∀ (d j a b : Nat), j + d + 1 < e.fen.length → (∀ k, k < e.fen.length → 0 ≤ numAt e.fen k) → numAt e.fen j = a → numAt e.fen (j + d + 1) = b → TG (fun a b => Sb1 p a b ∨ Fo1 e.fen a b ∨ Rf e p.length a b) a b
 | 0, j, a, b, h, _, ha, hb => .one (.inr (.inl ⟨j, h, ha, hb⟩))
 | d + 1, j, a, b, h, hp, ha, hb => by
  have h1 := hp (j + d + 1) (by omega)
  obtain ⟨c, hc⟩ : ∃ c : Nat, numAt e.fen (j + d + 1) = c := ⟨(numAt e.fen (j + d + 1)).toNat, by omega⟩
  exact (fo_round d j a c (by omega) hp ha hc).trans (.one (.inr (.inl ⟨j + d + 1, by omega, hc, by rw [← hb]; congr 1⟩)))

theorem exec_iff {p : List Ev} (hp : POk p) (hm : Mono p) {e : Exec} : e ∈ execsP p ↔ Shape p e ∧ Worded p e ∧ Cons p e := by
 constructor
 ·intro h
  have h0 := h
  simp only [execsP, execsD, execsO, List.mem_flatMap] at h
  obtain ⟨dn, hd, ord, ho, frm, hf, h⟩ := h
  unfold execsF at h
  split at h
  ·rename_i hpos
   obtain ⟨h, hb⟩ := List.mem_filter.1 h
   obtain ⟨fen, hn, rfl⟩ := List.mem_map.1 h
   have hx := exec_ok hp hd ho hf (merges_fen hn)
   obtain ⟨d1, d2⟩ := mem_donesP.1 hd
   obtain ⟨o1, o2⟩ := (mem_ordersN 3 0 ord).1 ho
   obtain ⟨f1, f2⟩ := (mem_fromsN _ _ frm).1 hf
   have hord : ∀ k : Nat, k < 3 → (ord[k]?.getD []).Perm (writersI p dn k) := fun k hk => by
    have := mergesP_perm (o2 k hk)
    rwa [Int.zero_add] at this
   unfold possibleP at hpos
   simp only [Bool.and_eq_true, Bool.not_eq_true', decide_eq_true_eq] at hpos hb
   have hw : Worded p ⟨frm, dn, ord, []⟩ := wordBad_iff.1 hpos.1
   have hc := (brokenP_zero hp hm hx).1 hb
   refine ⟨⟨f1, d1, o1, fun i hi => (d2 i hi).1, fun i hi => (d2 i hi).2, fun i hi hr => ?_, fun i hi hr => ?_, hord, mergesP_perm hn⟩, hw, hc⟩
   ·have := f2 i hi
    rw [Nat.zero_add, choicesP, if_pos hr, List.mem_singleton] at this
    exact this
   ·have h1 := f2 i hi
    rw [Nat.zero_add, choicesP, if_neg (by rw [hr]; simp)] at h1
    have hloc := hp.loc i hi
    have hsrc : ∀ x ∈ srcL p ord i, x = -1 ∨ ∃ w : Nat, x = w ∧ w < p.length ∧ dnAt dn w = true ∧ (evAt p w).op.loc = (evAt p i).op.loc := by
     intro x hx
     rcases List.mem_cons.1 hx with h | h
     ·exact .inl h
     ·have h3 := (hord (evAt p i).op.loc.toNat (by omega)).mem_iff.1 h
      obtain ⟨w, q1, q2, _, q3, q4⟩ := mem_writersI.1 h3
      exact .inr ⟨w, q1, q2, q3, by omega⟩
    split at h1
    ·rw [List.mem_singleton] at h1
     show numF frm i = -1 ∨ _
     show _ ∨ ∃ w : Nat, numF frm i = w ∧ _
     rw [h1]
     unfold frontOf numAt
     rcases hq : (srcL p ord i)[(srcL p ord i).findIdx (fun y => decide ((i : Int) = y)) - 1]? with _ | y
     · -- there is one
      exfalso
      have := List.getElem?_eq_none_iff.1 hq
      have h2 := List.findIdx_le_length (p := fun y => decide ((i : Int) = y)) (xs := srcL p ord i)
      have h3 : 0 < (srcL p ord i).length := by simp [srcL]
      have h4 : (srcL p ord i).findIdx (fun y => decide ((i : Int) = y)) ≠ 0 := by
       intro h0
       simp [srcL, List.findIdx_cons] at h0
      omega
     ·exact hsrc y (List.mem_of_getElem? hq)
    ·exact hsrc _ h1
  ·exact absurd h List.not_mem_nil
 ·rintro ⟨hs, hw, hc⟩
  have hx := hs.xok (.inr trivial)
  obtain ⟨frm, dn, ord, fen⟩ := e
  have hac : RfOk p ⟨frm, dn, ord, fen⟩ := Round.rfOk hc.round
  simp only [execsP, execsD, execsO, List.mem_flatMap]
  have hdn : dn ∈ donesP p := mem_donesP.2 ⟨hs.dl, fun i hi => ⟨hs.dn1 i hi, hs.dn0 i hi⟩⟩
  have hord : ∀ k : Nat, k < 3 → (ord[k]?.getD []).Perm (writersI p dn k) := hs.ord
  have hmem : ∀ k : Nat, k < 3 → (ord[k]?.getD []) ∈ ord := fun k hk => by
   have : k < ord.length := by have : ord.length = 3 := hs.ol; omega
   rw [List.getElem?_eq_getElem this, Option.getD_some]; exact List.getElem_mem _
  have hkeep : ∀ k : Nat, k < 3 → Keeps p (ord[k]?.getD []) := by
   intro k hk
   have hperm := hord k hk
   have hml := hmem k hk
   generalize ord[k]?.getD [] = l at hperm hml
   refine List.pairwise_iff_getElem.2 fun i j hi hj hij hth => ?_
   apply Decidable.byContradiction; intro hlt
   have mi := mem_writersI.1 (hperm.mem_iff.1 (List.getElem_mem hi))
   have mj := mem_writersI.1 (hperm.mem_iff.1 (List.getElem_mem hj))
   obtain ⟨a, ea, la, _⟩ := mi
   obtain ⟨b, eb, lb, _⟩ := mj
   have hne : a ≠ b := by
    intro e
    have hnd : l.Nodup := (hperm.nodup_iff).2 (asc_nodup (writers_asc p dn k))
    exact (List.pairwise_iff_getElem.1 (List.nodup_iff_pairwise_ne.1 hnd)) i j hi hj hij (by rw [ea, eb, e])
   rw [ea, eb] at hlt hth
   simp only [thI, Int.toNat_natCast] at hth
   have hba : b < a := by omega
   refine hc.cross (.inr ⟨b, a, ?_, .one (.inl ⟨l, hml, i, j, hij, hj, by rw [numAt_eq hi, ea], by rw [numAt_eq hj, eb]⟩)⟩)
   have := sb_hb hm (e := ⟨frm, dn, ord, fen⟩) (a - b - 1) b (by omega) (by rw [show b + (a - b - 1) + 1 = a by omega]; exact hth.symm)
   rwa [show b + (a - b - 1) + 1 = a by omega] at this
  have hordm : ord ∈ ordersP p dn := (mem_ordersN 3 0 ord).2 ⟨hs.ol, fun j hj => by
   rw [Int.zero_add]; exact (mem_mergesP (writers_asc _ _ _)).2 ⟨hord j hj, hkeep j hj⟩⟩
  have hfrm : frm ∈ fromsP p dn ord := by
   refine (mem_fromsN _ _ frm).2 ⟨hs.fl, fun i hi => ?_⟩
   rw [Nat.zero_add, choicesP]
   cases hr : (evAt p i).reads with
   | false => rw [if_pos rfl, List.mem_singleton]; exact hs.out i hi hr
   | true =>
    rw [if_neg (by simp)]
    have hloc := hp.loc i hi
    have hk3 : (evAt p i).op.loc.toNat < 3 := by omega
    have hperm := hord _ hk3
    have hml := hmem _ hk3
    split
    ·rename_i hd
     rw [List.mem_singleton]
     have hki := hs.dn0 i hi hd
     have hin : (i : Int) ∈ ord[(evAt p i).op.loc.toNat]?.getD [] := hperm.mem_iff.2 (mem_writersI.2 ⟨i, rfl, hi, by omega, hd, by omega⟩)
     obtain ⟨j, hj, hje⟩ := List.getElem_of_mem hin
     have hnx := hc.next _ hml j hj
     rw [numAt_eq hj, hje, Int.toNat_natCast] at hnx
     have := hnx hr
     show frmAt ⟨frm, dn, ord, fen⟩ i = _
     rw [this, srcL, frontOf_at ((hperm.nodup_iff).2 (asc_nodup (writers_asc _ _ _))) (fun x hx => by
      obtain ⟨w, hw, _⟩ := mem_writersI.1 (hperm.mem_iff.1 hx); omega) hj hje]
    ·rcases hs.src i hi hr with h | ⟨w, h1, h2, h3, h4⟩
     ·exact List.mem_cons.2 (.inl h)
     ·refine List.mem_cons.2 (.inr (hperm.mem_iff.2 (mem_writersI.2 ⟨w, h1, h2, ?_, h3, by omega⟩)))
      have := hs.dn0 w h2 h3; omega
  have hfk : Keeps p fen := by
   have hperm : fen.Perm (fencesI p) := hs.fen
   refine List.pairwise_iff_getElem.2 fun i j hi hj hij hth => ?_
   apply Decidable.byContradiction; intro hlt
   have hfin : InEv p fen := hx.fin.1
   have hin := fun k (hk : k < fen.length) => hfin.num hk
   have h1 := hin i hi
   have h2 := hin j hj
   obtain ⟨a, ea⟩ : ∃ a : Nat, numAt fen i = a := ⟨(numAt fen i).toNat, by omega⟩
   obtain ⟨b, eb⟩ : ∃ b : Nat, numAt fen j = b := ⟨(numAt fen j).toNat, by omega⟩
   rw [← numAt_eq hi, ← numAt_eq hj, ea, eb] at hlt hth
   simp only [thI, Int.toNat_natCast] at hth
   have hne : a ≠ b := by
    intro e
    have hnd : fen.Nodup := (hperm.nodup_iff).2 (asc_nodup (fences_asc p))
    exact (List.pairwise_iff_getElem.1 (List.nodup_iff_pairwise_ne.1 hnd)) i j hi hj hij (by rw [← numAt_eq hi, ← numAt_eq hj, ea, eb, e])
   have hba : b < a := by omega
   have g1 := fo_round (p := p) (e := ⟨frm, dn, ord, fen⟩) (j - i - 1) i a b (show i + (j - i - 1) + 1 < fen.length by omega) (fun k hk => (hin k hk).1) ea (by rw [show i + (j - i - 1) + 1 = j by omega]; exact eb)
   have g2 := sb_round hm (e := ⟨frm, dn, ord, fen⟩) (a - b - 1) b (by omega) (by rw [show b + (a - b - 1) + 1 = a by omega]; exact hth.symm)
   rw [show b + (a - b - 1) + 1 = a by omega] at g2
   exact hc.round ⟨a, g1.trans g2⟩
  have hfen : fen ∈ mergesP p (fencesI p) := (mem_mergesP (fences_asc p)).2 ⟨hs.fen, hfk⟩
  refine ⟨dn, hdn, ord, hordm, frm, hfrm, ?_⟩
  unfold execsF
  have hpos : possibleP p ⟨frm, dn, ord, []⟩ = true := by
   unfold possibleP
   rw [Bool.and_eq_true, Bool.not_eq_true', decide_eq_true_eq]
   refine ⟨wordBad_iff.2 hw, ?_⟩
   have hx0 : XOk p ⟨frm, dn, ord, []⟩ := ⟨hx.fl, hx.dl, hx.ol, hx.fr, hx.oin, fun x h => (nomatch h), Nat.zero_le _⟩
   exact (brokenP_zero hp hm hx0).2 hc.less
  rw [if_pos hpos]
  exact List.mem_filter.2 ⟨List.mem_map.2 ⟨fen, hfen, rfl⟩, decide_eq_true ((brokenP_zero hp hm hx).2 hc)⟩

end Go.EV

namespace Go.EV
open Go.Proofs

def outReads (p : List Ev) (w : Wd) : Nat → List Int
 | 0 => []
 | i + 1 => outReads p w i ++ if (evAt p i).reads then [w.r[i]?.getD 0] else []
def lastOf (w : Wd) (l : List Int) : Int := if l.length = 0 then 0 else w.w[(numAt l (l.length - 1)).toNat]?.getD 0
def outcomeP (p : List Ev) (e : Exec) : List Int := outReads p (wordsP p e.frm) p.length ++ e.ord.map (lastOf (wordsP p e.frm))

theorem outReads_len (p : List Ev) (w : Wd) : ∀ i, (outReads p w i).length ≤ i
 | 0 => Nat.le_refl _
 | i + 1 => by
  have := outReads_len p w i
  simp only [outReads, List.length_append]
  split <;> simp <;> omega

section
variable {M : PHeap}

set_option maxHeartbeats 4000000 in
theorem ax_outcome_c (p : List Ev) (s : Value) (hs : Sl M 6 encEv s p) (hp : POk p) (e : Exec) (v : Value) (hv : IsX M v e) (hx : XOk p e) :
  Con Tryz.prog 35 #[s, v] M [] (Ints (outcomeP p e)) := by
 have hs0 := hs
 have hb := hp.len
 obtain ⟨a, c, rfl, hrd⟩ := hs
 obtain ⟨f, d, o, n, rfl, hf, hd, ho, hn⟩ := hv
 have hf0 := hf
 obtain ⟨oa, oc, ovs, rfl, hol, hro, hko⟩ := ho
 have hol3 := hx.ol
 obtain ⟨ob, oo, rfl, hato⟩ := SlSlC.at hro hol hko (by omega)
 refine Con.enter Q36_ok (args := [.slice a p.length c, .agg #[f, d, .slice (some ⟨ob, oo, none⟩) e.ord.length oc, n]]) (by simp [Q36]) fun w0 => ?_
 simp only [Q36, argE]
 repeat' first
   | refine EV.seq ?_
   | (refine EV.reg ?_; (conv => (arg 2; whnf)); (refine nx ?_; try with_reducible exact ⟨⟩))
   | ((first | with_reducible intro b | refine xrA rfl ?_ | fail); try (refine nx ?_; try with_reducible exact ⟨⟩))
   | fail
 rename Nat => xb
 refine Con.callS (G1 := []) (ax_words_c p _ hs0 (by omega) e.frm _ _ _ _ hf0 hx.fromOk) ?_
 rintro v M1 G1 hM1 ⟨rv, wv, kv, rfl, hr, hw, -⟩
 obtain ⟨ra, rc, rfl, hrr⟩ := hr
 obtain ⟨wa, wc, rfl, hww⟩ := hw
 have hrl : (wordsP p e.frm).r.length = p.length := (wdIter_len p e.frm _).r
 have hwl : (wordsP p e.frm).w.length = p.length := (wdIter_len p e.frm _).w
 have houtd : outcomeP p e = outReads p (wordsP p e.frm) p.length ++ e.ord.map (lastOf (wordsP p e.frm)) := rfl
 generalize wordsP p e.frm = W at *
 simp only [wpS, wpA, wpQL, push_cast, Int.cast_ofNat_Int, reduceIte, Nat.reduceEqDiff, reduceCtorEq, Nat.reduceAdd, Nat.reduceSub, Nat.reduceMul, Int.reduceToNat, Nat.reduceLeDiff]
 repeat' first
   | refine EV.seq ?_
   | refine EV.block ?_
   | (refine EV.reg ?_; (conv => (arg 2; whnf)); (refine nx ?_; try with_reducible exact ⟨⟩))
   | fail
 refine EV.toS (ρ' := [(0, .slice a p.length c), (3, pv xb 0), (5, .slice ra W.r.length rc), (6, .slice wa W.w.length wc), (8, osv none 0), (21, .slice a p.length c), (22, vi p.length), (23, vi (0 : Nat))]) (G' := [(xb, Cl 45 [f, d, .slice (some ⟨ob, oo, none⟩) e.ord.length oc, n])]) ?_ ?env0
 case env0 =>
  repeat' first
   | (refine List.forall_mem_cons.2 (And.intro ?_ ?_))
   | (intro _ hnil; cases hnil; done)
   | rfl
   | fail
 refine EV.loopTo (fun x : Nat × Vec => ([(0, .slice a p.length c), (3, pv xb 0), (5, .slice ra W.r.length rc), (6, .slice wa W.w.length wc), (8, osv x.2 (outReads p W x.1).length), (21, .slice a p.length c), (22, vi p.length), (23, vi x.1)], M1, (xb, Cl 45 [f, d, .slice (some ⟨ob, oo, none⟩) e.ord.length oc, n]) :: osg 3 x.2 ((outReads p W x.1).map vi)))
  (fun x => x.1 ≤ p.length ∧ osok 1 x.2 (outReads p W x.1).length ((outReads p W x.1).map vi)) (fun x => p.length - x.1) (0, none) rfl ⟨Nat.zero_le _, rfl, rfl⟩ ?env1 (by simp [osg]) ?_
 case env1 =>
  repeat' first
   | (refine List.forall_mem_cons.2 (And.intro ?_ ?_))
   | (intro _ hnil; cases hnil; done)
   | rfl
   | fail
 rintro ⟨i, ov⟩ ⟨hi, hov⟩ ih
 dsimp only at hi hov ih ⊢
 repeat' first
   | refine EV.seq ?_
   | refine EV.skip ?_
   | refine EV.block ?_
   | (refine EV.reg ?_; (conv => (arg 2; whnf)); (refine nx ?_; try with_reducible exact ⟨⟩))
   | (refine EV.condX rfl (fun h => ?_) (fun h => ?_) <;> try exact dead h)
   | (refine EV.exit rfl ?_)
   | (refine xsA rfl ?_; try (refine nx ?_; try with_reducible exact ⟨⟩))
   | fail
 ·have hi' : i < p.length := by omega
  obtain ⟨pb, po, rfl, hat⟩ := Sl.at (enc := encEv) (fun _ => rfl) (by decide) hrd (by omega)
  obtain ⟨rb, ro, rfl, hatr⟩ := Sl.at (sz := 1) (enc := ei) (fun _ => rfl) (by decide) hrr (by omega)
  have hpi := (Sl.evAt hat i hi').mono hM1
  have hri : rd M1 rb (ro + i) 1 [vi (W.r[i]?.getD 0)] := rd_num hatr i (by omega)
  have hrI : (i : Int) < W.r.length := by omega
  have hln := outReads_len p W i
  have hstep : outReads p W (i + 1) = outReads p W i ++ if (evAt p i).reads then [W.r[i]?.getD 0] else [] := rfl
  repeat' first
    | refine EV.seq ?_
    | refine EV.skip ?_
    | refine EV.inBlock ?_
    | (refine EV.reg ?_; (conv => (arg 2; whnf)); (refine nx ?_; try with_reducible exact ⟨⟩))
    | (refine ConQ.call (ax_reads_q (evAt p i)) ?_; try (refine nx ?_; try with_reducible exact ⟨⟩))
    | (refine EV.condX rfl (fun h => ?_) (fun h => ?_) <;> try exact dead h)
    | (with_reducible intro b; try (refine nx ?_; try with_reducible exact ⟨⟩))
    | (refine And.intro (by omega) ?_)
    | ((first | refine Exists.intro _ (And.intro (rd_M (by assumption)) ?_) | refine xrA rfl ?_ | fail); try (refine nx ?_; try with_reducible exact ⟨⟩))
    | (refine xw ?_; (refine nx ?_; try with_reducible exact ⟨⟩))
    | fail
  ·rw [if_pos (by assumption)] at hstep
   refine ⟨[vi (W.r[i]?.getD 0)], Or.inr ⟨b, 0, rfl, rd_own' 0 rfl rfl (by simp)⟩, by simp [ok1_cons, ok1_nil, Value.oneCell'], Or.inl ⟨ov, _, rfl, _, hov, _, PullL.p, ?_, ?_, ?_⟩⟩
   ·simp only [maxLen]; omega
   ·omega
   intro o2 ho2 _
   simp only [wpS, wpA, wpQL, push_cast, Int.cast_ofNat_Int, reduceIte, Nat.reduceEqDiff, reduceCtorEq, Nat.reduceAdd, Nat.reduceSub, Nat.reduceMul, Int.reduceToNat, Nat.reduceLeDiff]
   repeat' first
     | refine EV.inBlock ?_
     | (refine EV.reg ?_; (conv => (arg 2; whnf)); (refine nx ?_; try with_reducible exact ⟨⟩))
     | fail
   have ih3 := ih (i + 1, o2) ⟨by dsimp only; omega, by rw [hstep, List.length_append, List.map_append]; exact ho2⟩ (by dsimp only; omega)
   dsimp only at ih3
   rw [hstep, List.length_append, List.map_append, show List.map vi [W.r[i]?.getD 0] = [vi (W.r[i]?.getD 0)] from rfl] at ih3
   refine EV.toS ih3 ?_
   repeat' first
    | (refine List.forall_mem_cons.2 (And.intro ?_ ?_))
    | (intro _ hnil; cases hnil; done)
    | rfl
    | (refine env_w64 rfl (by first | rfl | (push_cast; first | rfl | omega)) (by omega) (by omega); done)
    | fail
  ·rw [if_neg (by simp_all), List.append_nil] at hstep
   have ih3 := ih (i + 1, ov) ⟨by dsimp only; omega, by rw [hstep]; exact hov⟩ (by dsimp only; omega)
   dsimp only at ih3
   rw [hstep] at ih3
   refine EV.toS ih3 ?_
   repeat' first
    | (refine List.forall_mem_cons.2 (And.intro ?_ ?_))
    | (intro _ hnil; cases hnil; done)
    | rfl
    | (refine env_w64 rfl (by first | rfl | (push_cast; first | rfl | omega)) (by omega) (by omega); done)
    | fail
 ·have hie : i = p.length := by omega
  subst hie
  clear ih
  repeat' first
    | fail
  have hln0 := outReads_len p W p.length
  generalize hR : outReads p W p.length = R at *
  refine EV.loopTo (fun x : Nat × Vec => ([(3, pv xb 0), (6, .slice wa W.w.length wc), (8, osv x.2 (R ++ (e.ord.take x.1).map (lastOf W)).length), (39, .slice (some ⟨ob, oo, none⟩) e.ord.length oc), (40, vi e.ord.length), (41, vi x.1)], M1, (xb, Cl 45 [f, d, .slice (some ⟨ob, oo, none⟩) e.ord.length oc, n]) :: osg 3 x.2 ((R ++ (e.ord.take x.1).map (lastOf W)).map vi)))
   (fun x => x.1 ≤ e.ord.length ∧ osok 1 x.2 (R ++ (e.ord.take x.1).map (lastOf W)).length ((R ++ (e.ord.take x.1).map (lastOf W)).map vi)) (fun x => e.ord.length - x.1) (0, ov) rfl ⟨Nat.zero_le _, by simpa using hov⟩ ?env2 (by simp) ?_
  case env2 =>
   simp only [List.take_zero, List.map_nil, List.append_nil]
   repeat' first
    | (refine List.forall_mem_cons.2 (And.intro ?_ ?_))
    | (intro _ hnil; cases hnil; done)
    | rfl
    | fail
  rintro ⟨k, o1⟩ ⟨hk, ho1⟩ ih
  dsimp only at hk ho1 ih ⊢
  repeat' first
    | refine EV.seq ?_
    | refine EV.skip ?_
    | refine EV.block ?_
    | (refine EV.reg ?_; (conv => (arg 2; whnf)); (refine nx ?_; try with_reducible exact ⟨⟩))
    | (refine EV.condX rfl (fun h => ?_) (fun h => ?_) <;> try exact dead h)
    | (refine EV.exit rfl ?_)
    | (refine And.intro (by omega) ?_)
    | fail
  ·have hk' : k < e.ord.length := by omega
   obtain ⟨la, lc, hr1, hlc, hr2⟩ := hato k hk'
   have hr1 := hr1.mono hM1
   have hr2 := hr2.mono hM1
   rw [Nat.mul_one] at hr1
   obtain ⟨hin, hln⟩ := hx.oin _ (List.getElem_mem hk')
   have hsx : R ++ (e.ord.take (k + 1)).map (lastOf W) = (R ++ (e.ord.take k).map (lastOf W)) ++ [lastOf W e.ord[k]] := by
    rw [List.take_succ_eq_append_getElem hk', List.map_append, List.append_assoc]; rfl
   have hsl : (R ++ (e.ord.take k).map (lastOf W)).length ≤ 35 := by simp; omega
   have ih3 := fun o2 h => ih (k + 1, o2) ⟨by dsimp only; omega, h⟩ (by dsimp only; omega)
   dsimp only at ih3
   rw [hsx, List.length_append, List.map_append] at ih3
   have hlo : lastOf W e.ord[k] = if e.ord[k].length = 0 then 0 else W.w[(numAt e.ord[k] (e.ord[k].length - 1)).toNat]?.getD 0 := rfl
   generalize R ++ (e.ord.take k).map (lastOf W) = Q at *
   generalize e.ord[k] = l at *
   clear ih
   repeat' first
     | (refine Exists.intro _ (Exists.intro _ (Exists.intro _ (And.intro (rd_M (by assumption)) ?_))); try (refine nx ?_; try with_reducible exact ⟨⟩))
     | fail
   refine EV.seq ?_
   repeat' first
     | (refine EV.reg ?_; (conv => (arg 2; whnf)); (refine nx ?_; try with_reducible exact ⟨⟩))
     | fail
   refine EV.seq (EV.thru (fun ρ' M' G' => M' = M1 ∧ (∀ q ∈ [(3, pv xb 0), (6, .slice wa W.w.length wc), (8, osv o1 Q.length), (13, vi (lastOf W l)), (39, .slice (some ⟨ob, oo, none⟩) e.ord.length oc), (40, vi e.ord.length), (41, vi k)], get ρ' q.1 = some q.2) ∧
    G' = (xb, Cl 45 [f, d, .slice (some ⟨ob, oo, none⟩) e.ord.length oc, n]) :: osg 3 o1 (Q.map vi)) ?_ ?_)
   ·intro k' key
    clear ih3
    rw [hlo] at key
    by_cases hl0 : l.length = 0
    ·rw [if_pos hl0] at key
     repeat' first
       | refine EV.seq ?_
       | refine EV.skip ?_
       | (refine EV.reg ?_; (conv => (arg 2; whnf)); (refine nx ?_; try with_reducible exact ⟨⟩))
       | (refine EV.condX rfl (fun h => ?_) (fun h => ?_) <;> try exact dead h)
       | fail
     refine EV.reS (key _ _ _ ⟨rfl, ?_, rfl⟩)
     repeat' first
      | (refine List.forall_mem_cons.2 (And.intro ?_ ?_))
      | (intro _ hnil; cases hnil; done)
      | rfl
      | fail
    ·rw [if_neg hl0] at key
     obtain ⟨lb, lo, rfl, hatl⟩ := Sl.at (sz := 1) (enc := ei) (fun _ => rfl) (by decide) hr2 (by omega)
     have hll := rd_num hatl (l.length - 1) (by omega)
     have hlin := numAt_in hin (k := l.length - 1) (by omega)
     have hp0 : 0 < p.length := by omega
     obtain ⟨wb, wo, rfl, hatw⟩ := Sl.at (sz := 1) (enc := ei) (fun _ => rfl) (by decide) hww (by omega)
     have hwr := rd_num hatw (numAt l (l.length - 1)).toNat (by omega)
     simp only [numAt] at hwr
     change rd M1 wb _ 1 [vi (W.w[(numAt l (l.length - 1)).toNat]?.getD 0)] at hwr
     have hwI : numAt l (l.length - 1) < (W.w.length : Int) := by omega
     have hw1 : IntKind.i64.wrap ((l.length : Int) - 1) = ((l.length - 1 : Nat) : Int) := (w64 (by omega) (by omega)).trans (by omega)
     have hw2 : (((l.length - 1 : Nat) : Int)) < (l.length : Int) := by omega
     clear hatl hatw
     repeat' first
       | refine EV.seq ?_
       | (refine EV.reg ?_; (conv => (arg 2; whnf)); simp only [wpS, wpA, wpQL, push_cast, Int.cast_ofNat_Int, reduceIte, Nat.reduceEqDiff, reduceCtorEq, Nat.reduceAdd, Nat.reduceSub, Nat.reduceMul, Int.reduceToNat, Nat.reduceLeDiff, hw1])
       | (refine EV.condX rfl (fun h => ?_) (fun h => ?_) <;> try exact dead h)
       | (refine And.intro (by omega) ?_)
       | (refine Exists.intro _ (And.intro (rd_M (by assumption)) ?_); try simp only [wpS, wpA, wpQL, push_cast, Int.cast_ofNat_Int, reduceIte, Nat.reduceEqDiff, reduceCtorEq, Nat.reduceAdd, Nat.reduceSub, Nat.reduceMul, Int.reduceToNat, Nat.reduceLeDiff, hw1])
       | fail
     refine EV.reS (key _ _ _ ⟨rfl, ?_, rfl⟩)
     repeat' first
      | (refine List.forall_mem_cons.2 (And.intro ?_ ?_))
      | (intro _ hnil; cases hnil; done)
      | rfl
      | fail
   rintro ρ2 M2 G2 ⟨rfl, hq, rfl⟩
   refine EV.to ?_ hq (List.Sublist.refl _)
   clear hq hlo
   generalize lastOf W l = lw at *
   repeat' first
     | (refine EV.reg ?_; (conv => (arg 2; whnf)); (refine nx ?_; try with_reducible exact ⟨⟩))
     | (with_reducible intro b; try (refine nx ?_; try with_reducible exact ⟨⟩))
     | fail
   refine ⟨[vi lw], Or.inr ⟨b, 0, rfl, rd_own' 0 rfl rfl (by simp)⟩, by simp [ok1_cons, ok1_nil, Value.oneCell'], Or.inl ⟨o1, _, rfl, _, ho1, _, PullL.p, ?_, ?_, ?_⟩⟩
   ·simp only [maxLen]; omega
   ·omega
   intro o2 ho2 _
   simp only [wpS, wpA, wpQL, push_cast, Int.cast_ofNat_Int, reduceIte, Nat.reduceEqDiff, reduceCtorEq, Nat.reduceAdd, Nat.reduceSub, Nat.reduceMul, Int.reduceToNat, Nat.reduceLeDiff]
   repeat' first
     | refine EV.inBlock ?_
     | (refine EV.reg ?_; (conv => (arg 2; whnf)); (refine nx ?_; try with_reducible exact ⟨⟩))
     | fail
   have ih4 := ih3 o2 ho2
   rw [show List.map vi [lw] = [vi lw] from rfl] at ih4
   refine EV.toS ih4 ?_
   repeat' first
    | (refine List.forall_mem_cons.2 (And.intro ?_ ?_))
    | (intro _ hnil; cases hnil; done)
    | rfl
    | (refine env_w64 rfl (by first | rfl | (push_cast; first | rfl | omega)) (by omega) (by omega); done)
    | fail
  ·have hke : k = e.ord.length := by omega
   subst hke
   rw [List.take_length] at ho1 ⊢
   refine EV.toS (ρ' := [(4, osv o1 (R ++ e.ord.map (lastOf W)).length)]) (G' := osg 3 o1 ((R ++ e.ord.map (lastOf W)).map vi)) ?_ ?env3
   case env3 =>
    repeat' first
     | (refine List.forall_mem_cons.2 (And.intro ?_ ?_))
     | (intro _ hnil; cases hnil; done)
     | rfl
     | fail
   refine EV.ret Q36_ok ?_
   simp only [wpS, wpA, wpQL, push_cast, Int.cast_ofNat_Int, reduceIte, Nat.reduceEqDiff, reduceCtorEq, Nat.reduceAdd, Nat.reduceSub, Nat.reduceMul, Int.reduceToNat, Nat.reduceLeDiff, Q36]
   rw [houtd]
   exact ⟨o1, rfl, ho1, rfl⟩

end
end Go.EV

namespace Go.EV
open Go.Proofs

theorem Sl_osvI {M : PHeap} {G : Own} {T : TypeId} {ov : Vec} {xs : List Int} (hok : osok 1 ov xs.length (xs.map vi)) (hG : ∀ q ∈ osg T ov (xs.map vi), q ∈ G) : Sl (M.add G) 1 ei (osv ov xs.length) xs :=
 ⟨oad ov, ocap ov, rfl, by rw [flatMap_ei]; exact rd_osg hok hG⟩
theorem Sl_osvB {M : PHeap} {G : Own} {T : TypeId} {ov : Vec} {xs : List Bool} (hok : osok 1 ov xs.length (xs.map vb)) (hG : ∀ q ∈ osg T ov (xs.map vb), q ∈ G) : Sl (M.add G) 1 eb (osv ov xs.length) xs :=
 ⟨oad ov, ocap ov, rfl, by rw [flatMap_eb]; exact rd_osg hok hG⟩

section
variable {M : PHeap}

set_option maxHeartbeats 4000000 in
theorem ax_copy_c (e : Exec) (v : Value) (hv : IsX M v e) (h1 : e.frm.length < 1000) (h2 : e.dn.length < 1000) (h3 : e.ord.length < 1000) (h4 : e.fen.length < 1000) (h5 : ∀ l ∈ e.ord, l.length < 1000) :
  Con Tryz.prog 84 #[v] M [] fun v M' _ => IsX M' v e := by
 obtain ⟨f, d, o, n, rfl, hf, hd, ho, hn⟩ := hv
 have hf0 := hf
 have hd0 := hd
 have hn0 := hn
 obtain ⟨fa, fc, rfl, hrf⟩ := hf
 obtain ⟨da, dc, rfl, hrd⟩ := hd
 obtain ⟨na, nc, rfl, hrn⟩ := hn
 obtain ⟨oa, oc, ovs, rfl, hol, hro, hko⟩ := ho
 refine Con.enter Q3_ok (args := [.agg #[.slice fa e.frm.length fc, .slice da e.dn.length dc, .slice oa e.ord.length oc, .slice na e.fen.length nc]]) (by simp [Q3]) fun w0 => ?_
 simp only [Q3, argE]
 refine EV.seq (EV.reg ?_)
 simp only [wpS, wpA, wpQL, push_cast, Int.cast_ofNat_Int, reduceIte, Nat.reduceEqDiff, reduceCtorEq, Nat.reduceAdd, Nat.reduceSub, Nat.reduceMul, Int.reduceToNat, Nat.reduceLeDiff, Q3_0]
 intro xb rb
 refine EV.seq (EV.thru (fun ρ' M' G' => ∃ cb fv dv nv, M.le M' ∧ Sl M' 1 ei fv e.frm ∧ Sl M' 1 eb dv e.dn ∧ Sl M' 1 ei nv e.fen ∧ get ρ' 1 = some (pv xb 0) ∧ get ρ' 2 = some (pv rb 0) ∧ get ρ' 3 = some (pv cb 0) ∧
  G' = [(cb, Cl 45 [fv, dv, .slice none 0 0, nv]), (rb, Cl 45 [.slice none 0 0, .slice none 0 0, .slice none 0 0, .slice none 0 0]), (xb, Cl 45 [.slice fa e.frm.length fc, .slice da e.dn.length dc, .slice oa e.ord.length oc, .slice na e.fen.length nc])]) ?_ ?_)
 ·intro k' key
  have hcf := fun G => sl_Clone_c (M := M.add G) e.frm _ (hf0.mono (PHeap.le_add _ _)) (by omega)
  have hcd := fun G => sl_CloneB_c (M := M.add G) e.dn _ (hd0.mono (PHeap.le_add _ _)) (by omega)
  have hcn := fun G => sl_Clone_c (M := M.add G) e.fen _ (hn0.mono (PHeap.le_add _ _)) (by omega)
  refine EV.any (t := Q3_1) [(xb, Cl 45 [.slice fa e.frm.length fc, .slice da e.dn.length dc, .slice oa e.ord.length oc, .slice na e.fen.length nc])] (by simp) ?_
  simp only [norm_cons, norm_nil, get_cons, get_nil, reduceIte, Nat.reduceEqDiff]
  repeat' first
    | ((first | refine wQ_op (by first | with_reducible assumption | rfl) (fun lq hlq => ?_) | refine wQ_nil (by first | with_reducible assumption | rfl) ?_ | fail); try (refine nz ?_; try with_reducible exact ⟨⟩))
    | refine wA_q (by first | with_reducible assumption | rfl) (fun lq tq hlq htq => ?_)
    | ((with_reducible refine Con.callN (hcf _) ?_) ;  rintro v1 M1 G1 ⟨o1, rfl, ho1, rfl⟩; try (refine nz ?_; try with_reducible exact ⟨⟩))
    | ((with_reducible refine Con.callN (hcd _) ?_) ;  rintro v2 M2 G2 ⟨o2, rfl, ho2, rfl⟩; try (refine nz ?_; try with_reducible exact ⟨⟩))
    | ((with_reducible refine Con.callN (hcn _) ?_) ;  rintro v3 M3 G3 ⟨o3, rfl, ho3, rfl⟩; try (refine nz ?_; try with_reducible exact ⟨⟩))
    | (refine wA_s (by first | with_reducible assumption | rfl) (fun tq htq => ?_) (fun tq htq => ?_) <;> try (refine nz ?_; try with_reducible exact ⟨⟩))
    | (refine wA_sT (by first | with_reducible assumption | rfl) (fun tq htq => ?_) (fun tq htq => ?_) <;> try (refine nz ?_; try with_reducible exact ⟨⟩))
    | exact wA_no (by first | with_reducible assumption | rfl)
    | refine wA_fin (by first | with_reducible assumption | rfl) ?_
    | ((first | with_reducible intro b | refine xsA rfl ?_ | refine xw ?_ | refine And.intro (PHeap.le_refl _) (And.intro (mem_of_sub ?_) ?_); focus ((repeat' first | exact List.Sublist.refl _ | exact List.nil_sublist _ | exact List.sublist_append_left _ _ | refine List.Sublist.cons_cons _ ?_ | refine List.Sublist.append_left ?_ _ | refine List.sublist_append_of_sublist_right ?_ | refine List.Sublist.cons _ ?_); done) | fail); try (refine nz ?_; try with_reducible exact ⟨⟩))
    | fail
  all_goals
   refine EV.keepS [(b, Cl 45 [osv o1 e.frm.length, osv o2 e.dn.length, .slice none 0 0, osv o3 e.fen.length]), (rb, Cl 45 [.slice none 0 0, .slice none 0 0, .slice none 0 0, .slice none 0 0]), (xb, Cl 45 [.slice fa e.frm.length fc, .slice da e.dn.length dc, .slice oa e.ord.length oc, .slice na e.fen.length nc])] ?_
   generalize hR : M.add _ = N
   have hMN : M.le N := hR ▸ PHeap.le_add _ _
   have q1 : Sl N 1 ei (osv o1 e.frm.length) e.frm := hR ▸ Sl_osvI (T := 3) ho1 (fun q hq => by simp [hq])
   have q2 : Sl N 1 eb (osv o2 e.dn.length) e.dn := hR ▸ Sl_osvB (T := 4) ho2 (fun q hq => by simp [hq])
   have q3 : Sl N 1 ei (osv o3 e.fen.length) e.fen := hR ▸ Sl_osvI (T := 3) ho3 (fun q hq => by simp [hq])
   exact key _ _ _ ⟨b, _, _, _, hMN, q1, q2, q3, rfl, rfl, rfl, rfl⟩
 rintro ρ2 M2 G2 ⟨cb, fv, dv, nv, hM2, q1, q2, q3, e1, e2, e3, rfl⟩
 obtain ⟨f2, fc2, rfl, hf2⟩ := q1
 obtain ⟨d2, dc2, rfl, hd2⟩ := q2
 obtain ⟨n2, nc2, rfl, hn2⟩ := q3
 refine EV.to (ρ' := [(1, pv xb 0), (2, pv rb 0), (3, pv cb 0)]) ?_ (by simp only [List.forall_mem_cons]; exact ⟨e1, e2, e3, fun _ h => nomatch h⟩) (List.Sublist.refl _)
 clear e1 e2 e3
 repeat' first
   | refine EV.seq ?_
   | refine EV.block ?_
   | (refine EV.reg ?_; (conv => (arg 2; whnf)); (refine nx ?_; try with_reducible exact ⟨⟩))
   | (refine xsA rfl ?_; try (refine nx ?_; try with_reducible exact ⟨⟩))
   | fail
 refine EV.loopTo (fun x : Nat × PHeap × Vec × List Value => ([(1, pv xb 0), (2, pv rb 0), (3, pv cb 0), (17, .slice oa e.ord.length oc), (18, vi e.ord.length), (19, vi x.1)], x.2.1,
   (cb, Cl 45 [.slice f2 e.frm.length fc2, .slice d2 e.dn.length dc2, osv x.2.2.1 x.1, .slice n2 e.fen.length nc2]) :: (rb, Cl 45 [.slice none 0 0, .slice none 0 0, .slice none 0 0, .slice none 0 0]) :: osg 34 x.2.2.1 x.2.2.2))
  (fun x => x.1 ≤ e.ord.length ∧ M2.le x.2.1 ∧ osok 1 x.2.2.1 x.1 x.2.2.2 ∧ x.2.2.2.length = x.1 ∧ ∀ j (h : j < x.2.2.2.length) (h' : j < e.ord.length), SlC x.2.1 1 ei x.2.2.2[j] e.ord[j]) (fun x => e.ord.length - x.1) (0, M2, none, []) rfl ⟨Nat.zero_le _, PHeap.le_refl _, ⟨rfl, rfl⟩, rfl, fun j h => absurd h (Nat.not_lt_zero _)⟩ ?env1 (List.Sublist.cons_cons _ (List.Sublist.cons_cons _ (List.nil_sublist _))) ?_
 case env1 =>
  repeat' first
   | (refine List.forall_mem_cons.2 (And.intro ?_ ?_))
   | (intro _ hnil; cases hnil; done)
   | rfl
   | fail
 rintro ⟨k, Mk, ov, vs⟩ ⟨hk, hMk, hov, hvl, hvs⟩ ih
 dsimp only at hk hMk hov hvl hvs ih ⊢
 repeat' first
   | refine EV.seq ?_
   | refine EV.skip ?_
   | refine EV.block ?_
   | (refine EV.reg ?_; (conv => (arg 2; whnf)); (refine nx ?_; try with_reducible exact ⟨⟩))
   | (refine EV.condX rfl (fun h => ?_) (fun h => ?_) <;> try exact dead h)
   | (refine EV.exit rfl ?_)
   | (refine xrA rfl ?_; try (refine nx ?_; try with_reducible exact ⟨⟩))
   | (refine xw ?_; (refine nx ?_; try with_reducible exact ⟨⟩))
   | fail
 ·have hk' : k < e.ord.length := by omega
  obtain ⟨ob, oo, rfl, hato⟩ := SlSlC.at hro hol hko (by omega)
  obtain ⟨la, lc, hr1, hlc, hr2⟩ := hato k hk'
  have hr1 := hr1.mono (PHeap.le_trans hM2 hMk)
  have hr2 := hr2.mono (PHeap.le_trans hM2 hMk)
  rw [Nat.mul_one] at hr1
  have hl5 := h5 _ (List.getElem_mem hk')
  repeat' first
    | (refine And.intro (by omega) ?_)
    | (refine Exists.intro _ (Exists.intro _ (Exists.intro _ (And.intro (rd_M (by assumption)) ?_))); try (refine nx ?_; try with_reducible exact ⟨⟩))
    | fail
  have hcl := fun G => sl_Clone_c (M := Mk.add G) e.ord[k] (.slice la e.ord[k].length lc) (⟨la, lc, rfl, hr2.mono (PHeap.le_add _ _)⟩) (by omega)
  refine EV.any (t := Q3_5) [(cb, Cl 45 [.slice f2 e.frm.length fc2, .slice d2 e.dn.length dc2, osv ov k, .slice n2 e.fen.length nc2])] (by simp) ?_
  simp only [norm_cons, norm_nil, get_cons, get_nil, reduceIte, Nat.reduceEqDiff]
  repeat' first
    | ((first | refine wQ_op (by first | with_reducible assumption | rfl) (fun lq hlq => ?_) | refine wQ_nil (by first | with_reducible assumption | rfl) ?_ | fail); try (refine nz ?_; try with_reducible exact ⟨⟩))
    | refine wA_q (by first | with_reducible assumption | rfl) (fun lq tq hlq htq => ?_)
    | ((with_reducible refine Con.callN (hcl _) ?_) ;  rintro v1 M1 G1 ⟨o1, rfl, ho1, rfl⟩; try (refine nz ?_; try with_reducible exact ⟨⟩))
    | (refine wA_s (by first | with_reducible assumption | rfl) (fun tq htq => ?_) (fun tq htq => ?_) <;> try (refine nz ?_; try with_reducible exact ⟨⟩))
    | (refine wA_sT (by first | with_reducible assumption | rfl) (fun tq htq => ?_) (fun tq htq => ?_) <;> try (refine nz ?_; try with_reducible exact ⟨⟩))
    | exact wA_no (by first | with_reducible assumption | rfl)
    | ((first | with_reducible intro b | refine xsA rfl ?_ | refine And.intro (PHeap.le_refl _) (And.intro (mem_of_sub ?_) ?_); focus ((repeat' first | exact List.Sublist.refl _ | exact List.nil_sublist _ | exact List.sublist_append_left _ _ | refine List.Sublist.cons_cons _ ?_ | refine List.Sublist.append_left ?_ _ | refine List.sublist_append_of_sublist_right ?_ | refine List.Sublist.cons _ ?_); done) | fail); try (refine nz ?_; try with_reducible exact ⟨⟩))
    | fail
  refine ⟨[osv o1 e.ord[k].length], Or.inr ⟨_, 0, rfl, rd_at (T := 34) (cs := [osv o1 e.ord[k].length]) (by simp) rfl (by simp)⟩, by simp [ok1_cons, ok1_nil, Value.oneCell'], Or.inl ⟨ov, _, rfl, _, hov, _, PullL.p, by simp only [maxLen]; omega, by omega, fun o2 ho2 _ => ?_⟩⟩
  repeat' first
    | ((first | refine wQ_op (by first | with_reducible assumption | rfl) (fun lq hlq => ?_) | refine wQ_nil (by first | with_reducible assumption | rfl) ?_ | fail); try (refine nz ?_; try with_reducible exact ⟨⟩))
    | refine wA_q (by first | with_reducible assumption | rfl) (fun lq tq hlq htq => ?_)
    | (refine wA_sT (by first | with_reducible assumption | rfl) (fun tq htq => ?_) (fun tq htq => ?_) <;> try (refine nz ?_; try with_reducible exact ⟨⟩))
    | exact wA_no (by first | with_reducible assumption | rfl)
    | refine wA_fin (by first | with_reducible assumption | rfl) ?_
    | (refine xw ?_; try (refine nz ?_; try with_reducible exact ⟨⟩))
    | fail
  refine EV.keepS ((cb, Cl 45 [.slice f2 e.frm.length fc2, .slice d2 e.dn.length dc2, osv o2 (k + 1), .slice n2 e.fen.length nc2]) :: (rb, Cl 45 [.slice none 0 0, .slice none 0 0, .slice none 0 0, .slice none 0 0]) :: osg 34 o2 (vs ++ [osv o1 e.ord[k].length])) ?_
  generalize hR : Mk.add _ = N
  have hMN : Mk.le N := hR ▸ PHeap.le_add _ _
  have hnew : SlC N 1 ei (osv o1 e.ord[k].length) e.ord[k] := hR ▸ SlC_osv (T := 3) ho1 rfl (fun q hq => by simp [hq])
  clear hR
  have ih3 := ih (k + 1, N, o2, vs ++ [osv o1 e.ord[k].length]) ⟨by dsimp only; omega, PHeap.le_trans hMk hMN, ho2, by simp [hvl], fun j hj hj2 => ?_⟩ (by dsimp only; omega)
  ·dsimp only at ih3
   repeat' first
     | refine EV.inBlock ?_
     | (refine EV.reg ?_; (conv => (arg 2; whnf)); (refine nx ?_; try with_reducible exact ⟨⟩))
     | fail
   refine EV.toS ih3 ?_
   repeat' first
    | (refine List.forall_mem_cons.2 (And.intro ?_ ?_))
    | (intro _ hnil; cases hnil; done)
    | rfl
    | (refine env_w64 rfl (by first | rfl | (push_cast; first | rfl | omega)) (by omega) (by omega); done)
    | fail
  ·dsimp only at hj ⊢
   by_cases hjv : j < vs.length
   ·rw [List.getElem_append_left hjv]; exact (hvs j hjv hj2).mono hMN
   ·have : j = k := by simp at hj; omega
    subst this
    rw [List.getElem_append_right (by omega)]
    simp only [hvl, Nat.sub_self, List.getElem_cons_zero]; exact hnew
 ·have hke : k = e.ord.length := by omega
  subst hke
  repeat' first
    | fail
  refine EV.keepS [(rb, Cl 45 [.slice f2 e.frm.length fc2, .slice d2 e.dn.length dc2, osv ov e.ord.length, .slice n2 e.fen.length nc2])] ?_
  generalize hR : Mk.add _ = N
  have hMN : Mk.le N := hR ▸ PHeap.le_add _ _
  have hro : rdS N 1 (oad ov) e.ord.length vs := hR ▸ rd_osg (T := 34) hov (fun q hq => by simp [hq])
  clear hR
  have hle := PHeap.le_trans hMk hMN
  refine EV.ret Q3_ok ?_
  simp only [wpS, wpA, wpQL, push_cast, Int.cast_ofNat_Int, reduceIte, Nat.reduceEqDiff, reduceCtorEq, Nat.reduceAdd, Nat.reduceSub, Nat.reduceMul, Int.reduceToNat, Nat.reduceLeDiff, Q3]
  refine ⟨_, rd_own' 0 rfl rfl (by simp), ?_⟩
  exact ⟨_, _, _, _, rfl, ⟨_, _, rfl, hf2.mono hle⟩, ⟨_, _, rfl, hd2.mono hle⟩, ⟨_, _, vs, rfl, hvl, hro, fun j a b => (hvs j a b).mono hMN⟩, ⟨_, _, rfl, hn2.mono hle⟩⟩

end
end Go.EV
