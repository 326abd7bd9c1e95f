/- The interleavings of a program are runs of its events. The outcome of each interleaving is one of the executions'. What litmus.Interleavings reckons has an outcome, and not too many. What can come of a thread's next operation: the walk. The outcome of a point of an interleaving: the walk. All interleavings: the walk. All interleavings: what litmus.Interleavings hands back. Each outcome of the interleavings is one of the executions': the walk. From a contract to a statement. What comes in, as it is read. Programs and lists that come in. -/
import Derived.Test.YtmgnpoleilcjoaaVPae
import Derived.Test.YtmgnpoleilcjoaaVPac
import Derived.WalkKit
import Derived.ProofKit
import Derived.OpenShut
import Derived.ChangeStays
import Derived.ChangeBears
import Derived.HandedShaped
import Derived.Test.YtmgnpoleilcjoaaVPab
import Derived.Test.YtmgnpoleilcjoaaRows
set_option maxRecDepth 8000
set_option linter.unusedSimpArgs false
set_option linter.unusedVariables false
set_option linter.unusedSectionVars false
namespace Go.EV
open Go.Proofs

/-- A point of an interleaving. -/
structure Mem where
 w0 : Int
 w1 : Int
 w2 : Int
 n0 : Nat
 n1 : Nat
 n2 : Nat
 r0 : List Int
 r1 : List Int
 r2 : List Int

def Mem.wd (m : Mem) (k : Int) : Int := if k = 0 then m.w0 else if k = 1 then m.w1 else m.w2
def Mem.nx (m : Mem) (t : Nat) : Nat := if t = 0 then m.n0 else if t = 1 then m.n1 else m.n2
def Mem.rd (m : Mem) (t : Nat) : List Int := if t = 0 then m.r0 else if t = 1 then m.r1 else m.r2
def Mem.setW (m : Mem) (k v : Int) : Mem := if k = 0 then { m with w0 := v } else if k = 1 then { m with w1 := v } else { m with w2 := v }
def Mem.bump (m : Mem) (t : Nat) : Mem := if t = 0 then { m with n0 := m.n0 + 1 } else if t = 1 then { m with n1 := m.n1 + 1 } else { m with n2 := m.n2 + 1 }
def Mem.addR (m : Mem) (t : Nat) (v : Int) : Mem := if t = 0 then { m with r0 := m.r0 ++ [v] } else if t = 1 then { m with r1 := m.r1 ++ [v] } else { m with r2 := m.r2 ++ [v] }
def Mem.out (m : Mem) : List Int := m.r0 ++ m.r1 ++ m.r2 ++ [m.w0, m.w1, m.w2]
def mem0 : Mem := ⟨0, 0, 0, 0, 0, 0, [], [], []⟩

section
variable {m : Mem} {t s : Nat} {k j v : Int}
theorem wd_bump : (m.bump t).wd k = m.wd k := by unfold Mem.bump; split <;> (try split) <;> rfl
theorem rd_bump : (m.bump t).rd s = m.rd s := by unfold Mem.bump; split <;> (try split) <;> rfl
theorem nx_bump (ht : t < 3) (hs : s < 3) : (m.bump t).nx s = if s = t then m.nx s + 1 else m.nx s := by
 match t, s, ht, hs with
 | 0, 0, _, _ => rfl
 | 0, 1, _, _ => rfl
 | 0, 2, _, _ => rfl
 | 1, 0, _, _ => rfl
 | 1, 1, _, _ => rfl
 | 1, 2, _, _ => rfl
 | 2, 0, _, _ => rfl
 | 2, 1, _, _ => rfl
 | 2, 2, _, _ => rfl
theorem wd_addR : (m.addR t v).wd k = m.wd k := by unfold Mem.addR; split <;> (try split) <;> rfl
theorem nx_addR : (m.addR t v).nx s = m.nx s := by unfold Mem.addR; split <;> (try split) <;> rfl
theorem rd_addR (ht : t < 3) (hs : s < 3) : (m.addR t v).rd s = if s = t then m.rd s ++ [v] else m.rd s := by
 match t, s, ht, hs with
 | 0, 0, _, _ => rfl
 | 0, 1, _, _ => rfl
 | 0, 2, _, _ => rfl
 | 1, 0, _, _ => rfl
 | 1, 1, _, _ => rfl
 | 1, 2, _, _ => rfl
 | 2, 0, _, _ => rfl
 | 2, 1, _, _ => rfl
 | 2, 2, _, _ => rfl
theorem nx_setW : (m.setW k v).nx s = m.nx s := by unfold Mem.setW; split <;> (try split) <;> rfl
theorem rd_setW : (m.setW k v).rd s = m.rd s := by unfold Mem.setW; split <;> (try split) <;> rfl
theorem wd_setW (hk : 0 ≤ k ∧ k < 3) (hj : 0 ≤ j ∧ j < 3) : (m.setW k v).wd j = if j = k then v else m.wd j := by
 obtain rfl | rfl | rfl : k = 0 ∨ k = 1 ∨ k = 2 := by omega
 all_goals
  obtain rfl | rfl | rfl : j = 0 ∨ j = 1 ∨ j = 2 := by omega
  all_goals rfl
end

/-- What can come of the next operation of a thread. -/
def goesP (m0 : Mem) (t : Nat) (o : OpV) : List Mem :=
 if accessP o = false then [m0.bump t] else
 let old := m0.wd o.loc
 let m := if o.kind ≠ 1 ∧ o.kind ≠ 5 then (m0.bump t).addR t old else m0.bump t
 if o.kind = 1 then [m.setW o.loc o.v] else if o.kind = 2 then [m.setW o.loc (IntKind.i64.wrap (old + o.v))] else
 if (o.kind = 3 ∨ o.kind = 4) ∧ old = o.v then (if o.kind = 4 then [m, m.setW o.loc o.w] else [m.setW o.loc o.w]) else [m]

theorem goes_mem {m m' : Mem} {t : Nat} {o : OpV} (ht : t < 3) (hk : 0 ≤ o.kind ∧ o.kind ≤ 5) (hl : 0 ≤ o.loc ∧ o.loc < 3) (h : m' ∈ goesP m t o) :
  ∃ c, (∀ s, s < 3 → m'.nx s = if s = t then m.nx s + 1 else m.nx s) ∧ (∀ k, 0 ≤ k → k < 3 → m'.wd k = (if wrO o (m.wd o.loc) c then upI m.wd o.loc (nwO o (m.wd o.loc)) else m.wd) k) ∧
   (∀ s, s < 3 → m'.rd s = upN m.rd t (m.rd t ++ if o.kind ≠ 1 ∧ o.kind ≠ 5 then [m.wd o.loc] else []) s) := by
 have hrd0 : ∀ s, s < 3 → (m.bump t).rd s = upN m.rd t (m.rd t ++ []) s := by
  intro s _
  rw [rd_bump, List.append_nil, upN]; split
  ·rename_i e; rw [e]
  ·rfl
 have hrd1 : ∀ v s, s < 3 → ((m.bump t).addR t v).rd s = upN m.rd t (m.rd t ++ [v]) s := by
  intro v s hs
  rw [rd_addR ht hs, rd_bump, upN]; split
  ·rename_i e; rw [e]
  ·rfl
 have hset : ∀ (m1 : Mem) (v : Int), (∀ k, m1.wd k = m.wd k) → ∀ k, 0 ≤ k → k < 3 → (m1.setW o.loc v).wd k = upI m.wd o.loc v k := by
  intro m1 v h1 k h0 h3
  rw [wd_setW hl ⟨h0, h3⟩, upI]; split
  ·rfl
  ·exact h1 k
 have hb1 : ∀ v k, ((m.bump t).addR t v).wd k = m.wd k := fun v k => by rw [wd_addR, wd_bump]
 have hnx : ∀ s, s < 3 → (m.bump t).nx s = if s = t then m.nx s + 1 else m.nx s := fun s hs => nx_bump ht hs
 obtain e | e | e | e | e | e : o.kind = 0 ∨ o.kind = 1 ∨ o.kind = 2 ∨ o.kind = 3 ∨ o.kind = 4 ∨ o.kind = 5 := by omega
 ·simp [goesP, accessP, e] at h
  subst h
  exact ⟨true, fun s hs => by rw [nx_addR]; exact hnx s hs, fun k _ _ => by simp [wrO, e, hb1], fun s hs => by rw [hrd1 _ s hs]; simp [e]⟩
 ·simp [goesP, accessP, e] at h
  subst h
  exact ⟨true, fun s hs => by rw [nx_setW]; exact hnx s hs, fun k h0 h3 => by rw [hset _ _ (fun k => wd_bump) k h0 h3]; simp [wrO, nwO, e], fun s hs => by rw [rd_setW, hrd0 s hs]; simp [e]⟩
 ·simp [goesP, accessP, e] at h
  subst h
  exact ⟨true, fun s hs => by rw [nx_setW, nx_addR]; exact hnx s hs, fun k h0 h3 => by rw [hset _ _ (hb1 _) k h0 h3]; simp [wrO, nwO, e], fun s hs => by rw [rd_setW, hrd1 _ s hs]; simp [e]⟩
 ·by_cases hv : m.wd o.loc = o.v
  ·simp [goesP, accessP, e, hv] at h
   subst h
   exact ⟨true, fun s hs => by rw [nx_setW, nx_addR]; exact hnx s hs, fun k h0 h3 => by rw [hset _ _ (hb1 _) k h0 h3]; simp [wrO, nwO, e, hv], fun s hs => by rw [rd_setW, hrd1 _ s hs]; simp [e, hv]⟩
  ·simp [goesP, accessP, e, hv] at h
   subst h
   exact ⟨true, fun s hs => by rw [nx_addR]; exact hnx s hs, fun k h0 h3 => by simp [wrO, e, hb1, hv], fun s hs => by rw [hrd1 _ s hs]; simp [e]⟩
 ·by_cases hv : m.wd o.loc = o.v
  ·simp [goesP, accessP, e, hv] at h
   rcases h with h | h
   ·subst h
    exact ⟨false, fun s hs => by rw [nx_addR]; exact hnx s hs, fun k h0 h3 => by simp [wrO, e, hb1], fun s hs => by rw [hrd1 _ s hs]; simp [e, hv]⟩
   ·subst h
    exact ⟨true, fun s hs => by rw [nx_setW, nx_addR]; exact hnx s hs, fun k h0 h3 => by rw [hset _ _ (hb1 _) k h0 h3]; simp [wrO, nwO, e, hv], fun s hs => by rw [rd_setW, hrd1 _ s hs]; simp [e, hv]⟩
  ·simp [goesP, accessP, e, hv] at h
   subst h
   exact ⟨true, fun s hs => by rw [nx_addR]; exact hnx s hs, fun k h0 h3 => by simp [wrO, e, hb1, hv], fun s hs => by rw [hrd1 _ s hs]; simp [e]⟩
 ·simp [goesP, accessP, e] at h
  subst h
  exact ⟨true, hnx, fun k _ _ => by simp [wrO, e, wd_bump], fun s hs => by rw [hrd0 s hs]; simp [e]⟩

/-- The outcomes from a point on, thread by thread. -/
def threadsP (rec : Mem → List (List Int)) (m : Mem) : List (List OpV) → Nat → Bool → List (List Int)
 | [], _, over => if over then [m.out] else []
 | l :: ls, t, over => if m.nx t = l.length then threadsP rec m ls (t + 1) over else
  (goesP m t (opAt l (m.nx t))).flatMap rec ++ if accessP (opAt l (m.nx t)) then threadsP rec m ls (t + 1) false else []
def walkP (ts : List (List OpV)) : Nat → Mem → List (List Int)
 | 0, m => threadsP (fun _ => []) m ts 0 true
 | f + 1, m => threadsP (walkP ts f) m ts 0 true

/-- Interleavings, step by step. -/
inductive Il (ts : List (List OpV)) : Mem → List Int → Prop
 | over {m : Mem} (h : ∀ t, t < ts.length → m.nx t = (ts[t]?.getD []).length) : Il ts m m.out
 | step {m m' : Mem} {t : Nat} {o : OpV} {x : List Int} (ho : (ts[t]?.getD [])[m.nx t]? = some o) (hm : m' ∈ goesP m t o) (hx : Il ts m' x) : Il ts m x

end Go.EV

namespace Go.EV
open Go.Proofs

def thr (ts : List (List OpV)) (t : Nat) : List OpV := ts[t]?.getD []
def baseOf (ts : List (List OpV)) (t : Nat) : Nat := (evsGo 0 ((ts.map expT).take t)).length

theorem expT_append (a b : List OpV) : expT (a ++ b) = expT a ++ expT b := by simp [expT, List.flatMap_append]
theorem q_thr (ts : List (List OpV)) (t : Nat) : (ts.map expT)[t]?.getD [] = expT (thr ts t) := by
 rw [List.getElem?_map, thr]
 cases ts[t]? <;> rfl

theorem lay_ts (ts : List (List OpV)) : Lay (evsOf ts) (ts.map expT) (baseOf ts) := lay_go _

theorem exp_at {l : List OpV} {n : Nat} {o : OpV} (h : l[n]? = some o) {k : Nat} (hk : k < (expOp o).length) : (expT l)[(expT (l.take n)).length + k]? = (expOp o)[k]? ∧ (expT (l.take (n + 1))).length = (expT (l.take n)).length + (expOp o).length := by
 obtain ⟨hn, e⟩ := List.getElem?_eq_some_iff.1 h
 have h1 : l.take (n + 1) = l.take n ++ [o] := by rw [List.take_succ_eq_append_getElem hn, e]
 have h2 : expT (l.take (n + 1)) = expT (l.take n) ++ expOp o := by rw [h1, expT_append]; simp [expT]
 have h3 : expT l = expT (l.take n) ++ (expOp o ++ expT (l.drop (n + 1))) := by
  rw [← List.append_assoc, ← h2, ← expT_append, List.take_append_drop]
 constructor
 ·rw [h3, List.getElem?_append_right (by omega), Nat.add_sub_cancel_left, List.getElem?_append_left hk]
 ·rw [h2, List.length_append]

/-- A run goes with a point of an interleaving. -/
def RelM (ts : List (List OpV)) (tr : List (Nat × Bool)) (m : Mem) : Prop :=
 ∃ y wd rd, RelE (evsOf ts) (ts.map expT) (baseOf ts) tr y wd rd ∧ (∀ t, t < 3 → y t = (expT ((thr ts t).take (m.nx t))).length ∧ rd t = m.rd t) ∧ (∀ t, 3 ≤ t → y t = 0) ∧ ∀ k, 0 ≤ k → k < 3 → wd k = m.wd k

theorem relM_nil (ts : List (List OpV)) : RelM ts [] mem0 := by
 refine ⟨_, _, _, RelE.nil, fun t ht => ?_, fun _ _ => rfl, fun k _ _ => ?_⟩
 ·have h1 : mem0.nx t = 0 := by unfold Mem.nx mem0; split <;> (try split) <;> rfl
  have h2 : mem0.rd t = [] := by unfold Mem.rd mem0; split <;> (try split) <;> rfl
  rw [h1, h2]; exact ⟨rfl, rfl⟩
 ·unfold Mem.wd mem0; split <;> (try split) <;> rfl

theorem upN_same {α : Type} {f : Nat → α} {k : Nat} : upN f k (f k) = f := by
 funext j; unfold upN; split
 ·rename_i e; rw [e]
 ·rfl

/-- A fence moves nothing. -/
theorem RelE.fence {p : List Ev} {q : List (List OpV)} {base : Nat → Nat} {tr : List (Nat × Bool)} {y : Nat → Nat} {wd : Int → Int} {rd : Nat → List Int} (h : RelE p q base tr y wd rd) (hl : Lay p q base) (hp : POk p) {t : Nat} {o : OpV} (ho : (q[t]?.getD [])[y t]? = some o) (h5 : o.kind = 5) :
  RelE p q base (tr ++ [(base t + y t, true)]) (upN y t (y t + 1)) wd rd := by
 have h1 := h.step hl hp ho true
 have e1 : wrO o (wd o.loc) true = false := by simp [wrO, h5]
 have e2 : ¬ (o.kind ≠ 1 ∧ o.kind ≠ 5) := fun k => k.2 h5
 rw [if_neg (by rw [e1]; decide), if_neg e2, List.append_nil, upN_same] at h1
 exact h1

theorem upN_upN {α : Type} {f : Nat → α} {k : Nat} {a b : α} : upN (upN f k a) k b = upN f k b := by
 funext j; unfold upN; split <;> simp_all

theorem relM_step {ts : List (List OpV)} (hc : checkP ts = 0) {tr : List (Nat × Bool)} {m m' : Mem} (h : RelM ts tr m) {t : Nat} (ht : t < 3) {o : OpV} (ho : (thr ts t)[m.nx t]? = some o) (hm : m' ∈ goesP m t o) : ∃ tr', RelM ts tr' m' := by
 obtain ⟨y, wd, rd, hr, hy, hy3, hwd⟩ := h
 have hp := evs_pok hc
 have hl := lay_ts ts
 have hk : ∀ k, k < (expOp o).length → ((ts.map expT)[t]?.getD [])[y t + k]? = (expOp o)[k]? := by
  intro k hk
  rw [q_thr, (hy t ht).1]; exact (exp_at ho hk).1
 have hpos : 0 < (expOp o).length := by unfold expOp; split <;> simp
 have hlen := (exp_at ho hpos).2
 -- what the operation is
 have hfirst : ∀ k, k < (expOp o).length → ∃ e, (expOp o)[k]? = some e ∧ 0 ≤ e.loc ∧ e.loc < 3 ∧ 0 ≤ e.kind ∧ e.kind ≤ 5 := by
  intro k hk'
  refine ⟨(expOp o)[k], List.getElem?_eq_getElem hk', ?_⟩
  have h1 := hk k hk'
  rw [List.getElem?_eq_getElem hk'] at h1
  obtain ⟨h2, h3⟩ := hl.at_ t (y t + k) _ h1
  have h4 := hp.loc _ h2
  have h5 := evs_kind hc _ h2
  rw [h3] at h4 h5
  exact ⟨h4.1, h4.2, h5.1, h5.2⟩
 by_cases hx : accessP o = false ∨ o.ord ≠ 4
 ·have he : expOp o = [o] := by unfold expOp; rw [if_pos hx]
  obtain ⟨e, h1, h2, h3, h4, h5⟩ := hfirst 0 hpos
  have : e = o := by rw [he] at h1; simpa using h1.symm
  subst this
  obtain ⟨c, k1, k2, k3⟩ := goes_mem ht ⟨h4, h5⟩ ⟨h2, h3⟩ hm
  have hs := hr.step hl hp (by rw [← h1]; exact hk 0 hpos) c
  rw [hwd _ h2 h3, (hy t ht).2] at hs
  refine ⟨_, _, _, _, hs, ?_, ?_, ?_⟩
  ·intro s hs3
   rw [k1 s hs3, k3 s hs3]
   constructor
   ·unfold upN; split
    ·rename_i e1; subst e1; rw [(hy s hs3).1, hlen, he]; rfl
    ·exact (hy s hs3).1
   ·unfold upN; split
    ·rfl
    ·exact (hy s hs3).2
  ·intro s hs3
   unfold upN; rw [if_neg (by omega)]; exact hy3 s hs3
  ·intro k hk0 hk3
   rw [k2 k hk0 hk3]
   split
   ·unfold upI; split
    ·rfl
    ·exact hwd k hk0 hk3
   ·exact hwd k hk0 hk3
 ·have he : expOp o = [sfence, { o with ord := plainP o.kind o.ord }, sfence] := by unfold expOp; rw [if_neg hx]
  have hlen3 : (expOp o).length = 3 := by rw [he]; rfl
  obtain ⟨e, h1, h2, h3, h4, h5⟩ := hfirst 1 (by omega)
  have e1 : e = { o with ord := plainP o.kind o.ord } := by rw [he] at h1; simpa using h1.symm
  have hloc : 0 ≤ o.loc ∧ o.loc < 3 := by rw [e1] at h2 h3; exact ⟨h2, h3⟩
  obtain ⟨c, k1, k2, k3⟩ := goes_mem ht (by rw [e1] at h4 h5; exact ⟨h4, h5⟩) hloc hm
  have hs1 := hr.fence hl hp (o := sfence) (by have := hk 0 (by omega); rw [he] at this; exact this) rfl
  have hs2 := hs1.step hl hp (t := t) (o := { o with ord := plainP o.kind o.ord }) (by
   have := hk 1 (by omega); rw [he] at this
   rw [show upN y t (y t + 1) t = y t + 1 from by simp [upN]]; exact this) c
  have hs3 := hs2.fence hl hp (t := t) (o := sfence) (by
   have := hk 2 (by omega); rw [he] at this
   rw [upN_upN, show upN y t (upN y t (y t + 1) t + 1) t = y t + 2 from by simp [upN]]; exact this) rfl
  simp only [upN_upN] at hs3
  have ey : upN y t (y t + 1) t = y t + 1 := by simp [upN]
  rw [ey] at hs3
  have ey2 : upN y t (y t + 1 + 1) t = y t + 2 := by simp [upN]
  rw [ey2] at hs3
  have ew : wrO { o with ord := plainP o.kind o.ord } (wd o.loc) c = wrO o (wd o.loc) c := rfl
  have en : nwO { o with ord := plainP o.kind o.ord } (wd o.loc) = nwO o (wd o.loc) := rfl
  rw [ew, en, hwd _ hloc.1 hloc.2, (hy t ht).2] at hs3
  refine ⟨_, _, _, _, hs3, ?_, ?_, ?_⟩
  ·intro s hs9
   rw [k1 s hs9, k3 s hs9]
   constructor
   ·unfold upN; split
    ·rename_i e1; subst e1; rw [(hy s hs9).1, hlen, hlen3]
    ·exact (hy s hs9).1
   ·unfold upN; split
    ·rfl
    ·exact (hy s hs9).2
  ·intro s hs9
   unfold upN; rw [if_neg (by omega)]; exact hy3 s hs9
  ·intro k hk0 hk3
   rw [k2 k hk0 hk3]
   split
   ·unfold upI; split
    ·rfl
    ·exact hwd k hk0 hk3
   ·exact hwd k hk0 hk3

theorem base_succ (q : List (List OpV)) (t : Nat) : (evsGo 0 (q.take (t + 1))).length = (evsGo 0 (q.take t)).length + (q[t]?.getD []).length := by
 simp only [evsGo_len]
 by_cases ht : t < q.length
 ·rw [List.take_succ_eq_append_getElem ht, List.flatten_append, List.length_append, List.getElem?_eq_getElem ht]; simp
 ·rw [List.take_of_length_le (by omega), List.take_of_length_le (by omega), List.getElem?_eq_none (by omega)]; simp

theorem il_out {ts : List (List OpV)} (hc : checkP ts = 0) {m : Mem} {x : List Int} (h : Il ts m x) : ∀ {tr : List (Nat × Bool)}, RelM ts tr m → IsOut (evsOf ts) x := by
 have h3 := (checkP_small hc).2
 induction h with
 | @over m h =>
  intro tr ⟨y, wd, rd, hr, hy, hy3, hwd⟩
  have hp := evs_pok hc
  have hl := lay_ts ts
  have hyl : ∀ t, y t = ((ts.map expT)[t]?.getD []).length := by
   intro t
   rw [q_thr]
   by_cases ht : t < ts.length
   ·rw [(hy t (by omega)).1, h t ht]
    show (expT ((thr ts t).take (thr ts t).length)).length = _
    rw [List.take_length]
   ·have e : thr ts t = [] := by simp only [thr]; rw [List.getElem?_eq_none (by omega)]; rfl
    by_cases ht3 : t < 3
    ·rw [(hy t ht3).1, e]; simp
    ·rw [hy3 t (by omega), e]; rfl
  have hrun := hr.run hl hyl
  have ho := run_out hrun hp (evs_mono ts)
  have hb : ∀ t, baseOf ts (t + 1) = baseOf ts t + y t := fun t => by rw [hyl t]; exact base_succ _ t
  have hb0 : baseOf ts 0 = 0 := rfl
  have hn : (evsOf ts).length = baseOf ts 3 := by
   simp only [baseOf, evsOf]; rw [List.take_of_length_le (by simpa using h3)]
  have happ : ∀ (s : Sx) (l m : List Nat), rdsX (evsOf ts) s (l ++ m) = rdsX (evsOf ts) s l ++ rdsX (evsOf ts) s m := fun s l m => by simp [rdsX, List.flatMap_append]
  have hrng : List.range (evsOf ts).length = (List.range (y 0)).map (baseOf ts 0 + ·) ++ (List.range (y 1)).map (baseOf ts 1 + ·) ++ (List.range (y 2)).map (baseOf ts 2 + ·) := by
   rw [hn, hb 2, range_add', hb 1, range_add', hb 0, range_add', hb0]
   simp
  rw [hrng, happ, happ, hr.rd, hr.rd, hr.rd, (hy 0 (by omega)).2, (hy 1 (by omega)).2, (hy 2 (by omega)).2, hr.wd 0 (by omega) (by omega), hr.wd 1 (by omega) (by omega), hr.wd 2 (by omega) (by omega), hwd 0 (by omega) (by omega), hwd 1 (by omega) (by omega), hwd 2 (by omega) (by omega)] at ho
  exact ho
 | @step m m' t o x ho hm hx ih =>
  intro tr hr
  have ht : t < 3 := by
   apply Classical.byContradiction
   intro hn
   rw [List.getElem?_eq_none (by omega : ts.length ≤ t)] at ho
   simp at ho
  obtain ⟨tr', hr'⟩ := relM_step hc hr ht ho hm
  exact ih hr'

theorem threads_il {ts : List (List OpV)} {rec : Mem → List (List Int)} {m : Mem} (hrec : ∀ t o m' x, (ts[t]?.getD [])[m.nx t]? = some o → m' ∈ goesP m t o → x ∈ rec m' → Il ts m' x) (hle : ∀ t, t < ts.length → m.nx t ≤ (ts[t]?.getD []).length) :
  ∀ (ls : List (List OpV)) (t : Nat) (over : Bool), ls = ts.drop t → (over = true → ∀ s, s < t → s < ts.length → m.nx s = (ts[s]?.getD []).length) → ∀ x ∈ threadsP rec m ls t over, Il ts m x
 | [], t, over, hls, hov, x, hx => by
  simp only [threadsP] at hx
  split at hx
  ·rename_i h
   simp only [List.mem_singleton] at hx
   subst hx
   have hlen : ts.length ≤ t := by
    have := congrArg List.length hls
    simp at this; omega
   exact .over fun s hs => hov h s (by omega) hs
  ·cases hx
 | l :: ls, t, over, hls, hov, x, hx => by
  have ht : t < ts.length := by
   apply Classical.byContradiction
   intro h; rw [List.drop_eq_nil_of_le (by omega)] at hls; cases hls
  rw [List.drop_eq_getElem_cons ht] at hls
  obtain ⟨rfl, rfl⟩ := List.cons.inj hls
  have hget : ts[t]?.getD [] = ts[t] := by rw [List.getElem?_eq_getElem ht]; rfl
  have hlt := hle t ht
  rw [hget] at hlt
  simp only [threadsP] at hx
  split at hx
  ·rename_i h
   refine threads_il hrec hle _ (t + 1) over rfl (fun h1 s hs hsl => ?_) x hx
   by_cases hst : s = t
   ·subst hst; rw [hget]; exact h
   ·exact hov h1 s (by omega) hsl
  ·rename_i h
   have hop : (ts[t]?.getD [])[m.nx t]? = some (opAt ts[t] (m.nx t)) := by
    rw [hget, opAt, List.getElem?_eq_getElem (by omega)]; rfl
   rcases List.mem_append.1 hx with hx | hx
   ·obtain ⟨m', hm', hx⟩ := List.mem_flatMap.1 hx
    exact .step hop hm' (hrec t _ m' x hop hm' hx)
   ·split at hx
    ·exact threads_il hrec hle _ (t + 1) false rfl (fun h1 => by cases h1) x hx
    ·cases hx

theorem nx_goes {m m' : Mem} {t : Nat} {o : OpV} (ht : t < 3) (h : m' ∈ goesP m t o) : ∀ s, s < 3 → m'.nx s = if s = t then m.nx s + 1 else m.nx s := by
 intro s hs
 have hb := nx_bump (m := m) ht hs
 have key : ∀ l : List Mem, (∀ x ∈ l, x.nx s = (m.bump t).nx s) → m' ∈ l → m'.nx s = if s = t then m.nx s + 1 else m.nx s := fun l hl hm => by rw [hl m' hm, hb]
 refine key _ ?_ h
 intro x hx
 unfold goesP at hx
 split at hx
 ·simp only [List.mem_singleton] at hx; rw [hx]
 ·dsimp only at hx
  generalize hm1 : (if o.kind ≠ 1 ∧ o.kind ≠ 5 then (m.bump t).addR t (m.wd o.loc) else m.bump t) = m1 at hx
  have h1 : m1.nx s = (m.bump t).nx s := by
   rw [← hm1]; split
   ·rw [nx_addR]
   ·rfl
  rw [← h1]
  split at hx
  ·simp only [List.mem_singleton] at hx; rw [hx, nx_setW]
  ·split at hx
   ·simp only [List.mem_singleton] at hx; rw [hx, nx_setW]
   ·split at hx
    ·split at hx
     ·simp only [List.mem_cons, List.not_mem_nil, or_false] at hx
      rcases hx with hx | hx
      ·rw [hx]
      ·rw [hx, nx_setW]
     ·simp only [List.mem_singleton] at hx; rw [hx, nx_setW]
    ·simp only [List.mem_singleton] at hx; rw [hx]

theorem walk_il {ts : List (List OpV)} (h3 : ts.length ≤ 3) : ∀ (f : Nat) (m : Mem), (∀ t, t < ts.length → m.nx t ≤ (ts[t]?.getD []).length) → ∀ x ∈ walkP ts f m, Il ts m x
 | 0, m, hle, x, hx => threads_il (rec := fun _ => []) (fun _ _ _ _ _ _ h => by cases h) hle ts 0 true rfl (fun _ s hs => absurd hs (by omega)) x hx
 | f + 1, m, hle, x, hx => by
  refine threads_il (rec := walkP ts f) (fun t o m' y ho hm hy => ?_) hle ts 0 true rfl (fun _ s hs => absurd hs (by omega)) x hx
  have ht : t < ts.length := by
   apply Classical.byContradiction
   intro hn
   rw [List.getElem?_eq_none (by omega : ts.length ≤ t)] at ho
   simp at ho
  refine walk_il h3 f m' (fun s hs => ?_) y hy
  rw [nx_goes (by omega) hm s (by omega)]
  split
  ·rename_i e; subst e
   exact (List.getElem?_eq_some_iff.1 ho).1
  ·exact hle s hs

/-- The outcomes of all interleavings are those of executions. -/
theorem walk_out {ts : List (List OpV)} (hc : checkP ts = 0) (f : Nat) : ∀ x ∈ walkP ts f mem0, IsOut (evsOf ts) x := fun x hx =>
 il_out hc (walk_il (checkP_small hc).2 f mem0 (fun t _ => by
  have h1 : mem0.nx t = 0 := by unfold Mem.nx mem0; split <;> (try split) <;> rfl
  rw [h1]; exact Nat.zero_le _) x hx) (relM_nil ts)

end Go.EV

namespace Go.EV
open Go.Proofs

theorem goes_len (m : Mem) (t : Nat) (o : OpV) : 1 ≤ (goesP m t o).length ∧ (goesP m t o).length ≤ 2 := by
 unfold goesP
 split
 ·simp
 ·dsimp only
  split
  ·simp
  ·split
   ·simp
   ·split
    ·split <;> simp
    ·simp

theorem threads_len {rec : Mem → List (List Int)} {c : Nat} {m : Mem} (hrec : ∀ m, (rec m).length ≤ c) : ∀ (ls : List (List OpV)) (t : Nat) (over : Bool), (threadsP rec m ls t over).length ≤ ls.length * (2 * c) + 1
 | [], t, over => by simp only [threadsP]; split <;> simp
 | l :: ls, t, over => by
  have ih := fun b => threads_len (m := m) hrec ls (t + 1) b
  simp only [threadsP, List.length_cons]
  split
  ·have := ih over
   rw [Nat.add_mul]; omega
  ·rw [List.length_append]
   have h1 : ((goesP m t (opAt l (m.nx t))).flatMap rec).length ≤ 2 * c := by
    refine Nat.le_trans (flatMap_le (c := c) fun x _ => hrec x) ?_
    exact Nat.mul_le_mul_right c (goes_len m t _).2
   split
   ·have := ih false
    rw [Nat.add_mul]; omega
   ·rw [Nat.add_mul]; simp only [List.length_nil]; omega

theorem walk_len {ts : List (List OpV)} (h3 : ts.length ≤ 3) : ∀ f m, (walkP ts f m).length ≤ 7 ^ f
 | 0, m => by
  have := threads_len (rec := fun _ => []) (c := 0) (m := m) (fun _ => Nat.le_refl _) ts 0 true
  simp only [walkP]; omega
 | f + 1, m => by
  have := threads_len (rec := walkP ts f) (c := 7 ^ f) (m := m) (fun m => walk_len h3 f m) ts 0 true
  have h1 : 1 ≤ 7 ^ f := Nat.one_le_pow _ _ (by decide)
  have h2 : ts.length * (2 * 7 ^ f) ≤ 3 * (2 * 7 ^ f) := Nat.mul_le_mul_right _ h3
  simp only [walkP, Nat.pow_succ]; omega

/-- How much is left to do. -/
def leftGo (m : Mem) : List (List OpV) → Nat → Nat
 | [], _ => 0
 | l :: ls, t => (l.length - m.nx t) + leftGo m ls (t + 1)
def leftP (ts : List (List OpV)) (m : Mem) : Nat := leftGo m ts 0

theorem left_zero {m : Mem} : ∀ (ls : List (List OpV)) (t : Nat), leftGo m ls t = 0 → ∀ s, s < ls.length → (ls[s]?.getD []).length ≤ m.nx (t + s)
 | [], t, _, s, hs => by simp at hs
 | l :: ls, t, h, s, hs => by
  simp only [leftGo] at h
  match s with
  | 0 => simp; omega
  | s + 1 =>
   have := left_zero (m := m) ls (t + 1) (by omega) s (by simpa using hs)
   simp only [List.getElem?_cons_succ]
   rw [show t + (s + 1) = t + 1 + s by omega]; exact this

theorem left_congr {m m' : Mem} : ∀ (ls : List (List OpV)) (t : Nat), (∀ s, t ≤ s → s < t + ls.length → m'.nx s = m.nx s) → leftGo m' ls t = leftGo m ls t
 | [], _, _ => rfl
 | l :: ls, t, h => by
  simp only [leftGo]
  rw [h t (Nat.le_refl _) (by simp), left_congr ls (t + 1) fun s h1 h2 => h s (by omega) (by simp only [List.length_cons]; omega)]

theorem left_step {m m' : Mem} {k : Nat} (hk : ∀ s, s < 3 → m'.nx s = if s = k then m.nx s + 1 else m.nx s) : ∀ (ls : List (List OpV)) (t : Nat), t + ls.length ≤ 3 → t ≤ k → k < t + ls.length → m.nx k < (ls[k - t]?.getD []).length → leftGo m' ls t + 1 = leftGo m ls t
 | [], t, _, h1, h2, _ => by simp at h2; omega
 | l :: ls, t, h3, h1, h2, hlt => by
  simp only [List.length_cons] at h2 h3
  simp only [leftGo]
  by_cases e : k = t
  ·subst e
   rw [Nat.sub_self] at hlt
   simp only [List.getElem?_cons_zero, Option.getD_some] at hlt
   rw [hk k (by omega), if_pos rfl, left_congr (m := m) (m' := m') ls (k + 1) fun s h4 h5 => by rw [hk s (by omega), if_neg (by omega)]]
   omega
  ·have := left_step hk ls (t + 1) (by omega) (by omega) (by omega) (by
    rw [show k - t = (k - (t + 1)) + 1 by omega] at hlt
    simpa using hlt)
   rw [hk t (by omega), if_neg (fun h => e h.symm)]
   omega

theorem threads_ne {rec : Mem → List (List Int)} {m : Mem} {ts : List (List OpV)} (hrec : ∀ t o m', (ts[t]?.getD [])[m.nx t]? = some o → m' ∈ goesP m t o → rec m' ≠ []) (hle : ∀ t, t < ts.length → m.nx t ≤ (ts[t]?.getD []).length) :
  ∀ (ls : List (List OpV)) (t : Nat), ls = ts.drop t → threadsP rec m ls t true ≠ []
 | [], t, _ => by simp [threadsP]
 | l :: ls, t, hls => by
  have ht : t < ts.length := by
   apply Classical.byContradiction
   intro h; rw [List.drop_eq_nil_of_le (by omega)] at hls; cases hls
  rw [List.drop_eq_getElem_cons ht] at hls
  obtain ⟨rfl, rfl⟩ := List.cons.inj hls
  have hget : ts[t]?.getD [] = ts[t] := by rw [List.getElem?_eq_getElem ht]; rfl
  have hlt := hle t ht
  rw [hget] at hlt
  simp only [threadsP]
  split
  ·exact threads_ne hrec hle _ (t + 1) rfl
  ·rename_i h
   have hop : (ts[t]?.getD [])[m.nx t]? = some (opAt ts[t] (m.nx t)) := by
    rw [hget, opAt, List.getElem?_eq_getElem (by omega)]; rfl
   intro e
   have e1 := (List.append_eq_nil_iff.1 e).1
   rw [List.flatMap_eq_nil_iff] at e1
   have h1 := (goes_len m t (opAt ts[t] (m.nx t))).1
   exact hrec t _ _ hop (List.getElem_mem (n := 0) (by omega)) (e1 _ (List.getElem_mem (n := 0) (by omega)))

theorem walk_ne {ts : List (List OpV)} (h3 : ts.length ≤ 3) : ∀ (f : Nat) (m : Mem), (∀ t, t < ts.length → m.nx t ≤ (ts[t]?.getD []).length) → leftP ts m ≤ f → walkP ts f m ≠ []
 | 0, m, hle, hl => by
  refine threads_ne (rec := fun _ => []) (fun t o m' ho _ => ?_) hle ts 0 rfl
  have ht : t < ts.length := by
   apply Classical.byContradiction
   intro hn
   rw [List.getElem?_eq_none (by omega : ts.length ≤ t)] at ho
   simp at ho
  have := left_zero (m := m) ts 0 (by unfold leftP at hl; omega) t ht
  have h5 := (List.getElem?_eq_some_iff.1 ho).1
  rw [Nat.zero_add] at this
  omega
 | f + 1, m, hle, hl => by
  refine threads_ne (rec := walkP ts f) (fun t o m' ho hm => ?_) hle ts 0 rfl
  have ht : t < ts.length := by
   apply Classical.byContradiction
   intro hn
   rw [List.getElem?_eq_none (by omega : ts.length ≤ t)] at ho
   simp at ho
  have h5 := (List.getElem?_eq_some_iff.1 ho).1
  have hnx := nx_goes (by omega) hm
  refine walk_ne h3 f m' (fun s hs => ?_) ?_
  ·rw [hnx s (by omega)]
   split
   ·rename_i e; subst e; exact h5
   ·exact hle s hs
  ·have := left_step (m := m) (m' := m') (k := t) hnx ts 0 (by omega) (by omega) (by omega) (by simpa using h5)
   unfold leftP at hl ⊢
   omega

end Go.EV

namespace Go.EV
open Go.Proofs

/-- The cells of a point of an interleaving. -/
def encM (m : Mem) (s : Nat → Value) : List Value := [vi m.w0, vi m.w1, vi m.w2, vi m.n0, vi m.n1, vi m.n2, s 0, s 1, s 2]
def IsMem (M : PHeap) (cs : List Value) (m : Mem) : Prop := ∃ s, cs = encM m s ∧ ∀ t, t < 3 → SlC M 1 ei (s t) (m.rd t)
theorem IsMem.mono {M M' : PHeap} {cs : List Value} {m : Mem} (hM : M.le M') (h : IsMem M cs m) : IsMem M' cs m :=
 let ⟨s, e, k⟩ := h; ⟨s, e, fun t ht => (k t ht).mono hM⟩

section
variable {m : Mem} {s : Nat → Value} {t : Nat} {k v : Int}
theorem t3 (h : t < 3) : t = 0 ∨ t = 1 ∨ t = 2 := by omega
theorem k3 (h : 0 ≤ k ∧ k < 3) : k = 0 ∨ k = 1 ∨ k = 2 := by omega
theorem encM_len : (encM m s).length = 9 := rfl
theorem encM_nx (h : t < 3) : ((encM m s).drop (3 + t)).take 1 = [vi (m.nx t)] := by rcases t3 h with rfl | rfl | rfl <;> rfl
theorem encM_wd (h : 0 ≤ k ∧ k < 3) : ((encM m s).drop k.toNat).take 1 = [vi (m.wd k)] := by rcases k3 h with rfl | rfl | rfl <;> rfl
theorem encM_rd (h : t < 3) : ((encM m s).drop (6 + t)).take 1 = [s t] := by rcases t3 h with rfl | rfl | rfl <;> rfl
theorem encM_bump (h : t < 3) : List.take (3 + t) (encM m s) ++ vi ((m.nx t : Int) + 1) :: List.drop (3 + t + 1) (encM m s) = encM (m.bump t) s := by rcases t3 h with rfl | rfl | rfl <;> rfl
theorem encM_setW (h : 0 ≤ k ∧ k < 3) : List.take k.toNat (encM m s) ++ vi v :: List.drop (k.toNat + 1) (encM m s) = encM (m.setW k v) s := by rcases k3 h with rfl | rfl | rfl <;> rfl
theorem encM_put {x : Value} (h : t < 3) : List.take (6 + t) (encM m s) ++ x :: List.drop (6 + t + 1) (encM m s) = encM m (upN s t x) := by rcases t3 h with rfl | rfl | rfl <;> rfl
theorem encM_addR : encM (m.addR t v) s = encM m s := by unfold Mem.addR; split <;> (try split) <;> rfl
variable {M : PHeap} {G : Own} {b : Nat} {T : TypeId}
theorem rd_nx [h : At G b T (encM m s)] (ht : t < 3) : rd (M.add G) b (3 + t) 1 [vi (m.nx t)] := rd_at h.mem (encM_nx ht) (by rw [encM_len]; omega)
theorem rd_wd [h : At G b T (encM m s)] (hk : 0 ≤ k ∧ k < 3) : rd (M.add G) b k.toNat 1 [vi (m.wd k)] := rd_at h.mem (encM_wd hk) (by rw [encM_len]; omega)
theorem rd_all [h : At G b T (encM m s)] : rd (M.add G) b 0 9 (encM m s) := rd_at h.mem rfl (Nat.le_refl _)
theorem rd_rs [h : At G b T (encM m s)] (ht : t < 3) : rd (M.add G) b (6 + t) 1 [s t] := rd_at h.mem (encM_rd ht) (by rw [encM_len]; omega)
end

section
variable {M : PHeap}

def readsP (o : OpV) : Bool := accessP o && decide (o.kind ≠ 1)
theorem litmus_reads_q (o : OpV) : ConQ Try.prog 50 #[vop o] M (vb (readsP o)) := by
 refine Con.enter Q54_ok (args := [vop o]) (by simp [Q54]) fun w0 => ?_
 simp only [Q54, argE]
 repeat' first
   | refine EV.seq ?_
   | (refine EV.reg ?_; (conv => (arg 2; whnf)); (refine nx ?_; try with_reducible exact ⟨⟩))
   | (refine ConQ.call (litmus_access_q o) ?_; try (refine nx ?_; try with_reducible exact ⟨⟩))
   | with_reducible assumption
   | (refine condW.merge ?_ (fun hc K' hK => ?_) ?_; rotate_left)
   | (refine EV.ret Q54_ok ?_; simp only [wpS, wpA, wpQL, push_cast, Int.cast_ofNat_Int, reduceIte, Nat.reduceEqDiff, reduceCtorEq, Nat.reduceAdd, Nat.reduceSub, Nat.reduceMul, Int.reduceToNat, Nat.reduceLeDiff, Q54])
   | ((first | with_reducible intro b | refine xrA rfl ?_ | refine xiA rfl ?_ | fail); try (refine nx ?_; try with_reducible exact ⟨⟩))
   | fail
 all_goals simp_all [readsP, accessP]

theorem mem_leaf1 {N : PHeap} {b cap : Nat} {m' : Mem} {L : List Mem} {cs : List Value} (hL : L = [m']) (hr : rd N b 0 9 cs) (hm : IsMem N cs m') :
  ∃ b' c, (Value.slice (some ⟨b, 0, none⟩) 1 cap) = .slice (some ⟨b', 0, none⟩) L.length c ∧ ∀ i (h : i < L.length), ∃ cs, rd N b' (i * 9) 9 cs ∧ IsMem N cs L[i] := by
 subst hL
 refine ⟨b, cap, rfl, fun i h => ?_⟩
 have : i = 0 := by simp at h; omega
 subst this
 exact ⟨cs, by simpa using hr, hm⟩

set_option maxHeartbeats 4000000 in
theorem lm_goes_c (m : Mem) (s : Nat → Value) (t : Nat) (o : OpV) (ht : t < 3) (hk : 0 ≤ o.kind ∧ o.kind ≤ 5) (hl : 0 ≤ o.loc ∧ o.loc < 3) (hs : ∀ t, t < 3 → SlC M 1 ei (s t) (m.rd t)) (hn : m.nx t < 1000000) (hr : (m.rd t).length < 1000000) :
  Con Try.prog 26 #[.agg (encM m s).toArray, vi t, vop o] M [] fun v' M' _ =>
   ∃ b c, v' = .slice (some ⟨b, 0, none⟩) (goesP m t o).length c ∧ ∀ i (h : i < (goesP m t o).length), ∃ cs, rd M' b (i * 9) 9 cs ∧ IsMem M' cs (goesP m t o)[i] := by
 have e1 : IntKind.i64.wrap ((m.nx t : Int) + 1) = ((m.nx t + 1 : Nat) : Int) := w64 (by omega) (by omega)
 refine Con.enter Q52_ok (args := [.agg (encM m s).toArray, vi t, vop o]) (by simp [Q52]) fun ww => ?_
 simp only [Q52, argE]
 refine EV.seq (EV.reg ?_)
 simp only [wpS, wpA, wpQL, push_cast, Int.cast_ofNat_Int, reduceIte, Nat.reduceEqDiff, reduceCtorEq, Nat.reduceAdd, Nat.reduceSub, Nat.reduceMul, Int.reduceToNat, Nat.reduceLeDiff, Q52_0]
 intro mb ob
 refine EV.seq ?_
 refine EV.to (ρ' := [(1, vi t), (3, pv mb 0), (5, pv ob 0), (6, .slice none 0 0)]) (G' := [(ob, Cl 33 (encOp o)), (mb, Cl 65 (encM m s))]) ?_ ?env (List.Sublist.refl _)
 case env =>
  repeat' first
   | (refine List.forall_mem_cons.2 (And.intro ?_ ?_))
   | (intro _ hnil; cases hnil; done)
   | rfl
   | fail
 repeat' first
   | (refine EV.reg ?_; (conv => (arg 2; whnf)); simp only [wpS, wpA, wpQL, push_cast, Int.cast_ofNat_Int, reduceIte, Nat.reduceEqDiff, reduceCtorEq, Nat.reduceAdd, Nat.reduceSub, Nat.reduceMul, Int.reduceToNat, Nat.reduceLeDiff, e1, Nat.mul_one, encM_len, encM_bump ht])
   | (refine Exists.intro _ (And.intro (rd_nx ht) ?_); try simp only [wpS, wpA, wpQL, push_cast, Int.cast_ofNat_Int, reduceIte, Nat.reduceEqDiff, reduceCtorEq, Nat.reduceAdd, Nat.reduceSub, Nat.reduceMul, Int.reduceToNat, Nat.reduceLeDiff, e1, Nat.mul_one, encM_len, encM_bump ht])
   | (refine And.intro (by omega) ?_)
   | (refine xw ?_; simp only [wpS, wpA, wpQL, push_cast, Int.cast_ofNat_Int, reduceIte, Nat.reduceEqDiff, reduceCtorEq, Nat.reduceAdd, Nat.reduceSub, Nat.reduceMul, Int.reduceToNat, Nat.reduceLeDiff, e1, Nat.mul_one, encM_len, encM_bump ht])
   | fail
 refine EV.seq (EV.seq ?_)
 repeat' first
   | refine EV.skip ?_
   | (refine EV.reg ?_; (conv => (arg 2; whnf)); (refine nx ?_; try with_reducible exact ⟨⟩))
   | (refine ConQ.call (litmus_access_q o) ?_; try (refine nx ?_; try with_reducible exact ⟨⟩))
   | (refine EV.condX rfl (fun h => ?_) (fun h => ?_) <;> try exact dead h)
   | (refine xrA rfl ?_; try (refine nx ?_; try with_reducible exact ⟨⟩))
   | fail
 ·repeat' first
   | refine EV.seq ?_
   | (refine EV.reg ?_; (conv => (arg 2; whnf)); simp only [wpS, wpA, wpQL, push_cast, Int.cast_ofNat_Int, reduceIte, Nat.reduceEqDiff, reduceCtorEq, Nat.reduceAdd, Nat.reduceSub, Nat.reduceMul, Int.reduceToNat, Nat.reduceLeDiff, encM_len, List.append_nil])
   | ((first | refine Exists.intro _ (And.intro (rd_all) ?_) | with_reducible intro b | fail); try simp only [wpS, wpA, wpQL, push_cast, Int.cast_ofNat_Int, reduceIte, Nat.reduceEqDiff, reduceCtorEq, Nat.reduceAdd, Nat.reduceSub, Nat.reduceMul, Int.reduceToNat, Nat.reduceLeDiff, encM_len, List.append_nil])
   | fail
  refine EV.keepS [] ?_
  generalize hR : M.add _ = N
  have hMN : M.le N := hR ▸ PHeap.le_add _ _
  refine EV.ret Q52_ok ?_
  simp only [wpS, wpA, wpQL, push_cast, Int.cast_ofNat_Int, reduceIte, Nat.reduceEqDiff, reduceCtorEq, Nat.reduceAdd, Nat.reduceSub, Nat.reduceMul, Int.reduceToNat, Nat.reduceLeDiff, Q52]
  refine mem_leaf1 (m' := m.bump t) ?_ (hR ▸ rd_at (T := 65) (cs := encM (m.bump t) s) (by simp) rfl (Nat.le_refl _)) ⟨s, rfl, fun i hi => by rw [rd_bump]; exact (hs i hi).mono hMN⟩
  unfold goesP; rw [if_pos h]
 have hacc := h
 refine EV.seq ?_
 repeat' first
   | (refine EV.reg ?_; (conv => (arg 2; whnf)); simp only [wpS, wpA, wpQL, push_cast, Int.cast_ofNat_Int, reduceIte, Nat.reduceEqDiff, reduceCtorEq, Nat.reduceAdd, Nat.reduceSub, Nat.reduceMul, Int.reduceToNat, Nat.reduceLeDiff, Nat.mul_one, encM_len, wd_bump])
   | (refine Exists.intro _ (And.intro (rd_wd hl) ?_); try simp only [wpS, wpA, wpQL, push_cast, Int.cast_ofNat_Int, reduceIte, Nat.reduceEqDiff, reduceCtorEq, Nat.reduceAdd, Nat.reduceSub, Nat.reduceMul, Int.reduceToNat, Nat.reduceLeDiff, Nat.mul_one, encM_len, wd_bump])
   | (refine And.intro (by omega) ?_)
   | (refine xiA rfl ?_; try simp only [wpS, wpA, wpQL, push_cast, Int.cast_ofNat_Int, reduceIte, Nat.reduceEqDiff, reduceCtorEq, Nat.reduceAdd, Nat.reduceSub, Nat.reduceMul, Int.reduceToNat, Nat.reduceLeDiff, Nat.mul_one, encM_len, wd_bump])
   | fail
 obtain ⟨m1, hm1⟩ : ∃ m1, m1 = (if o.kind ≠ 1 ∧ o.kind ≠ 5 then (m.bump t).addR t (m.wd o.loc) else m.bump t) := ⟨_, rfl⟩
 refine EV.seq (EV.thru (fun ρ' M' G' => ∃ s1, M.le M' ∧ (∀ t, t < 3 → SlC M' 1 ei (s1 t) (m1.rd t)) ∧ get ρ' 3 = some (pv mb 0) ∧ get ρ' 5 = some (pv ob 0) ∧ get ρ' 7 = some (vi (m.wd o.loc)) ∧
  G' = [(ob, Cl 33 (encOp o)), (mb, Cl 65 (encM m1 s1))]) ?_ ?_)
 ·intro k' key
  refine EV.seq ?_
  repeat' first
    | refine EV.skip ?_
    | (refine EV.reg ?_; (conv => (arg 2; whnf)); (refine nx ?_; try with_reducible exact ⟨⟩))
    | (refine ConQ.call (litmus_reads_q o) ?_; try (refine nx ?_; try with_reducible exact ⟨⟩))
    | (refine EV.condX rfl (fun h => ?_) (fun h => ?_) <;> try exact dead h)
    | (refine And.intro (by omega) ?_)
    | (refine xrA rfl ?_; try (refine nx ?_; try with_reducible exact ⟨⟩))
    | fail
  ·have hkr : o.kind ≠ 1 ∧ o.kind ≠ 5 := by simp only [readsP, accessP, Bool.and_eq_true, decide_eq_true_eq] at h; omega
   rw [if_pos hkr] at hm1
   have hc0 := fun G => sl_Clone_c (M := M.add G) (m.rd t) (s t) ((hs t ht).sl.mono (PHeap.le_add _ _)) (by omega)
   obtain ⟨a, c, ea, hc, hra⟩ := hs t ht
   rw [ea] at hc0
   have hrs : rd (M.add [(ob, Cl 33 (encOp o)), (mb, Cl 65 (encM (m.bump t) s))]) mb (6 + t) 1 [.slice a (m.rd t).length c] := ea ▸ rd_rs ht
   refine ⟨a, _, c, hrs, ?_⟩
   refine Con.callN (hc0 _) ?_
   rintro v1 M1 G1 ⟨o1, rfl, ho1, rfl⟩
   intro b
   refine ⟨[vi (m.wd o.loc)], Or.inr ⟨b, 0, rfl, rd_own' 0 rfl rfl (by simp)⟩, by simp [ok1_cons, ok1_nil, Value.oneCell'], Or.inl ⟨o1, _, rfl, _, ho1, _, PullL.p, by simp only [maxLen]; omega, by omega, ?_⟩⟩
   intro o2 ho2 _
   simp only [wpS, wpA, wpQL, push_cast, Int.cast_ofNat_Int, reduceIte, Nat.reduceEqDiff, reduceCtorEq, Nat.reduceAdd, Nat.reduceSub, Nat.reduceMul, Int.reduceToNat, Nat.reduceLeDiff]
   repeat' first
     | (refine And.intro (by omega) ?_)
     | (refine xw ?_; simp only [wpS, wpA, wpQL, push_cast, Int.cast_ofNat_Int, reduceIte, Nat.reduceEqDiff, reduceCtorEq, Nat.reduceAdd, Nat.reduceSub, Nat.reduceMul, Int.reduceToNat, Nat.reduceLeDiff, encM_len, encM_put ht])
     | fail
   refine EV.keepS [(ob, Cl 33 (encOp o)), (mb, Cl 65 (encM (m.bump t) (upN s t (osv o2 ((m.rd t).length + 1)))))] ?_
   generalize hR : M.add _ = N
   have hMN : M.le N := hR ▸ PHeap.le_add _ _
   have hnew : SlC N 1 ei (osv o2 ((m.rd t).length + 1)) (m.rd t ++ [m.wd o.loc]) := hR ▸ SlC_osv (T := 3) (by simpa using ho2) (by simp) (fun q hq => by rw [List.map_append, List.map_cons, List.map_nil] at hq; simp [hq])
   clear hR
   refine key _ _ _ ⟨upN s t (osv o2 ((m.rd t).length + 1)), hMN, fun i hi => ?_, rfl, rfl, rfl, by rw [hm1, encM_addR]⟩
   rw [hm1, rd_addR ht hi, rd_bump, upN]
   by_cases hit : i = t
   ·subst hit; rw [if_pos rfl, if_pos rfl]; exact hnew
   ·rw [if_neg hit, if_neg hit]; exact (hs i hi).mono hMN
  ·have hkr : ¬ (o.kind ≠ 1 ∧ o.kind ≠ 5) := by
    simp only [readsP, accessP, Bool.and_eq_false_iff, Bool.and_eq_true, decide_eq_true_eq, decide_eq_false_iff_not] at h hacc
    omega
   rw [if_neg hkr] at hm1
   exact key _ _ _ ⟨s, PHeap.le_refl _, fun i hi => by rw [hm1, rd_bump]; exact hs i hi, rfl, rfl, rfl, by rw [hm1]⟩
 ·rintro ρ2 M2 G2 ⟨s1, hM2, hs1, q1, q2, q3, rfl⟩
  refine EV.to (ρ' := [(3, pv mb 0), (5, pv ob 0), (7, vi (m.wd o.loc))]) ?_ (by simp only [List.forall_mem_cons]; exact ⟨q1, q2, q3, fun _ h => nomatch h⟩) (List.Sublist.refl _)
  clear q1 q2 q3
  refine EV.seq ?_
  have hok1 : ∀ m, ok1 (encM m s1) := fun m => by
   obtain ⟨a0, c0, e0, _⟩ := hs1 0 (by omega)
   obtain ⟨a1, c1, e1, _⟩ := hs1 1 (by omega)
   obtain ⟨a2, c2, e2, _⟩ := hs1 2 (by omega)
   simp [encM, e0, e1, e2, ok1_cons, ok1_nil, Value.oneCell']
  repeat' first
    | (refine EV.reg ?_; (conv => (arg 2; whnf)); simp only [wpS, wpA, wpQL, push_cast, Int.cast_ofNat_Int, reduceIte, Nat.reduceEqDiff, reduceCtorEq, Nat.reduceAdd, Nat.reduceSub, Nat.reduceMul, Int.reduceToNat, Nat.reduceLeDiff, encM_len, List.append_nil])
    | ((first | refine Exists.intro _ (And.intro (rd_all) ?_) | with_reducible intro b | fail); try simp only [wpS, wpA, wpQL, push_cast, Int.cast_ofNat_Int, reduceIte, Nat.reduceEqDiff, reduceCtorEq, Nat.reduceAdd, Nat.reduceSub, Nat.reduceMul, Int.reduceToNat, Nat.reduceLeDiff, encM_len, List.append_nil])
    | (refine xw ?_; simp only [wpS, wpA, wpQL, push_cast, Int.cast_ofNat_Int, reduceIte, Nat.reduceEqDiff, reduceCtorEq, Nat.reduceAdd, Nat.reduceSub, Nat.reduceMul, Int.reduceToNat, Nat.reduceLeDiff, encM_len, List.append_nil])
    | fail
  refine And.intro (hok1 _) ?_
  obtain ⟨lb, rfl⟩ : ∃ lb, lb = b := ⟨_, rfl⟩
  have hgo : goesP m t o = if o.kind = 1 then [m1.setW o.loc o.v] else if o.kind = 2 then [m1.setW o.loc (IntKind.i64.wrap (m.wd o.loc + o.v))] else if (o.kind = 3 ∨ o.kind = 4) ∧ m.wd o.loc = o.v then (if o.kind = 4 then [m1, m1.setW o.loc o.w] else [m1.setW o.loc o.w]) else [m1] := by
   unfold goesP
   rw [if_neg (by rw [hacc]; decide), hm1]
  have hset : ∀ v i, i < 3 → ∀ N, M2.le N → SlC N 1 ei (s1 i) ((m1.setW o.loc v).rd i) := fun v i hi N hN => by rw [rd_setW]; exact (hs1 i hi).mono hN
  clear hm1
  refine EV.seq (EV.thru (fun ρ' M' G' => ∃ mF, M' = M2 ∧ goesP m t o = [mF] ∧ (∀ t, t < 3 → SlC M2 1 ei (s1 t) (mF.rd t)) ∧ get ρ' 3 = some (pv mb 0) ∧ G' = [(lb, Cl 65 (encM m1 s1)), (ob, Cl 33 (encOp o)), (mb, Cl 65 (encM mF s1))]) ?_ ?_)
  ·intro k' key
   repeat' first
     | refine EV.seq ?_
     | refine EV.skip ?_
     | refine EV.block ?_
     | refine EV.inBlock ?_
     | (refine EV.reg ?_; (conv => (arg 2; whnf)); simp only [wpS, wpA, wpQL, push_cast, Int.cast_ofNat_Int, reduceIte, Nat.reduceEqDiff, reduceCtorEq, Nat.reduceAdd, Nat.reduceSub, Nat.reduceMul, Int.reduceToNat, Nat.reduceLeDiff, encM_len, Nat.mul_one, encM_setW hl])
     | (refine Exists.intro _ (And.intro (rd_all) ?_); try simp only [wpS, wpA, wpQL, push_cast, Int.cast_ofNat_Int, reduceIte, Nat.reduceEqDiff, reduceCtorEq, Nat.reduceAdd, Nat.reduceSub, Nat.reduceMul, Int.reduceToNat, Nat.reduceLeDiff, encM_len, Nat.mul_one, encM_setW hl])
     | with_reducible assumption
     | (refine condW.merge ?_ (fun hc K' hK => ?_) ?_; rotate_left)
     | (refine EV.condX rfl (fun h => ?_) (fun h => ?_) <;> try exact dead h)
     | (refine And.intro (by omega) ?_)
     | (refine xiA rfl ?_; try simp only [wpS, wpA, wpQL, push_cast, Int.cast_ofNat_Int, reduceIte, Nat.reduceEqDiff, reduceCtorEq, Nat.reduceAdd, Nat.reduceSub, Nat.reduceMul, Int.reduceToNat, Nat.reduceLeDiff, encM_len, Nat.mul_one, encM_setW hl])
     | (refine xw ?_; simp only [wpS, wpA, wpQL, push_cast, Int.cast_ofNat_Int, reduceIte, Nat.reduceEqDiff, reduceCtorEq, Nat.reduceAdd, Nat.reduceSub, Nat.reduceMul, Int.reduceToNat, Nat.reduceLeDiff, encM_len, Nat.mul_one, encM_setW hl])
     | fail
   ·exact key _ _ _ ⟨m1.setW o.loc o.v, rfl, by rw [hgo, if_pos h], fun i hi => hset _ i hi _ (PHeap.le_refl _), rfl, rfl⟩
   ·exact key _ _ _ ⟨m1.setW o.loc (IntKind.i64.wrap (m.wd o.loc + o.v)), rfl, by rw [hgo, if_neg (by assumption), if_pos h], fun i hi => hset _ i hi _ (PHeap.le_refl _), rfl, rfl⟩
   ·rename_i h1 h2 h3
    have hL : goesP m t o = [m1, m1.setW o.loc o.w] := by rw [hgo, if_neg h1, if_neg h2, if_pos h3, if_pos h]
    have hnil : ∀ l : List Value, List.drop 18 (encM m1 s1 ++ l) = List.drop 9 l := fun l => rfl
    have htk : ∀ l : List Value, List.take 9 (encM m1 s1 ++ l) = encM m1 s1 := fun l => rfl
    rw [hnil, htk, if_pos (by simp [encM_len])]
    simp only [wpS, wpA, wpQL, push_cast, Int.cast_ofNat_Int, reduceIte, Nat.reduceEqDiff, reduceCtorEq, Nat.reduceAdd, Nat.reduceSub, Nat.reduceMul, Int.reduceToNat, Nat.reduceLeDiff]
    intro b
    refine EV.keepS [] ?_
    generalize hR : M2.add _ = N
    have hMN : M2.le N := hR ▸ PHeap.le_add _ _
    have hr1 : rd N b 0 18 (encM m1 s1 ++ encM (m1.setW o.loc o.w) s1) := hR ▸ rd_at (T := 65) (cs := encM m1 s1 ++ encM (m1.setW o.loc o.w) s1) (by simp) rfl (Nat.le_refl _)
    clear hR
    refine EV.ret Q52_ok ?_
    simp only [wpS, wpA, wpQL, push_cast, Int.cast_ofNat_Int, reduceIte, Nat.reduceEqDiff, reduceCtorEq, Nat.reduceAdd, Nat.reduceSub, Nat.reduceMul, Int.reduceToNat, Nat.reduceLeDiff, Q52]
    refine ⟨b, 2, by rw [hL]; rfl, ?_⟩
    rw [hL]
    intro i hi
    match i, hi with
    | 0, _ => exact ⟨_, hr1.pt 0 9 (by omega) rfl, s1, rfl, fun i hi => (hs1 i hi).mono hMN⟩
    | 1, _ => exact ⟨_, hr1.pt 9 9 (by omega) rfl, s1, rfl, fun i hi => hset _ i hi _ hMN⟩
   ·rename_i h1 h2 h3
    exact key _ _ _ ⟨m1.setW o.loc o.w, rfl, by rw [hgo, if_neg h1, if_neg h2, if_pos h3, if_neg h], fun i hi => hset _ i hi _ (PHeap.le_refl _), rfl, rfl⟩
   ·rename_i h1 h2
    exact key _ _ _ ⟨m1, rfl, by rw [hgo, if_neg h1, if_neg h2, if_neg (by omega)], hs1, rfl, rfl⟩
  ·rintro ρ3 M3 G3 ⟨mF, rfl, hg, hsF, q1, rfl⟩
   refine EV.to (ρ' := [(3, pv mb 0)]) ?_ (by simp only [List.forall_mem_cons]; exact ⟨q1, fun _ h => nomatch h⟩) (List.Sublist.refl _)
   repeat' first
     | refine EV.seq ?_
     | (refine EV.reg ?_; (conv => (arg 2; whnf)); simp only [wpS, wpA, wpQL, push_cast, Int.cast_ofNat_Int, reduceIte, Nat.reduceEqDiff, reduceCtorEq, Nat.reduceAdd, Nat.reduceSub, Nat.reduceMul, Int.reduceToNat, Nat.reduceLeDiff, encM_len, List.append_nil])
     | ((first | refine Exists.intro _ (And.intro (rd_all) ?_) | with_reducible intro b | fail); try simp only [wpS, wpA, wpQL, push_cast, Int.cast_ofNat_Int, reduceIte, Nat.reduceEqDiff, reduceCtorEq, Nat.reduceAdd, Nat.reduceSub, Nat.reduceMul, Int.reduceToNat, Nat.reduceLeDiff, encM_len, List.append_nil])
     | fail
   refine EV.keepS [] ?_
   generalize hR : M3.add _ = N
   have hMN : M3.le N := hR ▸ PHeap.le_add _ _
   refine EV.ret Q52_ok ?_
   simp only [wpS, wpA, wpQL, push_cast, Int.cast_ofNat_Int, reduceIte, Nat.reduceEqDiff, reduceCtorEq, Nat.reduceAdd, Nat.reduceSub, Nat.reduceMul, Int.reduceToNat, Nat.reduceLeDiff, Q52]
   exact mem_leaf1 hg (hR ▸ rd_at (T := 65) (cs := encM mF s1) (by simp) rfl (Nat.le_refl _)) ⟨s1, rfl, fun i hi => (hsF i hi).mono hMN⟩

end
end Go.EV

namespace Go.EV
open Go.Proofs

section
variable {M : PHeap}

set_option maxHeartbeats 4000000 in
theorem lm_outcome_c (m : Mem) (s : Nat → Value) (hs : ∀ t, t < 3 → SlC M 1 ei (s t) (m.rd t)) (hl : ∀ t, t < 3 → (m.rd t).length < 100000) :
  Con Try.prog 28 #[.agg (encM m s).toArray] M [] (Ints m.out) := by
 have hl0 := hl 0 (by omega)
 have hl1 := hl 1 (by omega)
 have hl2 := hl 2 (by omega)
 refine Con.enter Q53_ok (args := [.agg (encM m s).toArray]) (by simp [Q53]) fun ww => ?_
 simp only [Q53, argE]
 refine EV.seq (EV.reg ?_)
 simp only [wpS, wpA, wpQL, push_cast, Int.cast_ofNat_Int, reduceIte, Nat.reduceEqDiff, reduceCtorEq, Nat.reduceAdd, Nat.reduceSub, Nat.reduceMul, Int.reduceToNat, Nat.reduceLeDiff, Q53_0]
 intro mb
 refine EV.seq ?_
 refine EV.any (t := Q53_1) [(mb, Cl 65 (encM m s))] (List.Sublist.refl _) ?_
 simp only [norm_cons, norm_nil, get_cons, get_nil, reduceIte, Nat.reduceEqDiff]
 repeat' first
   | ((first | refine wQ_op (by first | with_reducible assumption | rfl) (fun lq hlq => ?_) | refine wQ_nil (by first | with_reducible assumption | rfl) ?_ | fail); try (refine nz ?_; try with_reducible exact ⟨⟩))
   | (refine wA_s (by first | with_reducible assumption | rfl) (fun tq htq => ?_) (fun tq htq => ?_) <;> try (refine nz ?_; try with_reducible exact ⟨⟩))
   | exact wA_no (by first | with_reducible assumption | rfl)
   | fail
 obtain ⟨a0, c0, e0, _, r0⟩ := hs 0 (by omega)
 obtain ⟨a1, c1, e1, _, r1⟩ := hs 1 (by omega)
 obtain ⟨a2, c2, e2, _, r2⟩ := hs 2 (by omega)
 refine Con.callN (sl_Concat_c [m.rd 0, m.rd 1, m.rd 2] _ ⟨some ⟨mb, 6, none⟩, 3, [s 0, s 1, s 2], rfl, rfl, Or.inr ⟨mb, 6, rfl, rd_at (T := 65) (cs := encM m s) (by simp) rfl (Nat.le_refl _)⟩, ?_⟩ ?_ (by simp)) ?_
 ·intro k hk1 hk2
  match k, hk2 with
  | 0, _ => exact ⟨a0, c0, e0, r0.mono (PHeap.le_add _ _)⟩
  | 1, _ => exact ⟨a1, c1, e1, r1.mono (PHeap.le_add _ _)⟩
  | 2, _ => exact ⟨a2, c2, e2, r2.mono (PHeap.le_add _ _)⟩
 ·simp only [List.flatten_cons, List.flatten_nil, List.append_nil, List.length_append]; omega
 rintro v1 M1 G1 ⟨o1, rfl, ho1, rfl⟩
 have hf : [m.rd 0, m.rd 1, m.rd 2].flatten = m.r0 ++ m.r1 ++ m.r2 := by simp [Mem.rd]
 have hfl : (m.r0 ++ m.r1 ++ m.r2).length < 300000 := by
  rw [← hf]; simp only [List.flatten_cons, List.flatten_nil, List.append_nil, List.length_append]; omega
 have hout : m.out = (m.r0 ++ m.r1 ++ m.r2) ++ [m.w0, m.w1, m.w2] := rfl
 rw [hf] at ho1 ⊢
 rw [hout]
 generalize m.r0 ++ m.r1 ++ m.r2 = fl at ho1 hfl
 refine ⟨PHeap.le_refl _, fun p hp => List.mem_append_left _ hp, ?_⟩
 repeat' first
   | (refine wQ_nil (by first | with_reducible assumption | rfl) ?_; try (refine nz ?_; try with_reducible exact ⟨⟩))
   | refine wA_q (by first | with_reducible assumption | rfl) (fun lq tq hlq htq => ?_)
   | (refine wA_sT (by first | with_reducible assumption | rfl) (fun tq htq => ?_) (fun tq htq => ?_) <;> try (refine nz ?_; try with_reducible exact ⟨⟩))
   | exact wA_no (by first | with_reducible assumption | rfl)
   | fail
 refine ⟨[vi m.w0, vi m.w1, vi m.w2], Or.inr ⟨mb, 0, rfl, rd_at (T := 65) (cs := encM m s) (by simp) rfl (by rw [encM_len]; omega)⟩, by simp [ok1_cons, ok1_nil, Value.oneCell'], Or.inl ⟨o1, _, rfl, _, ho1, _, PullL.p, by simp only [maxLen]; omega, by omega, fun o2 ho2 _ => ?_⟩⟩
 repeat' first
   | ((first | refine wQ_op (by first | with_reducible assumption | rfl) (fun lq hlq => ?_) | refine wQ_nil (by first | with_reducible assumption | rfl) ?_ | fail); try (refine nz ?_; try with_reducible exact ⟨⟩))
   | refine wA_q (by first | with_reducible assumption | rfl) (fun lq tq hlq htq => ?_)
   | refine wA_fin (by first | with_reducible assumption | rfl) ?_
   | fail
 repeat' first
   | fail
 refine EV.keepS (osg 3 o2 (fl.map vi ++ [vi m.w0, vi m.w1, vi m.w2])) ?_
 refine EV.ret Q53_ok ?_
 simp only [wpS, wpA, wpQL, push_cast, Int.cast_ofNat_Int, reduceIte, Nat.reduceEqDiff, reduceCtorEq, Nat.reduceAdd, Nat.reduceSub, Nat.reduceMul, Int.reduceToNat, Nat.reduceLeDiff, Q53]
 exact ⟨o2, by simp, by simpa using ho2, by simp⟩

end
end Go.EV

namespace Go.EV
open Go.Proofs

def recP (ts : List (List OpV)) : Nat → Mem → List (List Int)
 | 0 => fun _ => []
 | n + 1 => walkP ts n
theorem walkP_rec (ts : List (List OpV)) (n : Nat) (m : Mem) : walkP ts n m = threadsP (recP ts n) m ts 0 true := by cases n <;> rfl

/-- What is gathered so far, in its order. -/
def GathL (ab : Nat) (os : List (List Int)) (M : PHeap) (G : Own) : Prop :=
 ∃ (rs : List (RowV M)) (ov : Vec), G = (ab, Cl 26 [osv ov rs.length]) :: osg 34 ov (rs.map RowV.v) ∧ osok 1 ov rs.length (rs.map RowV.v) ∧ rs.map RowV.xs = os
theorem GathL.mono {ab : Nat} {os : List (List Int)} {M M' : PHeap} {G : Own} (hle : M.le M') (h : GathL ab os M G) : GathL ab os M' G := by
 obtain ⟨rs, ov, h1, h2, h3⟩ := h
 refine ⟨rs.map (RowV.up hle), ov, ?_, ?_, by rw [RowV.up_xs]; exact h3⟩
 ·rw [RowV.up_v, List.length_map]; exact h1
 ·rw [RowV.up_v, List.length_map]; exact h2

/-- What the walk's boxes hold. -/
structure IlB (ts : List (List OpV)) (M : PHeap) (pb wb ab : Nat) (a : Option Addr) (c : Nat) : Prop where
 hp : rd M pb 0 1 [.slice a ts.length c]
 hw : rd M wb 0 1 [.func (.func 25) #[] #[pv pb 0, pv wb 0, pv ab 0]]
 hs : SlSl M 5 encOp (.slice a ts.length c) ts
theorem IlB.mono {ts : List (List OpV)} {M M' : PHeap} {pb wb ab : Nat} {a : Option Addr} {c : Nat} (hM : M.le M') (h : IlB ts M pb wb ab a c) : IlB ts M' pb wb ab a c :=
 ⟨h.hp.mono hM, h.hw.mono hM, h.hs.mono hM⟩

theorem goes_rd {m m' : Mem} {t : Nat} {o : OpV} (h : m' ∈ goesP m t o) {s : Nat} (hs : s < 3) : (m'.rd s).length ≤ (m.rd s).length + 1 := by
 have h1 : ∀ v, (((m.bump t).addR t v).rd s).length ≤ (m.rd s).length + 1 := fun v => by
  rw [← rd_bump (m := m) (t := t) (s := s)]
  generalize m.bump t = n
  unfold Mem.addR Mem.rd
  split
  ·split <;> (try split) <;> simp
  ·split
   ·split <;> (try split) <;> simp
   ·split <;> (try split) <;> simp
 have h2 : ((m.bump t).rd s).length ≤ (m.rd s).length + 1 := by rw [rd_bump]; omega
 unfold goesP at h
 split at h
 ·simp only [List.mem_singleton] at h; rw [h]; exact h2
 ·dsimp only at h
  have h3 : ((if o.kind ≠ 1 ∧ o.kind ≠ 5 then (m.bump t).addR t (m.wd o.loc) else m.bump t).rd s).length ≤ (m.rd s).length + 1 := by
   split
   ·exact h1 _
   ·exact h2
  generalize (if o.kind ≠ 1 ∧ o.kind ≠ 5 then (m.bump t).addR t (m.wd o.loc) else m.bump t) = m1 at h h3
  split at h
  ·simp only [List.mem_singleton] at h; rw [h, rd_setW]; exact h3
  ·split at h
   ·simp only [List.mem_singleton] at h; rw [h, rd_setW]; exact h3
   ·split at h
    ·split at h
     ·simp only [List.mem_cons, List.not_mem_nil, or_false] at h
      rcases h with h | h
      ·rw [h]; exact h3
      ·rw [h, rd_setW]; exact h3
     ·simp only [List.mem_singleton] at h; rw [h, rd_setW]; exact h3
    ·simp only [List.mem_singleton] at h; rw [h]; exact h3

section
variable {M : PHeap}

set_option maxHeartbeats 8000000 in
theorem il_walk_c (ts : List (List OpV)) (h3 : ts.length ≤ 3) (hlen : ∀ l ∈ ts, l.length < 1000) (hops : ∀ l ∈ ts, ∀ o ∈ l, (0 ≤ o.kind ∧ o.kind ≤ 5) ∧ 0 ≤ o.loc ∧ o.loc < 3) {pb wb ab : Nat} {a : Option Addr} {c : Nat} :
  ∀ (n : Nat) (m : Mem) (s : Nat → Value) (os : List (List Int)) (M : PHeap) (G : Own), leftP ts m = n → (∀ t, t < ts.length → m.nx t ≤ (ts[t]?.getD []).length) → (∀ t, t < 3 → (m.rd t).length + n < 10000) → os.length + (walkP ts n m).length < 1000000000000 →
   (∀ t, t < 3 → SlC M 1 ei (s t) (m.rd t)) → IlB ts M pb wb ab a c → GathL ab os M G →
   Con Try.prog 25 #[.agg (encM m s).toArray, pv pb 0, pv wb 0, pv ab 0] M G fun _ M' G' => GathL ab (os ++ walkP ts n m) M' G' := by
 intro n
 induction n using Nat.strongRecOn with
 | _ n ihn =>
 intro m s os M G hn hle hrd hos hs hB hG
 refine Con.enter Q47_ok (args := [.agg (encM m s).toArray, pv pb 0, pv wb 0, pv ab 0]) (by simp [Q47]) fun ww => ?_
 simp only [Q47, argE]
 refine EV.seq (EV.reg ?_)
 simp only [wpS, wpA, wpQL, push_cast, Int.cast_ofNat_Int, reduceIte, Nat.reduceEqDiff, reduceCtorEq, Nat.reduceAdd, Nat.reduceSub, Nat.reduceMul, Int.reduceToNat, Nat.reduceLeDiff, Q47_0]
 intro mb
 refine EV.keep G ?_
 generalize hR : M.add _ = N
 have hMN : M.le N := hR ▸ PHeap.le_add _ _
 have hmb : rd N mb 0 9 (encM m s) := hR ▸ rd_at (T := 65) (cs := encM m s) (by simp) rfl (by simp [encM_len])
 clear hR
 have hBN := hB.mono hMN
 have hGN := hG.mono hMN
 have hnx : ∀ i, i < 3 → rd N mb (3 + i) 1 [vi (m.nx i)] := fun i hi => by
  have := hmb.pt (3 + i) 1 (by omega) (encM_nx hi)
  rwa [Nat.zero_add] at this
 have hpb := hBN.hp
 repeat' first
   | refine EV.seq ?_
   | refine EV.block ?_
   | (refine EV.reg ?_; (conv => (arg 2; whnf)); (refine nx ?_; try with_reducible exact ⟨⟩))
   | (refine Exists.intro _ (Exists.intro _ (Exists.intro _ (And.intro (rd_M (by assumption)) ?_))); try (refine nx ?_; try with_reducible exact ⟨⟩))
   | fail
 obtain ⟨W, hW⟩ : ∃ W, W = os ++ walkP ts n m := ⟨_, rfl⟩
 have hWl : W.length < 1000000000000 := by rw [hW, List.length_append]; exact hos
 rw [← hW]
 refine EV.loopTo (fun x : Nat × Bool × PHeap × Own => ([(1, pv pb 0), (2, pv wb 0), (3, pv ab 0), (4, pv mb 0), (5, .bool x.2.1), (12, .slice a ts.length c), (13, vi ts.length), (14, vi x.1)], x.2.2.1, x.2.2.2))
  (fun x => x.1 ≤ ts.length ∧ N.le x.2.2.1 ∧ ∃ os', GathL ab os' x.2.2.1 x.2.2.2 ∧ os' ++ threadsP (recP ts n) m (ts.drop x.1) x.1 x.2.1 = W) (fun x => ts.length - x.1) (0, true, N, G) rfl
  ⟨Nat.zero_le _, PHeap.le_refl _, os, hGN, by rw [hW, walkP_rec]; rfl⟩ ?env1 (List.Sublist.refl _) ?_
 case env1 =>
  repeat' first
   | (refine List.forall_mem_cons.2 (And.intro ?_ ?_))
   | (intro _ hnil; cases hnil; done)
   | rfl
   | fail
 rintro ⟨i, ov, Mi, Gi⟩ ⟨hi, hMi, os1, hG1, hW1⟩ ih
 dsimp only at hi hMi hG1 hW1 ih ⊢
 refine EV.seq ?_
 repeat' first
   | (refine EV.reg ?_; (conv => (arg 2; whnf)); (refine nx ?_; try with_reducible exact ⟨⟩))
   | fail
 refine EV.seq ?_
 repeat' first
   | refine EV.skip ?_
   | (refine EV.condX rfl (fun h => ?_) (fun h => ?_) <;> try exact dead h)
   | (refine EV.exit rfl ?_)
   | fail
 ·have hi' : i < ts.length := by omega
  have hi3 : i < 3 := by omega
  obtain ⟨_, _, vs, eS, hvl, hrd1, hk1⟩ := hBN.hs
  simp only [Value.slice.injEq] at eS
  obtain ⟨rfl, _, rfl⟩ := eS
  obtain ⟨tb, to, rfl, hat⟩ := SlSl.at hrd1 hvl hk1 (by omega)
  obtain ⟨la, lc, hr1, hr2⟩ := hat i hi'
  have hr1 := hr1.mono hMi
  have hr2 := hr2.mono hMi
  rw [Nat.mul_one] at hr1
  have hl1000 := hlen _ (List.getElem_mem hi')
  have hnx1 := (hnx i hi3).mono hMi
  have hget : ts[i]?.getD [] = ts[i] := by rw [List.getElem?_eq_getElem hi']; rfl
  have hlei := hle i hi'
  rw [hget] at hlei
  refine EV.seq (EV.block (EV.seq ?_))
  repeat' first
    | refine EV.seq ?_
    | refine EV.skip ?_
    | (refine EV.reg ?_; (conv => (arg 2; whnf)); simp only [wpS, wpA, wpQL, push_cast, Int.cast_ofNat_Int, reduceIte, Nat.reduceEqDiff, reduceCtorEq, Nat.reduceAdd, Nat.reduceSub, Nat.reduceMul, Int.reduceToNat, Nat.reduceLeDiff, Nat.mul_one])
    | (refine EV.condX rfl (fun h => ?_) (fun h => ?_) <;> try exact dead h)
    | (refine EV.exit rfl ?_)
    | (refine And.intro (by omega) ?_)
    | ((first | refine Exists.intro _ (And.intro (rd_M (by assumption)) ?_) | refine Exists.intro _ (Exists.intro _ (Exists.intro _ (And.intro (rd_M (by assumption)) ?_))) | fail); try simp only [wpS, wpA, wpQL, push_cast, Int.cast_ofNat_Int, reduceIte, Nat.reduceEqDiff, reduceCtorEq, Nat.reduceAdd, Nat.reduceSub, Nat.reduceMul, Int.reduceToNat, Nat.reduceLeDiff, Nat.mul_one])
    | fail
  ·have hnl : m.nx i = ts[i].length := by omega
   have ih3 := ih (i + 1, ov, Mi, Gi) ⟨by dsimp only; omega, hMi, os1, hG1, by
    dsimp only
    rw [← hW1, List.drop_eq_getElem_cons hi', threadsP, if_pos hnl]⟩ (by dsimp only; omega)
   dsimp only at ih3
   refine EV.to ih3 ?_ (List.Sublist.refl _)
   repeat' first
    | (refine List.forall_mem_cons.2 (And.intro ?_ ?_))
    | (intro _ hnil; cases hnil; done)
    | rfl
    | (refine env_w64 rfl (by first | rfl | (push_cast; first | rfl | omega)) (by omega) (by omega); done)
    | fail
  ·have hlt : m.nx i < ts[i].length := by omega
   obtain ⟨ob, oo, rfl, hop⟩ := Sl.at (sz := 5) (enc := encOp) (fun _ => rfl) (by decide) hr2 (by omega)
   have hro := hop (m.nx i) hlt
   obtain ⟨o, ho⟩ : ∃ o, o = ts[i][m.nx i] := ⟨_, rfl⟩
   rw [← ho] at hro
   have hopm : o ∈ ts[i] := ho ▸ List.getElem_mem hlt
   obtain ⟨ok1', ok2', ok3'⟩ := hops _ (List.getElem_mem hi') o hopm
   have hopa : opAt ts[i] (m.nx i) = o := by rw [opAt, List.getElem?_eq_getElem hlt, ho]; rfl
   have hog : (ts[i]?.getD [])[m.nx i]? = some o := by rw [hget, List.getElem?_eq_getElem hlt, ho]
   simp only [wpS, wpA, wpQL, push_cast, Int.cast_ofNat_Int, reduceIte, Nat.reduceEqDiff, reduceCtorEq, Nat.reduceAdd, Nat.reduceSub, Nat.reduceMul, Int.reduceToNat, Nat.reduceLeDiff]
   refine ⟨by omega, by omega, encOp o, rd_M hro, ?_⟩
   repeat' first
     | (with_reducible intro b; try (refine nx ?_; try with_reducible exact ⟨⟩))
     | (refine xw ?_; (refine nx ?_; try with_reducible exact ⟨⟩))
     | fail
   rename_i xb
   refine EV.seq (EV.seq ?_)
   have hmb1 := hmb.mono hMi
   repeat' first
     | (refine EV.reg ?_; (conv => (arg 2; whnf)); (refine nx ?_; try with_reducible exact ⟨⟩))
     | ((first | refine Exists.intro _ (And.intro (rd_M (by assumption)) ?_) | refine xrA rfl ?_ | fail); try (refine nx ?_; try with_reducible exact ⟨⟩))
     | fail
   have hle0 := PHeap.le_trans hMN hMi
   refine Con.callS (G1 := []) (lm_goes_c m s i o hi3 ok1' ⟨ok2', ok3'⟩ (fun t ht => (hs t ht).mono hle0) (by omega) (by have := hrd i hi3; omega)) ?_
   rintro v1 M1 G1 hM1 ⟨rb, rc, rfl, hres⟩
   simp only [wpS, wpA, wpQL, push_cast, Int.cast_ofNat_Int, reduceIte, Nat.reduceEqDiff, reduceCtorEq, Nat.reduceAdd, Nat.reduceSub, Nat.reduceMul, Int.reduceToNat, Nat.reduceLeDiff]
   refine EV.keep Gi ?_
   generalize hR : M1.add _ = N1
   have hMN1 : M1.le N1 := hR ▸ PHeap.le_add _ _
   have hob : rd N1 b 0 5 (encOp o) := hR ▸ rd_at (T := 33) (cs := encOp o) (by simp) rfl (Nat.le_refl _)
   clear hR
   have hres : ∀ k (h : k < (goesP m i o).length), ∃ cs, rd N1 rb (k * 9) 9 cs ∧ IsMem N1 cs (goesP m i o)[k] := fun k h => let ⟨cs, h1, h2⟩ := hres k h; ⟨cs, h1.mono hMN1, h2.mono hMN1⟩
   have hMiN := PHeap.le_trans hM1 hMN1
   have hB1 := hBN.mono (PHeap.le_trans hMi hMiN)
   have hgl := (goes_len m i o).2
   have hch : ∀ m', m' ∈ goesP m i o → leftP ts m' + 1 = n ∧ ∀ s, s < 3 → m'.nx s = if s = i then m.nx s + 1 else m.nx s := fun m' hm' => by
    have h1 := nx_goes hi3 hm'
    refine ⟨?_, h1⟩
    rw [← hn]
    exact left_step (m := m) (m' := m') (k := i) h1 ts 0 (by omega) (by omega) (by omega) (by simpa [hget] using hlt)
   obtain ⟨L, hL⟩ : ∃ L, L = goesP m i o := ⟨_, rfl⟩
   obtain ⟨R, hRR⟩ : ∃ R, R = (if accessP o then threadsP (recP ts n) m (ts.drop (i + 1)) (i + 1) false else []) := ⟨_, rfl⟩
   have hW2 : os1 ++ (L.flatMap (recP ts n) ++ R) = W := by
    rw [← hW1, List.drop_eq_getElem_cons hi', threadsP, if_neg (by omega), hopa, hL, hRR]
   have hgm := fun m' (h : m' ∈ goesP m i o) (t : Nat) (ht : t < 3) => goes_rd h ht
   rw [← hL] at hres hgl hch hgm ⊢
   refine EV.block (EV.loopTo (fun x : Nat × PHeap × Own => ([(1, pv pb 0), (2, pv wb 0), (3, pv ab 0), (4, pv mb 0), (5, .bool false), (6, vi i), (8, pv b 0), (12, .slice (some ⟨tb, to, none⟩) ts.length c), (13, vi ts.length), (14, vi i), (36, vrow rb L.length rc), (37, vi L.length), (38, vi x.1)], x.2.1, x.2.2))
    (fun x => x.1 ≤ L.length ∧ N1.le x.2.1 ∧ ∃ os', GathL ab os' x.2.1 x.2.2 ∧ os' ++ ((L.drop x.1).flatMap (recP ts n) ++ R) = W) (fun x => L.length - x.1) (0, N1, Gi) rfl
    ⟨Nat.zero_le _, PHeap.le_refl _, os1, hG1.mono hMiN, hW2⟩ ?env2 (List.Sublist.refl _) ?_)
   case env2 =>
    repeat' first
     | (refine List.forall_mem_cons.2 (And.intro ?_ ?_))
     | (intro _ hnil; cases hnil; done)
     | rfl
     | fail
   rintro ⟨j, Mj, Gj⟩ ⟨hj, hMj, os2, hG2, hW3⟩ ih2
   dsimp only at hj hMj hG2 hW3 ih2 ⊢
   refine EV.seq ?_
   repeat' first
     | (refine EV.reg ?_; (conv => (arg 2; whnf)); (refine nx ?_; try with_reducible exact ⟨⟩))
     | fail
   refine EV.seq ?_
   repeat' first
     | refine EV.skip ?_
     | (refine EV.condX rfl (fun h => ?_) (fun h => ?_) <;> try exact dead h)
     | (refine EV.exit rfl ?_)
     | fail
   ·have hj' : j < L.length := by omega
    obtain ⟨cs, hcs, s', rfl, hs'⟩ := hres j hj'
    have hcs := hcs.mono hMj
    obtain ⟨hn', hnx'⟩ := hch L[j] (List.getElem_mem hj')
    have hrdj := hgm L[j] (List.getElem_mem hj')
    obtain ⟨k, rfl⟩ : ∃ k, n = k + 1 := ⟨n - 1, by omega⟩
    have hwj := (hB1.mono hMj).hw
    refine EV.seq (EV.block (EV.seq ?_))
    repeat' first
      | (refine EV.reg ?_; (conv => (arg 2; whnf)); simp only [wpS, wpA, wpQL, push_cast, Int.cast_ofNat_Int, reduceIte, Nat.reduceEqDiff, reduceCtorEq, Nat.reduceAdd, Nat.reduceSub, Nat.reduceMul, Int.reduceToNat, Nat.reduceLeDiff, encM_len, List.append_nil])
      | (with_reducible intro b; try simp only [wpS, wpA, wpQL, push_cast, Int.cast_ofNat_Int, reduceIte, Nat.reduceEqDiff, reduceCtorEq, Nat.reduceAdd, Nat.reduceSub, Nat.reduceMul, Int.reduceToNat, Nat.reduceLeDiff, encM_len, List.append_nil])
      | (refine And.intro (by omega) ?_)
      | (refine Exists.intro _ (And.intro (rd_M (by assumption)) ?_); try simp only [wpS, wpA, wpQL, push_cast, Int.cast_ofNat_Int, reduceIte, Nat.reduceEqDiff, reduceCtorEq, Nat.reduceAdd, Nat.reduceSub, Nat.reduceMul, Int.reduceToNat, Nat.reduceLeDiff, encM_len, List.append_nil])
      | (refine xw ?_; simp only [wpS, wpA, wpQL, push_cast, Int.cast_ofNat_Int, reduceIte, Nat.reduceEqDiff, reduceCtorEq, Nat.reduceAdd, Nat.reduceSub, Nat.reduceMul, Int.reduceToNat, Nat.reduceLeDiff, encM_len, List.append_nil])
      | fail
    refine And.intro ?_ ?_
    ·obtain ⟨a0, c0, e0, _⟩ := hs' 0 (by omega)
     obtain ⟨a1, c1, e1, _⟩ := hs' 1 (by omega)
     obtain ⟨a2, c2, e2, _⟩ := hs' 2 (by omega)
     simp [encM, e0, e1, e2, ok1_cons, ok1_nil, Value.oneCell']
    repeat' first
      | (refine EV.reg ?_; (conv => (arg 2; whnf)); (refine nx ?_; try with_reducible exact ⟨⟩))
      | ((first | refine Exists.intro _ (And.intro (rd_all) ?_) | refine Exists.intro _ (And.intro (rd_M (by assumption)) ?_) | fail); try (refine nx ?_; try with_reducible exact ⟨⟩))
      | fail
    refine CallW.keep Gj ?_
    generalize hR : Mj.add _ = N2
    have hjN : Mj.le N2 := hR ▸ PHeap.le_add _ _
    clear hR
    have hWj : os2 ++ (walkP ts k L[j] ++ ((L.drop (j + 1)).flatMap (recP ts (k + 1)) ++ R)) = W := by
     rw [← hW3, List.drop_eq_getElem_cons hj', List.flatMap_cons, List.append_assoc]; rfl
    refine Con.run (ihn k (by omega) L[j] s' os2 N2 Gj (by omega) (fun u hu => ?_) (fun u hu => ?_) ?_ (fun u hu => (hs' u hu).mono (PHeap.le_trans hMj hjN)) ((hB1.mono hMj).mono hjN) (hG2.mono hjN)) ?_
    ·rw [hnx' u (by omega)]
     split
     ·rename_i e; subst e; rw [hget]; omega
     ·exact hle u hu
    ·have := hrdj u hu
     have := hrd u hu
     omega
    ·have := congrArg List.length hWj
     simp only [List.length_append] at this
     omega
    intro v3 M3 G3 hM3 hG3
    have ih3 := ih2 (j + 1, M3, G3) ⟨by dsimp only; omega, PHeap.le_trans hMj (PHeap.le_trans hjN hM3), _, hG3, by dsimp only; rw [← hWj]; simp only [List.append_assoc]⟩ (by dsimp only; omega)
    dsimp only at ih3
    repeat' first
      | refine EV.inBlock ?_
      | (refine EV.reg ?_; (conv => (arg 2; whnf)); (refine nx ?_; try with_reducible exact ⟨⟩))
      | fail
    refine EV.to ih3 ?_ (List.Sublist.refl _)
    repeat' first
     | (refine List.forall_mem_cons.2 (And.intro ?_ ?_))
     | (intro _ hnil; cases hnil; done)
     | rfl
     | (refine env_w64 rfl (by first | rfl | (push_cast; first | rfl | omega)) (by omega) (by omega); done)
     | fail
   ·have hje : j = L.length := by omega
    subst hje
    have hob2 := hob.mono hMj
    rw [List.drop_length, List.flatMap_nil, List.nil_append] at hW3
    repeat' first
      | refine EV.seq ?_
      | refine EV.skip ?_
      | refine EV.inBlock ?_
      | (refine EV.reg ?_; (conv => (arg 2; whnf)); (refine nx ?_; try with_reducible exact ⟨⟩))
      | (refine ConQ.call (litmus_access_q o) ?_; try (refine nx ?_; try with_reducible exact ⟨⟩))
      | (refine EV.condX rfl (fun h => ?_) (fun h => ?_) <;> try exact dead h)
      | (refine Exists.intro _ (And.intro (rd_M (by assumption)) ?_); try (refine nx ?_; try with_reducible exact ⟨⟩))
      | fail
    ·rw [hRR, if_neg (by rw [h]; decide), List.append_nil] at hW3
     refine EV.ret Q47_ok ?_
     simp only [wpS, wpA, wpQL, push_cast, Int.cast_ofNat_Int, reduceIte, Nat.reduceEqDiff, reduceCtorEq, Nat.reduceAdd, Nat.reduceSub, Nat.reduceMul, Int.reduceToNat, Nat.reduceLeDiff, Q47]
     exact hW3 ▸ hG2
    ·rw [hRR, if_pos h] at hW3
     have ih3 := ih (i + 1, false, Mj, Gj) ⟨by dsimp only; omega, PHeap.le_trans hMi (PHeap.le_trans hMiN hMj), os2, hG2, hW3⟩ (by dsimp only; omega)
     dsimp only at ih3
     refine EV.to ih3 ?_ (List.Sublist.refl _)
     repeat' first
      | (refine List.forall_mem_cons.2 (And.intro ?_ ?_))
      | (intro _ hnil; cases hnil; done)
      | rfl
      | (refine env_w64 rfl (by first | rfl | (push_cast; first | rfl | omega)) (by omega) (by omega); done)
      | fail
 ·have hie : i = ts.length := by omega
  subst hie
  rw [List.drop_length] at hW1
  have hle0 := PHeap.le_trans hMN hMi
  have hmb1 := hmb.mono hMi
  cases ov with
  | false =>
   repeat' first
     | refine EV.seq ?_
     | refine EV.skip ?_
     | (refine EV.reg ?_; (conv => (arg 2; whnf)); (refine nx ?_; try with_reducible exact ⟨⟩))
     | (refine EV.condX rfl (fun h => ?_) (fun h => ?_) <;> try exact dead h)
     | fail
   refine EV.done Q47_ok ?_
   simp only [wpS, wpA, wpQL, push_cast, Int.cast_ofNat_Int, reduceIte, Nat.reduceEqDiff, reduceCtorEq, Nat.reduceAdd, Nat.reduceSub, Nat.reduceMul, Int.reduceToNat, Nat.reduceLeDiff, Q47]
   simp only [threadsP, Bool.false_eq_true, if_false, List.append_nil] at hW1
   exact hW1 ▸ hG1
  | true =>
   simp only [threadsP, if_true] at hW1
   obtain ⟨rs, ov, hG0, hov, hxs⟩ := hG1
   subst hG0
   have hlen1 : rs.length = os1.length := by rw [← hxs, List.length_map]
   have hlen2 : os1.length + 1 = W.length := by rw [← hW1, List.length_append]; rfl
   repeat' first
     | refine EV.seq ?_
     | (refine EV.reg ?_; (conv => (arg 2; whnf)); (refine nx ?_; try with_reducible exact ⟨⟩))
     | (refine EV.condX rfl (fun h => ?_) (fun h => ?_) <;> try exact dead h)
     | fail
   have hout := fun G => lm_outcome_c (M := Mi.add G) m s (fun t ht => (hs t ht).mono (PHeap.le_trans hle0 (PHeap.le_add _ _))) (fun t ht => by have := hrd t ht; omega)
   refine EV.any (t := Q47_16) [(ab, Cl 26 [osv ov rs.length])] (List.Sublist.cons_cons _ (List.nil_sublist _)) ?_
   simp only [norm_cons, norm_nil, get_cons, get_nil, reduceIte, Nat.reduceEqDiff]
   repeat' first
     | ((first | refine wQ_op (by first | with_reducible assumption | rfl) (fun lq hlq => ?_) | refine wQ_nil (by first | with_reducible assumption | rfl) ?_ | fail); try (refine nz ?_; try with_reducible exact ⟨⟩))
     | refine wA_q (by first | with_reducible assumption | rfl) (fun lq tq hlq htq => ?_)
     | ((with_reducible refine Con.callN (hout _) ?_) ;  rintro v1 M1 G1 ⟨o1, rfl, ho1, rfl⟩; try (refine nz ?_; try with_reducible exact ⟨⟩))
     | (refine wA_s (by first | with_reducible assumption | rfl) (fun tq htq => ?_) (fun tq htq => ?_) <;> try (refine nz ?_; try with_reducible exact ⟨⟩))
     | (refine wA_sT (by first | with_reducible assumption | rfl) (fun tq htq => ?_) (fun tq htq => ?_) <;> try (refine nz ?_; try with_reducible exact ⟨⟩))
     | exact wA_no (by first | with_reducible assumption | rfl)
     | ((first | with_reducible intro b | refine Exists.intro _ (And.intro (rd_M (by assumption)) ?_) | refine xsA rfl ?_ | refine And.intro (PHeap.le_refl _) (And.intro (mem_of_sub ?_) ?_); focus ((repeat' first | exact List.Sublist.refl _ | exact List.nil_sublist _ | exact List.sublist_append_left _ _ | refine List.Sublist.cons_cons _ ?_ | refine List.Sublist.append_left ?_ _ | refine List.sublist_append_of_sublist_right ?_ | refine List.Sublist.cons _ ?_); done) | fail); try (refine nz ?_; try with_reducible exact ⟨⟩))
     | fail
   all_goals
    refine ⟨[osv o1 m.out.length], Or.inr ⟨_, 0, rfl, rd_at (T := 34) (cs := [osv o1 m.out.length]) (by simp) rfl (by simp)⟩, by simp [ok1_cons, ok1_nil, Value.oneCell'], Or.inl ⟨ov, _, rfl, _, hov, _, PullL.p, by simp only [maxLen]; omega, by omega, fun o2 ho2 hnn => ?_⟩⟩
    repeat' first
      | (refine wQ_nil (by first | with_reducible assumption | rfl) ?_; try (refine nz ?_; try with_reducible exact ⟨⟩))
      | refine wA_q (by first | with_reducible assumption | rfl) (fun lq tq hlq htq => ?_)
      | (refine wA_sT (by first | with_reducible assumption | rfl) (fun tq htq => ?_) (fun tq htq => ?_) <;> try (refine nz ?_; try with_reducible exact ⟨⟩))
      | exact wA_no (by first | with_reducible assumption | rfl)
      | refine wA_fin (by first | with_reducible assumption | rfl) ?_
      | (refine xw ?_; try (refine nz ?_; try with_reducible exact ⟨⟩))
      | fail
    refine EV.keepS ((ab, Cl 26 [osv o2 (rs.length + 1)]) :: osg 34 o2 (rs.map RowV.v ++ [osv o1 m.out.length])) ?_
    generalize hR : Mi.add _ = N5
    have hMN5 : Mi.le N5 := hR ▸ PHeap.le_add _ _
    have hnew : SlC N5 1 ei (osv o1 m.out.length) m.out := hR ▸ SlC_osv (T := 3) ho1 rfl (fun q hq => by simp [hq])
    clear hR
    have hol : m.out.length < 1000000 := by
     have q0 := hrd 0 (by omega)
     have q1 := hrd 1 (by omega)
     have q2 := hrd 2 (by omega)
     simp only [Mem.out, List.length_append, List.length_cons, List.length_nil]
     simp only [Mem.rd] at q0 q1 q2
     simp at q0 q1 q2
     omega
    obtain ⟨rs5, hrs5⟩ : ∃ rs5 : List (RowV N5), rs5 = rs.map (RowV.up hMN5) ++ [⟨(osv o1 m.out.length, m.out), hnew, hol⟩] := ⟨_, rfl⟩
    have hv5 : rs.map RowV.v ++ [osv o1 m.out.length] = rs5.map RowV.v := by rw [hrs5, List.map_append, RowV.up_v]; rfl
    have hx5 : rs5.map RowV.xs = rs.map RowV.xs ++ [m.out] := by rw [hrs5, List.map_append, RowV.up_xs]; rfl
    have hl5 : rs5.length = rs.length + 1 := by rw [hrs5, List.length_append, List.length_map]; rfl
    rw [hv5, ← hl5] at ho2 ⊢
    refine EV.done Q47_ok ?_
    simp only [wpS, wpA, wpQL, push_cast, Int.cast_ofNat_Int, reduceIte, Nat.reduceEqDiff, reduceCtorEq, Nat.reduceAdd, Nat.reduceSub, Nat.reduceMul, Int.reduceToNat, Nat.reduceLeDiff, Q47]
    exact ⟨rs5, o2, rfl, ho2, by rw [hx5, hxs, hW1]⟩

end
end Go.EV

namespace Go.EV
open Go.Proofs

theorem left_mem0 : ∀ (ls : List (List OpV)) (t : Nat), leftGo mem0 ls t = ls.flatten.length
 | [], _ => rfl
 | l :: ls, t => by
  have h1 : mem0.nx t = 0 := by unfold Mem.nx mem0; split <;> (try split) <;> rfl
  rw [leftGo, left_mem0 ls (t + 1), h1, List.flatten_cons, List.length_append]; omega
theorem ops_of {ts : List (List OpV)} (hc : checkP ts = 0) : ∀ l ∈ ts, ∀ o ∈ l, (0 ≤ o.kind ∧ o.kind ≤ 5) ∧ 0 ≤ o.loc ∧ o.loc < 3 := by
 intro l hl o ho
 obtain ⟨_, _, hall⟩ := checkP_zero hc
 have h1 := List.all_eq_true.1 hall o (List.mem_flatten.2 ⟨l, hl, ho⟩)
 obtain ⟨q1, _, q3⟩ := (okOp_iff o).1 h1
 unfold mayR at q1
 unfold fitsP at q3
 simp only [Bool.and_eq_true, decide_eq_true_eq] at q1 q3
 omega
theorem len_of {ts : List (List OpV)} (hc : checkP ts = 0) : ∀ l ∈ ts, l.length < 1000 := by
 intro l hl
 have h1 := (checkP_small hc).1
 obtain ⟨a, b, rfl⟩ := List.append_of_mem hl
 simp only [List.flatten_append, List.flatten_cons, List.length_append] at h1
 omega

section
variable {M : PHeap}

set_option maxHeartbeats 4000000 in
theorem lm_Inter_c (ts : List (List OpV)) (s : Value) (hs : SlSl M 5 encOp s ts) (hb : Sized ts) :
  Con Try.prog 15 #[.agg #[s]] M [] fun v M' _ => (checkP ts ≠ 0 ∧ v = .tuple #[.slice none 0 0, vi (checkP ts)]) ∨
   (checkP ts = 0 ∧ ∃ s' outs, v = .tuple #[s', vi 0] ∧ outs ≠ [] ∧ outs.Pairwise (fun x y => cmpL x y < 0) ∧ (∀ x, x ∈ outs ↔ x ∈ walkP ts (leftP ts mem0) mem0) ∧ outs.length < 1000000000000 ∧ SlSlC M' 1 ei s' outs ∧ ∀ x ∈ outs, x.length < 1000000) := by
 have hs0 := hs
 obtain ⟨a, c, vs, rfl, hl, hrd, hk⟩ := hs
 have hck := fun G => litmus_Check_q (M := M.add G) ts _ (hs0.mono (PHeap.le_add _ _)) hb
 refine Con.enter Q46_ok (args := [.agg #[.slice a ts.length c]]) (by simp [Q46]) fun w0 => ?_
 simp only [Q46, argE]
 repeat' first
   | refine EV.seq ?_
   | refine EV.skip ?_
   | (refine EV.reg ?_; (conv => (arg 2; whnf)); (refine nx ?_; try with_reducible exact ⟨⟩))
   | (refine ConQ.call (hck _) ?_; try (refine nx ?_; try with_reducible exact ⟨⟩))
   | (refine EV.condX rfl (fun h => ?_) (fun h => ?_) <;> try exact dead h)
   | ((first | with_reducible intro b | refine xrA rfl ?_ | refine xiA rfl ?_ | fail); try (refine nx ?_; try with_reducible exact ⟨⟩))
   | (refine xw ?_; (refine nx ?_; try with_reducible exact ⟨⟩))
   | fail
 ·refine EV.ret Q46_ok ?_
  simp only [wpS, wpA, wpQL, push_cast, Int.cast_ofNat_Int, reduceIte, Nat.reduceEqDiff, reduceCtorEq, Nat.reduceAdd, Nat.reduceSub, Nat.reduceMul, Int.reduceToNat, Nat.reduceLeDiff, Q46]
  exact .inl h
 have hck0 : checkP ts = 0 := h
 have hsm := checkP_small hck0
 rename_i pb ab
 obtain ⟨wb, rfl⟩ : ∃ x, x = b := ⟨_, rfl⟩
 obtain ⟨n, hn⟩ : ∃ n, n = leftP ts mem0 := ⟨_, rfl⟩
 have hn14 : n ≤ 14 := by rw [hn, leftP, left_mem0]; exact hsm.1
 have hwl : (walkP ts n mem0).length < 1000000000000 := by
  have h1 := walk_len hsm.2 n mem0
  have h2 : 7 ^ n ≤ 7 ^ 14 := Nat.pow_le_pow_right (by decide) hn14
  have h3 : (7 : Nat) ^ 14 < 1000000000000 := by decide
  omega
 refine CallW.frzS [(wb, Cl 61 [.func (.func 25) #[] #[pv pb 0, pv wb 0, pv ab 0]]), (pb, Cl 24 [.slice a ts.length c])] ?_
 generalize hR : M.add _ = N
 have hMN : M.le N := hR ▸ PHeap.le_add _ _
 have hB : IlB ts N pb wb ab a c := by
  refine ⟨hR ▸ rd_at (T := 24) (cs := [.slice a ts.length c]) (by simp) rfl (by simp), hR ▸ rd_at (T := 61) (cs := [.func (.func 25) #[] #[pv pb 0, pv wb 0, pv ab 0]]) (by simp) rfl (by simp), hs0.mono hMN⟩
 clear hR
 refine Con.run (il_walk_c ts hsm.2 (len_of hck0) (ops_of hck0) n mem0 (fun _ => .slice none 0 0) [] N _ hn.symm (fun t _ => ?_) (fun t ht => ?_) (by simpa using hwl) (fun t ht => ?_) hB ⟨[], none, rfl, ⟨rfl, rfl⟩, rfl⟩) ?_
 ·have h1 : mem0.nx t = 0 := by unfold Mem.nx mem0; split <;> (try split) <;> rfl
  omega
 ·have h1 : mem0.rd t = [] := by unfold Mem.rd mem0; split <;> (try split) <;> rfl
  rw [h1]; simp; omega
 ·have h1 : mem0.rd t = [] := by unfold Mem.rd mem0; split <;> (try split) <;> rfl
  rw [h1]; exact ⟨none, 0, rfl, Nat.le_refl _, .inl ⟨rfl, rfl⟩⟩
 rintro v1 M1 G1 hM1 ⟨rs, ov, rfl, hov, hxs⟩
 rw [List.nil_append] at hxs
 have hrl : rs.length = (walkP ts n mem0).length := by rw [← hxs, List.length_map]
 have hne := walk_ne hsm.2 n mem0 (fun t _ => by
  have h1 : mem0.nx t = 0 := by unfold Mem.nx mem0; split <;> (try split) <;> rfl
  omega) (by omega)
 have hrp : 0 < rs.length := by
  rw [hrl]; exact List.length_pos_iff.2 hne
 rcases ov with _ | ⟨rb, cap, sp⟩
 ·exfalso; have := hov.1; omega
 obtain ⟨_, hsp, _, _⟩ := hov
 rw [List.length_append, List.length_map, Nat.mul_one] at hsp
 repeat' first
   | refine EV.seq ?_
   | (refine EV.reg ?_; (conv => (arg 2; whnf)); (refine nx ?_; try with_reducible exact ⟨⟩))
   | (refine xsA rfl ?_; try (refine nx ?_; try with_reducible exact ⟨⟩))
   | fail
 simp only [osg, oad_some, ocap_some]
 refine Con.callS (G1 := [(rb, Cl 34 (rs.map RowV.v ++ sp))]) (sl_Sort_c (b := rb) (T := 34) (rs := rs) (sp := sp) (c := cap) (by omega)) ?_
 rintro v2 M2 G2 hM2 ⟨rfl, rfl, ys, hp, hsrt, rfl⟩
 have hyl := hp.length_eq
 repeat' first
   | refine EV.seq ?_
   | (refine EV.reg ?_; (conv => (arg 2; whnf)); (refine nx ?_; try with_reducible exact ⟨⟩))
   | (refine xsA rfl ?_; try (refine nx ?_; try with_reducible exact ⟨⟩))
   | fail
 simp only [← hyl]
 refine Con.callS (G1 := [(rb, Cl 34 (ys.map RowV.v ++ sp))]) (sl_Compact_c (b := rb) (T := 34) (l := ys) (sp := sp) (c := cap) (by omega) (by omega)) ?_
 rintro v3 M3 G3 hM3 ⟨rfl, sp', rfl, rfl, hc'⟩
 repeat' first
   | fail
 obtain ⟨k1, k2⟩ := cptL_spec ys hsrt
 refine EV.keepS [] ?_
 generalize hR : M3.add _ = N5
 have hMN5 : M3.le N5 := hR ▸ PHeap.le_add _ _
 have hfin : rdS N5 1 (some ⟨rb, 0, none⟩) (cptL ys).length ((cptL ys).map RowV.v) := hR ▸ .inr ⟨rb, 0, rfl, rd_at (T := 34) (cs := (cptL ys).map RowV.v ++ sp') (by simp) (by rw [List.drop_zero, Nat.mul_one, List.take_left' (by rw [List.length_map])]) (by simp)⟩
 clear hR
 refine EV.ret Q46_ok ?_
 simp only [wpS, wpA, wpQL, push_cast, Int.cast_ofNat_Int, reduceIte, Nat.reduceEqDiff, reduceCtorEq, Nat.reduceAdd, Nat.reduceSub, Nat.reduceMul, Int.reduceToNat, Nat.reduceLeDiff, Q46]
 have hmem : ∀ x, x ∈ (cptL ys).map RowV.xs ↔ x ∈ walkP ts (leftP ts mem0) mem0 := fun x => by rw [k2 x, ← hn, ← hxs]; exact (hp.map RowV.xs).mem_iff
 have hcl : (cptL ys).length ≤ rs.length := by rw [← hyl]; exact cptN_len ys ys.length
 refine .inr ⟨hck0, _, rfl, (cptL ys).map RowV.xs, ?_, ?_, hmem, ?_, ⟨_, _, (cptL ys).map RowV.v, by rw [List.length_map], by simp, by rw [List.length_map]; exact hfin, fun i h1 h2 => ?_⟩, ?_⟩
 ·intro e
  rw [e] at hmem
  obtain ⟨x, hx⟩ := List.exists_mem_of_ne_nil _ (hn ▸ hne)
  exact absurd ((hmem x).2 hx) List.not_mem_nil
 ·rw [List.pairwise_map]; exact k1
 ·rw [List.length_map]; omega
 ·simp only [List.getElem_map]
  exact ((cptL ys)[i]'(by simpa using h1)).2.1.mono hMN5
 ·intro x hx
  obtain ⟨r, _, rfl⟩ := List.mem_map.1 hx
  exact r.2.2

end
end Go.EV

namespace Go.EV
open Go.Proofs

section
variable {M : PHeap}

set_option maxHeartbeats 4000000 in
theorem AxiomInter_c (ts : List (List OpV)) (s : Value) (hs : SlSl M 5 encOp s ts) (hb : Sized ts) : Con Try.prog 6 #[.agg #[s]] M [] fun u _ _ => u = vb true := by
 have hs0 := hs
 obtain ⟨a, c, vs, rfl, hl, hrd, hk⟩ := hs
 refine Con.enter Q58_ok (args := [.agg #[.slice a ts.length c]]) (by simp [Q58]) fun w0 => ?_
 simp only [Q58, argE]
 repeat' first
   | refine EV.seq ?_
   | (refine EV.reg ?_; (conv => (arg 2; whnf)); (refine nx ?_; try with_reducible exact ⟨⟩))
   | (with_reducible intro b; try (refine nx ?_; try with_reducible exact ⟨⟩))
   | fail
 refine Con.callS (G1 := []) awake_c ?_
 rintro v M1 G1 hM1 rfl
 simp only [wpS, wpA, wpQL, push_cast, Int.cast_ofNat_Int, reduceIte, Nat.reduceEqDiff, reduceCtorEq, Nat.reduceAdd, Nat.reduceSub, Nat.reduceMul, Int.reduceToNat, Nat.reduceLeDiff]
 repeat' first
   | refine EV.seq ?_
   | refine EV.skip ?_
   | (refine EV.reg ?_; (conv => (arg 2; whnf)); (refine nx ?_; try with_reducible exact ⟨⟩))
   | (refine EV.condX rfl (fun h => ?_) (fun h => ?_) <;> try exact dead h)
   | (refine xrA rfl ?_; try (refine nx ?_; try with_reducible exact ⟨⟩))
   | fail
 obtain ⟨pb, rfl⟩ : ∃ x, x = b := ⟨_, rfl⟩
 refine Con.callS (G1 := []) (lm_Inter_c ts _ (hs0.mono hM1) hb) ?_
 rintro v M2 G2 hM2 (⟨hne, rfl⟩ | ⟨hck, s', outs, rfl, hnl, _, hmem, hlen, hs', hxl⟩)
 ·simp only [wpS, wpA, wpQL, push_cast, Int.cast_ofNat_Int, reduceIte, Nat.reduceEqDiff, reduceCtorEq, Nat.reduceAdd, Nat.reduceSub, Nat.reduceMul, Int.reduceToNat, Nat.reduceLeDiff]
  repeat' first
    | refine EV.seq ?_
    | (refine EV.reg ?_; (conv => (arg 2; whnf)); (refine nx ?_; try with_reducible exact ⟨⟩))
    | (refine xrA rfl ?_; try (refine nx ?_; try with_reducible exact ⟨⟩))
    | fail
  refine Con.callS (G1 := []) (ax_Outcomes_c ts _ (hs0.mono (PHeap.le_trans hM1 hM2)) hb) ?_
  rintro v M3 G3 hM3 (⟨_, rfl⟩ | ⟨hck, _⟩)
  ·simp only [wpS, wpA, wpQL, push_cast, Int.cast_ofNat_Int, reduceIte, Nat.reduceEqDiff, reduceCtorEq, Nat.reduceAdd, Nat.reduceSub, Nat.reduceMul, Int.reduceToNat, Nat.reduceLeDiff]
   repeat' first
     | refine EV.seq ?_
     | (refine EV.reg ?_; (conv => (arg 2; whnf)); simp only [wpS, wpA, wpQL, push_cast, Int.cast_ofNat_Int, reduceIte, Nat.reduceEqDiff, reduceCtorEq, Nat.reduceAdd, Nat.reduceSub, Nat.reduceMul, Int.reduceToNat, Nat.reduceLeDiff, hne])
     | (refine EV.condX rfl (fun h => ?_) (fun h => ?_) <;> try exact dead h)
     | fail
   refine EV.ret Q58_ok ?_
   simp only [wpS, wpA, wpQL, push_cast, Int.cast_ofNat_Int, reduceIte, Nat.reduceEqDiff, reduceCtorEq, Nat.reduceAdd, Nat.reduceSub, Nat.reduceMul, Int.reduceToNat, Nat.reduceLeDiff, Q58]
   try simp
  ·exact absurd hck hne
 obtain ⟨ua, uc, us, rfl, hul, hurd, huk⟩ := hs'.sl
 simp only [wpS, wpA, wpQL, push_cast, Int.cast_ofNat_Int, reduceIte, Nat.reduceEqDiff, reduceCtorEq, Nat.reduceAdd, Nat.reduceSub, Nat.reduceMul, Int.reduceToNat, Nat.reduceLeDiff]
 repeat' first
   | refine EV.seq ?_
   | (refine EV.reg ?_; (conv => (arg 2; whnf)); (refine nx ?_; try with_reducible exact ⟨⟩))
   | (refine xrA rfl ?_; try (refine nx ?_; try with_reducible exact ⟨⟩))
   | fail
 refine Con.callS (G1 := []) (ax_Outcomes_c ts _ (hs0.mono (PHeap.le_trans hM1 hM2)) hb) ?_
 rintro v M3 G3 hM3 (⟨hne, _⟩ | ⟨_, s2, outs2, rfl, ho2, hs2⟩)
 ·exact absurd hck hne
 have hp1 := evs_pok hck
 have hfew := outs_few hp1 (evs_mono ts) (evs_few hck) ho2.nodup (fun x hx => (outs_iff ho2).1 hx)
 have hout2l : ∀ x ∈ outs2, x.length ≤ 281474976710656 := fun x hx => by
  obtain ⟨r, a, b, c, rfl, hr⟩ := isOut_len hp1 ((outs_iff ho2).1 hx)
  have := hp1.len
  rw [List.length_append]; simp; omega
 have hin : ∀ x ∈ outs, x ∈ outs2 := fun x hx => (outs_iff ho2).2 (walk_out hck _ x ((hmem x).1 hx))
 obtain ⟨ma, mc, ms, rfl, hml, hmrd, hmk⟩ := hs2.sl
 repeat' first
   | refine EV.seq ?_
   | refine EV.skip ?_
   | refine EV.block ?_
   | (refine EV.reg ?_; (conv => (arg 2; whnf)); (refine nx ?_; try with_reducible exact ⟨⟩))
   | (refine EV.condX rfl (fun h => ?_) (fun h => ?_) <;> try exact dead h)
   | fail
 refine EV.reS (G' := []) ?_
 refine EV.loopTo (fun i : Nat => ([(2, .bool false), (3, .slice ua outs.length uc), (4, vi 0), (5, .slice ma outs2.length mc), (6, vi 0), (7, vi i)], M3, [])) (fun i => i ≤ outs.length) (fun i => outs.length - i) 0 rfl (Nat.zero_le _) ?env3 (List.nil_sublist _) ?_
 case env3 =>
  repeat' first
   | (refine List.forall_mem_cons.2 (And.intro ?_ ?_))
   | (intro _ hnil; cases hnil; done)
   | rfl
   | fail
 intro i hi ih
 dsimp only at hi ih ⊢
 repeat' first
   | refine EV.seq ?_
   | refine EV.skip ?_
   | refine EV.block ?_
   | (refine EV.reg ?_; (conv => (arg 2; whnf)); (refine nx ?_; try with_reducible exact ⟨⟩))
   | with_reducible assumption
   | (refine condW.merge ?_ (fun hc K' hK => ?_) ?_; rotate_left)
   | (refine EV.condX rfl (fun h => ?_) (fun h => ?_) <;> try exact dead h)
   | (refine EV.exit rfl ?_)
   | fail
 ·have hi' : i < outs.length := by omega
  obtain ⟨ub, uo, rfl, hat⟩ := SlSl.at hurd hul huk (by omega)
  obtain ⟨a', c', hr1, hr2⟩ := hat i hi'
  have hr1 := hr1.mono hM3
  have hr2 := hr2.mono hM3
  simp only [Nat.mul_one] at hr1
  have hyin := hin _ (List.getElem_mem hi')
  have hyl := hxl _ (List.getElem_mem hi')
  generalize outs[i] = y at hr1 hr2 hyin hyl
  have hwi := fun G => r1_Within_q (M := M3.add G) outs2 y _ _ ((show SlSl M3 1 ei (.slice ma outs2.length mc) outs2 from ⟨ma, mc, ms, rfl, hml, hmrd, hmk⟩).mono (PHeap.le_add _ _)) ⟨a', c', rfl, hr2.mono (PHeap.le_add _ _)⟩ ho2.1 (by omega) (by omega) hout2l
  rw [decide_eq_true hyin] at hwi
  repeat' first
    | refine EV.skip ?_
    | refine EV.inBlock ?_
    | (refine EV.reg ?_; (conv => (arg 2; whnf)); (refine nx ?_; try with_reducible exact ⟨⟩))
    | (refine ConQ.call (hwi _) ?_; try (refine nx ?_; try with_reducible exact ⟨⟩))
    | (refine EV.condX rfl (fun h => ?_) (fun h => ?_) <;> try exact dead h)
    | (refine And.intro (by omega) ?_)
    | (refine Exists.intro _ (Exists.intro _ (Exists.intro _ (And.intro (rd_M (by assumption)) ?_))); try (refine nx ?_; try with_reducible exact ⟨⟩))
    | fail
  refine EV.to (ih (i + 1) (by omega) (by omega)) ?_ (List.Sublist.refl _)
  repeat' first
   | (refine List.forall_mem_cons.2 (And.intro ?_ ?_))
   | (intro _ hnil; cases hnil; done)
   | rfl
   | (refine env_w64 rfl (by first | rfl | (push_cast; first | rfl | omega)) (by omega) (by omega); done)
   | fail
 ·have hpos : 0 < outs.length := List.length_pos_iff.2 hnl
  refine EV.ret Q58_ok ?_
  simp only [wpS, wpA, wpQL, push_cast, Int.cast_ofNat_Int, reduceIte, Nat.reduceEqDiff, reduceCtorEq, Nat.reduceAdd, Nat.reduceSub, Nat.reduceMul, Int.reduceToNat, Nat.reduceLeDiff, Q58]
  simp; omega

end
end Go.EV

namespace Go.EV
open Go.Proofs

variable {P : Program} {f : FuncId} {args : Array Value}

/-- What is in the world at the start, to be read. -/
def heapOf (w : World) : PHeap := fun b o => w.heap[b]? = some o

theorem St_kept {w w' : World} {M0 M : PHeap} {G : Own} (h : EV.St w [] M0 M G w') : w.keptBut w' (fun _ => False) := by
 refine ⟨h.os, h.output, fun i hi => ?_⟩
 have e := h.frame i hi (by simp)
 rw [e]
 cases w.heap[i]? with
 | none => rfl
 | some o => cases o <;> simp

/-- A contract, read at one world. -/
theorem Con.at {w : World} {Φ : Value → PHeap → Own → Prop} (h : Con P f args (heapOf w) [] Φ) : Calls P f args w fun e w' => ∃ v, e = .returned v ∧ (∃ M' G', Φ v M' G') ∧ w.keptBut w' (fun _ => False) ∧ w.heap.size ≤ w'.heap.size := by
 intro cs
 obtain ⟨e, w', fr, ⟨v, he, M', G', h1, h2⟩, r⟩ := h.2 w (St.enter (G := []) (fun b o hb => hb) (by simp) (by simp) (by simp)) cs
 exact ⟨e, w', fr, ⟨v, he, ⟨M', G', h2⟩, St_kept h1, h1.size⟩, r⟩

theorem post_of_kept {H : Type} {enc : TypeId × Value → H} {f : Func} {s : ChangeSpec} {apart fresh handsOn : Bool} {W W' : World} {args : Array Value} {v : Value} {ds gs : List (DataW H)} {before pa pv : List MemPlace}
  (hW : DataW.Whole enc P f.params.toList s.vars apart W args.toList ds gs before)
  (hres : ∀ (b : Nat) (sp : Nat → Bool) (hd : Bool), DataW.TrodAll enc P W' b sp hd f.resultTypes.toList (v.resultList f.resultTypes.size) (s.fn H (ds ++ gs)).results [])
  (hargs : ∀ sp : Nat → Bool, (∀ p ∈ before, sp p.block = true) → DataW.TrodAll enc P W' 0 sp true f.params.toList args.toList (s.fn H (ds ++ gs)).args pa)
  (hvars : ∀ sp : Nat → Bool, (∀ p ∈ before, sp p.block = true) → DataW.TrodVars enc P W' sp s.vars (s.fn H (ds ++ gs)).vars pv)
  (hps : before = pa ++ pv) (hk : W.keptBut W' (fun _ => False)) :
  s.post enc P f apart fresh handsOn false W args v W' := by
 have hold : ∀ p ∈ before, (fun b => decide (b < W.heap.size)) p.block = true := fun p hp => by simpa using hW.lt p hp
 exact ⟨ds, gs, before, [], pa, pv, hW, hres _ _ _, hargs _ hold, hvars _ hold, World.keptBut_mono (fun p hp => hp.elim) hk, fun h => by cases h⟩

end Go.EV

namespace Go.EV
open Go.Proofs
section
variable {H : Type} {enc : TypeId × Value → H} {P : Program} {W : World} {base : Nat} {sp : Nat → Bool} {held : Bool}

theorem mapM_some {α β : Type} {f : α → Option β} : ∀ {l : List α} {r : List β}, l.mapM f = some r → r.length = l.length ∧ ∀ i (h : i < l.length), ∃ y, f l[i] = some y ∧ r[i]? = some y
 | [], r, h => by simp at h; subst h; simp
 | x :: l, r, h => by
  simp only [List.mapM_cons, Option.bind_eq_bind, Option.pure_def, Option.bind_eq_some_iff] at h
  obtain ⟨y, hy, r', hr', e⟩ := h
  cases e
  obtain ⟨h1, h2⟩ := mapM_some hr'
  refine ⟨by simp [h1], fun i hi => ?_⟩
  cases i with
  | zero => exact ⟨y, hy, rfl⟩
  | succ i => exact h2 i (by simpa using hi)

theorem cells_rd {a : Addr} {n : Nat} {cs : List Value} (h : W.cells? base a n = some cs) (hn : 0 < n) : ∃ b off, a = ⟨b, off, none⟩ ∧ rd (heapOf W) b off n cs := by
 unfold World.cells? at h
 split at h
 ·obtain ⟨h1, h2⟩ := mapM_some h
  rw [List.length_range] at h1
  obtain ⟨ab, ao, sa⟩ := a
  have hspot : sa = none := by
   obtain ⟨y, hy, _⟩ := h2 0 (by simpa using hn)
   simp only [List.getElem_range, World.cell?, Addr.add] at hy
   cases sa with
   | none => rfl
   | some s => exfalso; revert hy; simp; split <;> simp
  subst hspot
  refine ⟨ab, ao, rfl, ?_⟩
  have hcell : ∀ i, i < n → ∃ y, W.cell? ⟨ab, ao + i, none⟩ = some y ∧ cs[i]? = some y := fun i hi => by
   obtain ⟨y, hy, e⟩ := h2 i (by simpa using hi)
   rw [List.getElem_range, addr_add] at hy
   exact ⟨y, hy, e⟩
  cases hb : W.heap[ab]? with
  | none => obtain ⟨y, hy, _⟩ := hcell 0 hn; simp [World.cell?, hb] at hy
  | some ob =>
   cases ob with
   | cells c T fz =>
    have hc : ∀ i, i < n → c[ao + i]? = cs[i]? := fun i hi => by
     obtain ⟨y, hy, e⟩ := hcell i hi
     simp [World.cell?, hb] at hy
     rw [hy, e]
    have hle : ao + n ≤ c.size := by
     obtain ⟨y, hy, e⟩ := hcell (n - 1) (by omega)
     have h3 := hc (n - 1) (by omega)
     rw [e] at h3
     have := (Array.getElem?_eq_some_iff.1 h3).1
     omega
    refine ⟨c, T, fz, hb, hle, ?_⟩
    apply List.ext_getElem?
    intro i
    rw [List.getElem?_take]
    by_cases hi : i < n
    ·rw [if_pos hi, List.getElem?_drop, ← hc i hi]; simp
    ·rw [if_neg hi, List.getElem?_eq_none (by omega)]
   | _ => obtain ⟨y, hy, _⟩ := hcell 0 hn; simp [World.cell?, hb] at hy
 ·cases h

theorem rd_join {b off n k : Nat} {xs ys : List Value} (h1 : rd (heapOf W) b off n xs) (h2 : rd (heapOf W) b (off + n) k ys) : rd (heapOf W) b off (n + k) (xs ++ ys) := by
 obtain ⟨c, T, fz, e1, l1, rfl⟩ := h1
 obtain ⟨c', T', fz', e2, l2, rfl⟩ := h2
 have : (Obj.cells c T fz) = Obj.cells c' T' fz' := Option.some.inj (e1.symm.trans e2)
 cases this
 refine ⟨c, T, fz, e1, by omega, ?_⟩
 rw [← List.drop_drop, List.take_add]

theorem rd_rows {α : Type} {e' : α → List Value} {sz b off : Nat} (henc : ∀ z, (e' z).length = sz) : ∀ (zs : List α), 0 < zs.length → (∀ i (h : i < zs.length), rd (heapOf W) b (off + i * sz) sz (e' zs[i])) → rd (heapOf W) b off (zs.length * sz) (zs.flatMap e') := by
 intro zs
 induction zs generalizing off with
 | nil => intro h; exact absurd h (by simp)
 | cons z zs ih =>
  intro _ hr
  have h0 := hr 0 (by simp)
  simp only [Nat.zero_mul, Nat.add_zero, List.getElem_cons_zero] at h0
  cases hz : zs with
  | nil => simpa [hz] using h0
  | cons z' zs' =>
   have h1 := ih (off := off + sz) (by rw [hz]; simp) (fun i hi => by
    have := hr (i + 1) (by simpa using hi)
    rw [Nat.succ_mul] at this
    rw [show off + sz + i * sz = off + (i * sz + sz) by omega]
    simpa using this)
   have := rd_join h0 h1
   rw [hz] at this
   simpa [Nat.succ_mul, Nat.add_comm, Nat.add_left_comm] using this

theorem weightsAll_mem {e : TypeId} {ds : List (DataW H)} (h : (DataW.weightsAll P e ds).all (· ≤ reachBytes) = true) : ∀ d ∈ ds, (d.weights P e).all (· ≤ reachBytes) = true := by
 induction ds with
 | nil => intro d hd; cases hd
 | cons d ds ih =>
  rw [DataW.weightsAll, List.all_append, Bool.and_eq_true] at h
  intro d' hd
  rcases List.mem_cons.1 hd with rfl | hd
  ·exact h.1
  ·exact ih h.2 d' hd

/-- A slice that comes in. -/
theorem slice_in {α : Type} {e' : α → List Value} {Q : α → Prop} {t e : TypeId} {sz m : Nat} {v : Value} {x : DataW H × List MemPlace} (ht : P.underlying t = some (.slice e)) (hc : P.cellsOf e = sz) (hpos : 0 < sz) (hby : 0 < P.bytesOf e) (henc : ∀ z, (e' z).length = sz)
  (h : DataW.trod enc P W base sp held m t [v] = some x) (hw : (x.1.weights P t).all (· ≤ reachBytes) = true)
  (hel : ∀ m cs y, DataW.trod enc P W base sp held m e cs = some y → (y.1.weights P e).all (· ≤ reachBytes) = true → ∃ z, cs = e' z ∧ Q z) :
  ∃ (zs : List α) (a : Option Addr) (c : Nat), v = .slice a zs.length c ∧ rdS (heapOf W) sz a zs.length (zs.flatMap e') ∧ zs.length ≤ reachBytes ∧ ∀ z ∈ zs, Q z := by
 cases m with
 | zero => simp [DataW.trod] at h
 | succ m =>
  unfold DataW.trod at h
  rw [ht] at h
  split at h <;> (try (cases h; done)) <;> (try (rename_i hu _ _; cases hu; done)) <;> (try (rename_i hu _; cases hu; done)) <;> (try (rename_i hu; cases hu; done))
  ·rename_i hv
   simp only [List.cons.injEq, and_true] at hv
   exact ⟨[], none, 0, hv, .inl ⟨by simp, rfl⟩, Nat.zero_le _, fun z hz => by cases hz⟩
  ·rename_i e0 a len cap hu hv
   cases hu
   simp only [List.cons.injEq, and_true] at hv
   subst hv
   split at h
   ·rename_i hcond
    simp only [Option.bind_eq_some_iff] at h
    obtain ⟨elems, he, h⟩ := h
    obtain ⟨rest, _, h⟩ := Option.map_eq_some_iff.1 h
    subst h
    obtain ⟨hel1, he2⟩ := mapM_some he
    rw [List.length_range] at hel1
    rw [hc] at he2
    dsimp only at hw
    unfold DataW.weights at hw
    rw [ht] at hw
    dsimp only at hw
    rw [List.all_cons, Bool.and_eq_true, List.all_append, Bool.and_eq_true] at hw
    obtain ⟨hw1, hw2, _⟩ := hw
    have hlb : len ≤ reachBytes := by
     have h1 : (elems.length + rest.length) * P.bytesOf e ≤ reachBytes := by simpa using hw1
     have h2 : elems.length * 1 ≤ (elems.length + rest.length) * P.bytesOf e := Nat.mul_le_mul (by omega) hby
     omega
    have hz : ∀ i : Fin len, ∃ z, W.cells? base (a.add (i.1 * sz)) sz = some (e' z) ∧ Q z := fun i => by
     obtain ⟨y, hy, hy2⟩ := he2 i.1 (by simp)
     rw [List.getElem_range] at hy
     simp only [Option.bind_eq_some_iff] at hy
     obtain ⟨cs, hcs, hy⟩ := hy
     have hym : y ∈ elems := List.mem_of_getElem? hy2
     obtain ⟨z, rfl, hq⟩ := hel _ _ _ hy (weightsAll_mem hw2 y.1 (List.mem_map.2 ⟨y, hym, rfl⟩))
     exact ⟨z, hcs, hq⟩
    obtain ⟨zs, hzs⟩ : ∃ zs, zs = List.ofFn fun i : Fin len => Classical.choose (hz i) := ⟨_, rfl⟩
    have hlen : zs.length = len := by rw [hzs]; simp
    have hall : ∀ i (h : i < zs.length), W.cells? base (a.add (i * sz)) sz = some (e' zs[i]) ∧ Q zs[i] := fun i hi => by
     subst hzs
     simp only [List.getElem_ofFn]
     exact Classical.choose_spec (hz ⟨i, by simpa using hi⟩)
    refine ⟨zs, some a, cap, by rw [hlen], ?_, by omega, fun z hz' => ?_⟩
    ·by_cases h0 : zs.length = 0
     ·refine .inl ⟨by rw [h0]; simp, ?_⟩
      rw [List.length_eq_zero_iff.1 h0]; rfl
     ·obtain ⟨b, off, hab, _⟩ := cells_rd (hall 0 (by omega)).1 hpos
      rw [Nat.zero_mul] at hab
      have hab2 : a = ⟨b, off, none⟩ := by rw [← hab]; simp [Addr.add]
      refine .inr ⟨b, off, by rw [hab2], rd_rows henc zs (by omega) fun i hi => ?_⟩
      obtain ⟨b', off', hab', hr⟩ := cells_rd (hall i hi).1 hpos
      rw [hab2, addr_add] at hab'
      cases hab'
      exact hr
    ·obtain ⟨i, hi, rfl⟩ := List.mem_iff_getElem.1 hz'
     exact (hall i hi).2
   ·cases h

theorem int_in {t : TypeId} {m : Nat} {cs : List Value} {x : DataW H × List MemPlace} (ht : P.underlying t = some (.int .i64)) (h : DataW.trod enc P W base sp held m t cs = some x) : ∃ n, cs = [vi n] := by
 cases m with
 | zero => simp [DataW.trod] at h
 | succ m =>
  unfold DataW.trod at h
  rw [ht] at h
  split at h <;> (try (cases h; done)) <;> (try (rename_i hu _ _; cases hu; done)) <;> (try (rename_i hu _; cases hu; done)) <;> (try (rename_i hu; cases hu; done))
  rename_i k1 k2 n1 hu
  cases hu
  split at h
  ·rename_i hk
   obtain ⟨rfl, _⟩ := hk
   exact ⟨n1, rfl⟩
  ·cases h

theorem sameAt_kept {W' : World} (hf : ∀ b, b < W.heap.size → W'.heap[b]? = W.heap[b]?) {p : MemPlace} (hp : p.block < W.heap.size) : W.sameAt W' p := by
 cases p with
 | cell b off => simp only [World.sameAt, World.cell?, hf b hp]
 | map b => exact hf b hp

theorem trodAll_kept {W' : World} (K : Kids P (· < P.types.size)) (hsz : ∀ {t e : TypeId}, t < P.types.size → P.underlying t = some (.slice e) → 0 < P.cellsOf e) (hf : ∀ b, b < W.heap.size → W'.heap[b]? = W.heap[b]?) {sp' : Nat → Bool} :
  ∀ {ts : List TypeId} {vs : List Value} {ds : List (DataW H)} {ps : List MemPlace}, (∀ t ∈ ts, t < P.types.size) → DataW.TrodAll enc P W 0 (fun _ => true) true ts vs ds ps → (∀ p ∈ ps, p.block < W.heap.size) → (∀ p ∈ ps, sp' p.block = true) → DataW.TrodAll enc P W' 0 sp' true ts vs ds ps
 | [], [], [], ps, _, h, _, _ => h
 | t :: ts, v :: vs, d :: ds, ps, hts, h, hb, hs => by
  obtain ⟨p, q, ⟨m, h1⟩, h2, rfl⟩ := h
  refine ⟨p, q, ⟨m, DataW.trod_stays K hsz (fun h => by cases h) (hts t (by simp)) h1 (fun r hr => sameAt_kept hf (hb r (by simp [hr]))) (fun r hr => hs r (by simp [hr]))⟩, ?_, rfl⟩
  exact trodAll_kept K hsz hf (fun t ht => hts t (by simp [ht])) h2 (fun r hr => hb r (by simp [hr])) (fun r hr => hs r (by simp [hr]))

theorem Con.at2 {f : FuncId} {args : Array Value} {Φ : Value → PHeap → Own → Prop} (h : Con P f args (heapOf W) [] Φ) : Calls P f args W fun e W' => ∃ v, e = .returned v ∧ (∃ M' G', Φ v M' G') ∧ W.keptBut W' (fun _ => False) ∧ ∀ b, b < W.heap.size → W'.heap[b]? = W.heap[b]? := by
 intro cs
 obtain ⟨e, w', fr, ⟨v, he, M', G', h1, h2⟩, r⟩ := h.2 W (St.enter (G := []) (fun b o hb => hb) (by simp) (by simp) (by simp)) cs
 exact ⟨e, w', fr, ⟨v, he, ⟨M', G', h2⟩, St_kept h1, fun b hb => h1.frame b hb (by simp)⟩, r⟩

end
end Go.EV

namespace Go.EV
open Go.Proofs Go.ChangeShapes
theorem flatMap_one {α β : Type} (f : α → β) : ∀ zs : List α, zs.flatMap (fun z => [f z]) = zs.map f
 | [] => rfl
 | z :: zs => by rw [List.flatMap_cons, flatMap_one f zs]; rfl

section
variable {H : Type} {enc : TypeId × Value → H} {W : World} {sp : Nat → Bool} {held : Bool}

theorem cells_int : (Try.prog).cellsOf 3 = 1 := by kernel_rfl
theorem cells_op : (Try.prog).cellsOf 33 = 5 := by kernel_rfl
theorem cells_ops : (Try.prog).cellsOf 31 = 1 := by kernel_rfl
theorem cells_thr : (Try.prog).cellsOf 22 = 1 := by kernel_rfl
theorem cells_lit : (Try.prog).cellsOf 24 = 1 := by kernel_rfl
theorem bytes_op : 0 < (Try.prog).bytesOf 33 := of_decide_eq_true (by kernel_rfl)
theorem bytes_ops : 0 < (Try.prog).bytesOf 31 := of_decide_eq_true (by kernel_rfl)
set_option maxRecDepth 100000 in
theorem op_in {m : Nat} {cs : List Value} {y : DataW H × List MemPlace} (h : DataW.trod enc Try.prog W 0 sp held m 33 cs = some y) : ∃ o : OpV, cs = encOp o ∧ True := by
 obtain ⟨xs, n, _, _, hl, hxl, hf⟩ := DataW.trod_struct Try.underlying33 h
 rw [cells_op] at hl
 have hxl5 : xs.length = 5 := hxl
 have key : ∀ i : Nat, ∀ f : Field, i < 5 → (show Array Field from _)[i]? = some f → f.type = 3 → ∃ k, ((cs.drop f.offset).take 1) = [vi k] := fun i f hi e ht => by
  have h1 := hf i f e
  rw [ht, cells_int] at h1
  obtain ⟨y, hy⟩ : ∃ y, xs[i]? = some y := ⟨xs[i], List.getElem?_eq_getElem (by omega)⟩
  rw [hy] at h1
  exact int_in Try.underlying3 h1
 obtain ⟨k0, e0⟩ := key 0 _ (by decide) rfl rfl
 obtain ⟨k1, e1⟩ := key 1 _ (by decide) rfl rfl
 obtain ⟨k2, e2⟩ := key 2 _ (by decide) rfl rfl
 obtain ⟨k3, e3⟩ := key 3 _ (by decide) rfl rfl
 obtain ⟨k4, e4⟩ := key 4 _ (by decide) rfl rfl
 match cs, hl with
 | [c0, c1, c2, c3, c4], _ =>
  refine ⟨⟨k0, k1, k2, k3, k4⟩, ?_, trivial⟩
  simp at e0 e1 e2 e3 e4
  simp [e0, e1, e2, e3, e4]

set_option maxRecDepth 100000 in
theorem ops_in {m : Nat} {cs : List Value} {y : DataW H × List MemPlace} (hl : cs.length = 1) (h : DataW.trod enc Try.prog W 0 sp held m 31 cs = some y) (hw : (y.1.weights Try.prog 31).all (· ≤ reachBytes) = true) :
  ∃ z : Value × List OpV, cs = [z.1] ∧ Sl (heapOf W) 5 encOp z.1 z.2 ∧ z.2.length ≤ reachBytes := by
 match cs, hl with
 | [v], _ =>
  obtain ⟨zs, a, c, rfl, h1, h2, _⟩ := slice_in (e' := encOp) (Q := fun _ => True) Try.underlying31 cells_op (by decide) bytes_op (fun _ => rfl) h hw (fun m cs y hy _ => op_in hy)
  exact ⟨(_, zs), rfl, ⟨a, c, rfl, h1⟩, h2⟩

set_option maxRecDepth 100000 in
theorem trod_slice_len {t e : TypeId} {m : Nat} {cs : List Value} {y : DataW H × List MemPlace} (ht : (Try.prog).underlying t = some (.slice e)) (h : DataW.trod enc Try.prog W 0 sp held m t cs = some y) : cs.length = 1 := by
 cases m with
 | zero => simp [DataW.trod] at h
 | succ m =>
  unfold DataW.trod at h
  rw [ht] at h
  split at h <;> (try (cases h; done)) <;> (try (rename_i hu _ _; cases hu; done)) <;> (try (rename_i hu _; cases hu; done)) <;> (try (rename_i hu; cases hu; done)) <;> rfl

set_option maxRecDepth 100000 in
theorem litmus_in {m : Nat} {cs : List Value} {y : DataW H × List MemPlace} (h : DataW.trod enc Try.prog W 0 sp held m 24 cs = some y) (hw : (y.1.weights Try.prog 24).all (· ≤ reachBytes) = true) :
  ∃ s ts, cs = [s] ∧ SlSl (heapOf W) 5 encOp s ts ∧ ts.length ≤ reachBytes ∧ ∀ t ∈ ts, t.length ≤ reachBytes := by
 obtain ⟨y0, n, rfl, hl, h0⟩ := ChangeShapes.trod_struct1 Try.underlying24 h
 rw [cells_lit] at hl
 match cs, hl with
 | [s], _ =>
  unfold DataW.weights at hw
  rw [Try.underlying24] at hw
  simp only [List.map_cons, List.map_nil, DataW.weightsEach, List.append_nil] at hw
  have h1 : DataW.trod enc Try.prog W 0 sp held n 22 [s] = some y0 := by
   have := h0
   rw [show (Try.prog).cellsOf (Field.type _) = 1 from cells_thr] at this
   exact this
  obtain ⟨zs, a, c, rfl, h2, h3, h4⟩ := slice_in (e' := fun z : Value × List OpV => [z.1]) (Q := fun z => Sl (heapOf W) 5 encOp z.1 z.2 ∧ z.2.length ≤ reachBytes) Try.underlying22 cells_ops (by decide) bytes_ops (fun _ => rfl) h1 hw (fun m cs y hy hyw => ops_in (trod_slice_len Try.underlying31 hy) hy hyw)
  refine ⟨_, zs.map (·.2), rfl, ⟨a, c, zs.map (·.1), by simp, by simp, ?_, ?_⟩, by simpa using h3, ?_⟩
  ·have e : zs.flatMap (fun z : Value × List OpV => [z.1]) = zs.map (·.1) := flatMap_one _ zs
   rw [e] at h2
   rw [List.length_map]
   exact h2
  ·intro i hi hi'
   simp only [List.getElem_map]
   exact (h4 _ (List.getElem_mem _)).1
  ·intro t ht
   obtain ⟨z, hz, rfl⟩ := List.mem_map.1 ht
   exact (h4 z hz).2

end

set_option maxRecDepth 100000 in
theorem kids : Kids Try.prog (· < (Try.prog).types.size) := kids_rows (by kernel_rfl) (by kernel_rfl)

set_option maxRecDepth 100000 in
theorem rows_pos : ((List.range (Try.prog).types.size).all fun t => match (Try.prog).underlying t with | some (.slice e) => decide (0 < (Try.prog).cellsOf e) | _ => true) = true := by kernel_rfl

theorem rows_pos' {t e : TypeId} (ht : t < (Try.prog).types.size) (h : (Try.prog).underlying t = some (.slice e)) : 0 < (Try.prog).cellsOf e := by
 have := List.all_eq_true.1 rows_pos t (List.mem_range.2 ht)
 rw [h] at this
 simpa using this

end Go.EV
