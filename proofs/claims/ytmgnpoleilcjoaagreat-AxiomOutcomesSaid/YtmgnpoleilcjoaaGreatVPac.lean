/- Part of the proof of a statement about executions of litmus programs: walks and laws. -/
import Derived.Test.YtmgnpoleilcjoaaGreatVPab
set_option maxHeartbeats 8000000
set_option maxRecDepth 8000
set_option linter.unusedSimpArgs false
set_option linter.unusedVariables false
set_option linter.unusedSectionVars false
namespace Go.EV
variable {P : Program}
theorem rd.pt {H : Aa} {b off n : Nat} {cs out : List Value} (h : rd H b off n cs) (i k : Nat) (hm : i + k ≤ n) (e : (cs.drop i).take k = out) : rd H b (off + i) k out := e ▸ h.part hm
theorem Kg {α : Type} (f : α → Value) : ∀ (l : List α) {i : Nat} (h : i < l.length), ((l.map f).drop i).take 1 = [f l[i]]
 | x :: l, 0, _ => by simp
 | x :: l, i + 1, h => by
  have := Kg f l (i := i) (by simpa using h)
  simpa using this
section
variable {C : Cx P} {f : FuncId} {args : Array Value} {V : List Nat} {c : RItem} {k : List RItem} {ρ : Env} {M : Aa} {G G2 G3 : Own} {K : Value → Aa → Own → Prop}
theorem Dc.frz (hG : G.Perm (G2 ++ G3)) (h : Dc C f args (M.add G2) G3 K) : Dc C f args M G K :=
 ⟨h.1, fun w hs cs => h.2 w (hs.perm hG).freeze cs⟩
theorem JH (Φ : Env → Aa → Own → Prop) (h1 : ∀ k', (∀ ρ' M' G', Φ ρ' M' G' → EV C V k' ρ' M' G') → EV C V (c :: k') ρ M G) (h2 : ∀ ρ' M' G', Φ ρ' M' G' → EV C V k ρ' M' G') : EV C V (c :: k) ρ M G := h1 k h2
end
theorem Cd {α : Type} {M : Aa} {G : Own} {b : Nat} {T : TypeId} {f : α → Value} {xs : List α} {i : Nat} (hi : i < xs.length) [h : At G b T (xs.map f)] : rd (M.add G) b i 1 [f xs[i]] :=
 B3 h.mem (Kg f xs hi) (by rw [lA1]; omega)
theorem Xc {α : Type} {M : Aa} {G : Own} {b : Nat} {T : TypeId} {f : α → Value} {xs : List α} {sp : List Value} {i : Nat} (hi : i < xs.length) [h : At G b T (xs.map f ++ sp)] : rd (M.add G) b i 1 [f xs[i]] := by
 refine B3 h.mem ?_ (by rw [lA4, lA1]; omega)
 rw [lCu (by rw [lA1]; omega), lCv (by rw [lDs, lA1]; omega), Kg f xs hi]
theorem Ao {α : Type} (f : α → Value) (xs : List α) {i : Nat} (hi : i < xs.length) (x : α) : (xs.map f).take i ++ (f x :: (xs.map f).drop (i + 1)) = (xs.set i x).map f := by
 rw [List.map_set, lEt, if_pos (by rw [lA1]; exact hi)]
abbrev Av (b n c : Nat) : Value := .slice (some ⟨b, 0, none⟩) n c
class Pull (G : Own) (x : Nat × Obj) (R : outParam Own) : Prop where
 p : G.Perm (x :: R)
instance Pull.here {x : Nat × Obj} {G : Own} : Pull (x :: G) x G := ⟨lAe _⟩
instance (priority := low) Pull.there {x y : Nat × Obj} {G R : Own} [h : Pull G x R] : Pull (y :: G) x (y :: R) := ⟨(lCh y h.p).trans (List.Perm.swap x y R)⟩
instance (priority := low) Pull.app {x : Nat × Obj} {A G R : Own} [h : Pull G x R] : Pull (A ++ G) x (A ++ R) := ⟨(lEf A h.p).trans lEo⟩
class PullL (G : Own) (A : Own) (R : outParam Own) : Prop where
 p : G.Perm (A ++ R)
instance PullL.here {A G : Own} : PullL (A ++ G) A G := ⟨lAe _⟩
instance (priority := 900) PullL.all {A : Own} : PullL A A [] := ⟨by simp⟩
instance (priority := low) PullL.cons {A G R : Own} {y : Nat × Obj} [h : PullL G A R] : PullL (y :: G) A (y :: R) := ⟨(lCh y h.p).trans List.perm_middle.symm⟩
instance (priority := low) PullL.app {A B G R : Own} [h : PullL G A R] : PullL (B ++ G) A (B ++ R) := ⟨(lEf B h.p).trans (by rw [← lAc, ← lAc]; exact List.Perm.append_right _ lBq)⟩
class SubS (G G' : Own) (R : outParam Own) : Prop where
 p : G.Perm (G' ++ R)
instance SubS.nil {G : Own} : SubS G [] G := ⟨lAe _⟩
instance SubS.cons {G G1 t R : Own} {x : Nat × Obj} [h1 : Pull G x G1] [h2 : SubS G1 t R] : SubS G (x :: t) R := ⟨h1.p.trans (lCh x h2.p)⟩
instance (priority := low) SubS.app {G G1 A t R : Own} [h1 : PullL G A G1] [h2 : SubS G1 t R] : SubS G (A ++ t) R := ⟨h1.p.trans ((lEf A h2.p).trans (by simp))⟩
instance (priority := low) SubS.last {G G1 A : Own} [h1 : PullL G A G1] : SubS G A G1 := ⟨h1.p⟩
section
variable {C : Cx P} {f : FuncId} {args : Array Value} {V : List Nat} {k : List RItem} {ρ ρ' : Env} {M : Aa} {G G' R : Own} {K : Value → Aa → Own → Prop} {Φ : Value → Aa → Own → Prop}
theorem JD (h : EV C V k ρ' M G') (hρ : ∀ p ∈ ρ', get ρ p.1 = some p.2) [hG : SubS G G' R] : EV C V k ρ M G :=
 JF (JA h hρ (lAj _ _)) hG.p
theorem JI (h : EV C V k ρ M G') [hG : SubS G G' R] : EV C V k ρ M G :=
 JF (EV.weaken h (fun _ _ h => h) (lAj _ _)) hG.p
theorem EV.frz (G' : Own) [hG : SubS G G' R] (h : EV C V k ρ (M.add G') R) : EV C V k ρ M G :=
 JF (EV.freeze h) hG.p
theorem Dc.frzS (G' : Own) [hG : SubS G G' R] (h : Dc C f args (M.add G') R K) : Dc C f args M G K := Dc.frz hG.p h
theorem Con.callS {G1 : Own} (h : Con P f args M G1 Φ) [hG : SubS G G1 R] (hk : ∀ v M' G', M.le M' → Φ v M' G' → K v M' (G' ++ R)) : Dc C f args M G K :=
 ⟨h.1, fun w hs cs => by
  have aZ := hs.perm hG.p
  obtain ⟨e, w', fr, ⟨v, he, M', G', h1, h2⟩, r⟩ := h.2 w (aZ.part (JB _ _)) cs
  exact ⟨e, w', fr, ⟨v, he, M', G' ++ R, aZ.callA h1, hk v M' G' h1.base h2⟩, r⟩⟩
theorem JM {G1 : Own} {Mr : Aa} (h : Con P f args Mr G1 Φ) [hG : SubS G G1 R] (iD : Mr.le (M.add R)) (hk : ∀ v M' G', Φ v M' G' → K v M (G' ++ R)) : Dc C f args M G K :=
 ⟨h.1, fun w hs cs => by
  have aZ := hs.perm hG.p
  obtain ⟨e, w', fr, ⟨v, he, M', G', h1, h2⟩, r⟩ := h.2 w (aZ.part iD) cs
  exact ⟨e, w', fr, ⟨v, he, M, G' ++ R, aZ.callB h1, hk v M' G' h2⟩, r⟩⟩
theorem Con.callR {G1 : Own} {Mr : Aa} (h : Con P f args Mr [] Φ) (iD : Mr.le (M.add G)) (hk : ∀ v M' G' M2, M.le M2 → M2 = M.add G' → Φ v M' G' → K v M2 G) : Dc C f args M G K :=
 ⟨h.1, fun w hs cs => by
  obtain ⟨e, w', fr, ⟨v, he, M', G', h1, h2⟩, r⟩ := h.2 w (St.part (G1 := []) (G2 := G) hs iD) cs
  have h3 := St.callB (G1 := []) (G2 := G) hs h1
  exact ⟨e, w', fr, ⟨v, he, _, G, h3.freeze, hk v M' G' _ (JB _ _) rfl h2⟩, r⟩⟩
end
section
variable {C : Cx P} {f : FuncId} {l : Nat} {args : Array Value} {V : List Nat} {k : List RItem} {ρ : Env} {M : Aa} {G G1 R : Own} {K : Value → Aa → Own → Prop} {Φ : Value → Aa → Own → Prop}
theorem Dc.keep (G1 : Own) [h : PullL G G1 R] (k : Dc C f args (M.add R) G1 K) : Dc C f args M G K := Dc.frz (h.p.trans lBq) k
theorem EV.keep (G1 : Own) [h : PullL G G1 R] (h' : EV C V k ρ (M.add R) G1) : EV C V k ρ M G := JF (EV.freeze h') (h.p.trans lBq)
theorem JG (G1 : Own) [h : SubS G G1 R] (h' : EV C V k ρ (M.add R) G1) : EV C V k ρ M G := JF (EV.freeze h') (h.p.trans lBq)
theorem Fh.keep (G1 : Own) [h : PullL G G1 R] (k : Fh C l args (M.add R) G1 K) : Fh C l args M G K :=
 fun w hs => k w (hs.perm (h.p.trans lBq)).freeze
theorem N7.run (h : N7 P l args M G Φ) (hk : ∀ v M' G', M.le M' → Φ v M' G' → K v M' G') : Fh C l args M G K := by
 refine h.callA (G2 := []) (by simp) fun v M' G' hM hv => ?_
 rw [lAg]; exact hk v M' G' hM hv
theorem Fh.frzS (G1 : Own) [h : SubS G G1 R] (k : Fh C l args (M.add G1) R K) : Fh C l args M G K := fun w hs => k w (hs.perm h.p).freeze
theorem N7.callS (h : N7 P l args M G1 Φ) [hG : SubS G G1 R] (hk : ∀ v M' G', M.le M' → Φ v M' G' → K v M' (R ++ G')) : Fh C l args M G K := h.callA hG.p hk
theorem Con.run (h : Con P f args M G Φ) (hk : ∀ v M' G', M.le M' → Φ v M' G' → K v M' G') : Dc C f args M G K := by
 refine h.callA (G2 := []) (by simp) fun v M' G' hM hv => ?_
 rw [lAg]; exact hk v M' G' hM hv
end
theorem JK {C : Cx P} {f : FuncId} {args : Array Value} {M : Aa} {G : Own} {K : Value → Aa → Own → Prop} {Φ : Value → Aa → Own → Prop} (h : Con P f args (M.add G) [] Φ) (hk : ∀ v M' G', Φ v M' G' → K v M (G ++ G')) : Dc C f args M G K :=
 Con.callB (G1 := []) h (Aa.le_refl _) (lAe _) hk
section
variable {C : Cx P} {ρ : Env} {Mk M : Aa} {Gk G : Own} {K : Env → Aa → Own → Prop} {KQ : Env → Prop}
theorem Cv4 {t : AT} (e : t = .fin) (h : K ρ M G) : wpA C t ρ Mk Gk M G K := by subst e; exact h
theorem Fd4 {t : AT} (e : t = .no) : wpA C t ρ Mk Gk M G K := by subst e; trivial
theorem Cv5 {t rest : AT} {l : QL} (e : t = .q l rest) (h : ∀ l' t', l' = l → t' = rest → J2 C l' ρ Mk Gk fun ρ' => wpA C t' ρ' Mk Gk M G K) : wpA C t ρ Mk Gk M G K := by subst e; exact h _ _ rfl rfl
theorem Fk6 {t0 : AT} {i : Nat} {d : Option Nat} {r : ROp} {t more : AT} (e : t0 = .s i d r false t more) (h : ∀ t', t' = t → opW C ρ M G (fun v M' G' => M.le M' ∧ (∀ p ∈ Gk, p ∈ G') ∧ wpA C t' (putE d v ρ) Mk Gk M' G' K) r) (h2 : ∀ t', t' = more → wpA C t' ρ Mk Gk M G K) : wpA C t0 ρ Mk Gk M G K := by
 subst e; simp only [wpA, lC5, if_false]; exact ⟨h _ rfl, h2 _ rfl⟩
theorem Fd5 {t0 : AT} {i : Nat} {d : Option Nat} {r : ROp} {t more : AT} (e : t0 = .s i d r true t more) (h : ∀ t', t' = t → opW C ρ M G (fun v M' G' => wpA C t' (putE d v ρ) M' G' M' G' K) r) (h2 : ∀ t', t' = more → wpA C t' ρ Mk Gk M G K) : wpA C t0 ρ Mk Gk M G K := by
 subst e; simp only [wpA, if_true]; exact ⟨h _ rfl, h2 _ rfl⟩
theorem Fd6 {t0 : AT} {s : Nat} {yes nay : AT} {c : Bool} (e : t0 = .br s yes nay) (hc : get ρ s = some (.bool c)) (h1 : ∀ t', t' = yes → c = true → wpA C t' ρ Mk Gk M G K) (h2 : ∀ t', t' = nay → c = false → wpA C t' ρ Mk Gk M G K) : wpA C t0 ρ Mk Gk M G K := by
 subst e; simp only [wpA, hc, Cw, I6]; exact ⟨h1 _ rfl, h2 _ rfl⟩
theorem Fd7 {t0 : AT} {i : Nat} {d : Option Nat} {rest : AT} (e : t0 = .sk i d rest) (h : ∀ t', t' = rest → wpA C t' ρ Mk Gk M G K) : wpA C t0 ρ Mk Gk M G K := by subst e; exact h rest rfl
theorem Cv6 {l : QL} (e : l = .nil) (h : KQ ρ) : J2 C l ρ M G KQ := by subst e; exact h
theorem Fd8 {l : QL} {i : Nat} {d : Option Nat} {r : ROp} {rest : QL} (e : l = .op i d r rest) (h : ∀ l', l' = rest → qW C ρ M G (fun v => J2 C l' (putE d v ρ) M G KQ) r) : J2 C l ρ M G KQ := by subst e; exact h _ rfl
theorem Fe8 {l : QL} {s : Nat} {want : Bool} {body : QL} {m d : Nat} {last : A} {rest : QL} {c : Bool} (e0 : l = .g s want body m d last rest) (hc : get ρ s = some (.bool c)) (e : Bool)
  (h1 : ∀ l', l' = body → c = want → J2 C l' ρ M G fun ρ' => onv (ev ρ' last) fun u => onv (I6 u) fun e' => e' = e) (h2 : ∀ l', l' = rest → J2 C l' ((d, .bool (if want then c && e else c || e)) :: ρ) M G KQ) : J2 C l ρ M G KQ := by
 subst e0; simp only [J2, hc, Cw, I6]; exact ⟨e, h1 _ rfl, h2 _ rfl⟩
end
theorem Sb {wb wo n c i : Nat} (h2 : n ≤ c) : ∃ ro, (i < n → ro = wo + i) ∧ (if c = i then some (⟨wb, wo, none⟩ : Addr) else some ((⟨wb, wo, none⟩ : Addr).add i)) = some ⟨wb, ro, none⟩ := by
 by_cases h : c = i
 ·exact ⟨wo, fun h3 => by omega, by rw [if_pos h]⟩
 ·refine ⟨wo + i, fun _ => rfl, ?_⟩
  rw [if_neg h]
  simp only [Addr.add]
  split
  ·rename_i h0; rw [h0]; rfl
  ·rfl
theorem Bb6 {a : Addr} {c : Nat} : (if c = 0 then some a else some (a.add 0)) = some a := by
 split
 ·rfl
 ·simp [Addr.add]
theorem rdS.pre {H : Aa} {a : Option Addr} {n i : Nat} {cs : List Value} (h : rdS H 1 a n cs) (hi : i ≤ n) : rdS H 1 a i (cs.take i) := by
 rcases h with ⟨h0, rfl⟩ | ⟨b, off, e, h⟩
 ·exact .inl ⟨by omega, by simp⟩
 ·refine .inr ⟨b, off, e, ?_⟩
  have := h.part (i := 0) (m := i * 1) (by omega)
  rw [lBr, lDd] at this
  rwa [lAw] at this ⊢
theorem rd.suf {H : Aa} {b off n i : Nat} {cs : List Value} (h : rd H b off n cs) (hi : i ≤ n) : rd H b (off + i) (n - i) (cs.drop i) := by
 have := h.part (i := i) (m := n - i) (by omega)
 have hl := h.length
 rwa [lAx (by rw [lDs]; omega)] at this
def SlC {α : Type} (H : Aa) (sz : Nat) (enc : α → List Value) (v : Value) (xs : List α) : Prop :=
 ∃ a c, v = .slice a xs.length c ∧ xs.length ≤ c ∧ rdS H sz a xs.length (xs.flatMap enc)
theorem SlC.sl {α : Type} {H : Aa} {sz : Nat} {enc : α → List Value} {v : Value} {xs : List α} (h : SlC H sz enc v xs) : Sl H sz enc v xs :=
 let ⟨a, c, e, _, h⟩ := h; ⟨a, c, e, h⟩
theorem SlC.mono {α : Type} {H H' : Aa} (hh : H.le H') {sz : Nat} {enc : α → List Value} {v : Value} {xs : List α} (h : SlC H sz enc v xs) : SlC H' sz enc v xs :=
 let ⟨a, c, e, hc, h⟩ := h; ⟨a, c, e, hc, h.mono hh⟩
def D4 {α : Type} (H : Aa) (sz : Nat) (enc : α → List Value) (v : Value) (xss : List (List α)) : Prop :=
 ∃ a c vs, v = .slice a xss.length c ∧ vs.length = xss.length ∧ rdS H 1 a xss.length vs ∧ ∀ i (h : i < vs.length) (h' : i < xss.length), SlC H sz enc vs[i] xss[i]
theorem D4.mono {α : Type} {H H' : Aa} (hh : H.le H') {sz : Nat} {enc : α → List Value} {v : Value} {xss : List (List α)} (h : D4 H sz enc v xss) : D4 H' sz enc v xss :=
 let ⟨a, c, vs, e, hl, h, k⟩ := h; ⟨a, c, vs, e, hl, h.mono hh, fun i h h' => (k i h h').mono hh⟩
theorem D4.sl {α : Type} {H : Aa} {sz : Nat} {enc : α → List Value} {v : Value} {xss : List (List α)} (h : D4 H sz enc v xss) : Ee H sz enc v xss :=
 let ⟨a, c, vs, e, hl, h, k⟩ := h; ⟨a, c, vs, e, hl, h, fun i h h' => (k i h h').sl⟩
theorem D4.at {α : Type} {H : Aa} {sz : Nat} {enc : α → List Value} {a : Option Addr} {vs : List Value} {xss : List (List α)} (h : rdS H 1 a xss.length vs) (hl : vs.length = xss.length) (hk : ∀ i (h : i < vs.length) (h' : i < xss.length), SlC H sz enc vs[i] xss[i]) (hn : 0 < xss.length) :
  ∃ b off, a = some ⟨b, off, none⟩ ∧ ∀ i (hi : i < xss.length), ∃ a' c', rd H b (off + i * 1) 1 [.slice a' xss[i].length c'] ∧ xss[i].length ≤ c' ∧ rdS H sz a' xss[i].length (xss[i].flatMap enc) := by
 have h1 : rdS H 1 a vs.length (vs.flatMap fun v => [v]) := by rw [Jf, hl]; exact h
 obtain ⟨b, off, e, hr⟩ := Sl.at (sz := 1) (enc := fun v => [v]) (fun _ => rfl) (by omega) h1 (by omega)
 refine ⟨b, off, e, fun i hi => ?_⟩
 have be := hr i (by omega)
 obtain ⟨a', c', e', cJ, h'⟩ := hk i (by omega) hi
 rw [e'] at be
 exact ⟨a', c', be, cJ, h'⟩
section
variable {P : Program} {C : Cx P} {ρ : Env} {Mk M : Aa} {Gk G : Own} {K : Env → Aa → Own → Prop} {KQ : Env → Prop}
theorem zf {t : AT} (h : K ρ M G) (e : t = .fin := by first | with_reducible assumption | rfl) : wpA C t ρ Mk Gk M G K := Cv4 e h
theorem zn {t : AT} (e : t = .no := by first | with_reducible assumption | rfl) : wpA C t ρ Mk Gk M G K := Fd4 e
theorem zq {t rest : AT} {l : QL} (h : ∀ l' t', l' = l → t' = rest → J2 C l' ρ Mk Gk fun ρ' => wpA C t' ρ' Mk Gk M G K) (e : t = .q l rest := by first | with_reducible assumption | rfl) : wpA C t ρ Mk Gk M G K := Cv5 e h
theorem zo {l : QL} {i : Nat} {d : Option Nat} {r : ROp} {rest : QL} (h : ∀ l', l' = rest → qW C ρ M G (fun v => J2 C l' (putE d v ρ) M G KQ) r) (e : l = .op i d r rest := by first | with_reducible assumption | rfl) : J2 C l ρ M G KQ := Fd8 e h
theorem ZA {t0 : AT} {i : Nat} {d : Option Nat} {r : ROp} {t more : AT} (h : ∀ t', t' = t → opW C ρ M G (fun v M' G' => M.le M' ∧ (∀ p ∈ Gk, p ∈ G') ∧ wpA C t' (putE d v ρ) Mk Gk M' G' K) r) (h2 : ∀ t', t' = more → wpA C t' ρ Mk Gk M G K) (e : t0 = .s i d r false t more := by first | with_reducible assumption | rfl) : wpA C t0 ρ Mk Gk M G K := Fk6 e h h2
theorem ZB {t0 : AT} {i : Nat} {d : Option Nat} {r : ROp} {t more : AT} (h : ∀ t', t' = t → opW C ρ M G (fun v M' G' => wpA C t' (putE d v ρ) M' G' M' G' K) r) (h2 : ∀ t', t' = more → wpA C t' ρ Mk Gk M G K) (e : t0 = .s i d r true t more := by first | with_reducible assumption | rfl) : wpA C t0 ρ Mk Gk M G K := Fd5 e h h2
theorem ZC {t0 : AT} {i : Nat} {d : Option Nat} {rest : AT} (h : ∀ t', t' = rest → wpA C t' ρ Mk Gk M G K) (e : t0 = .sk i d rest := by first | with_reducible assumption | rfl) : wpA C t0 ρ Mk Gk M G K := Fd7 e h
theorem ZD {t0 : AT} {s : Nat} {yes nay : AT} {c : Bool} (h1 : ∀ t', t' = yes → c = true → wpA C t' ρ Mk Gk M G K) (h2 : ∀ t', t' = nay → c = false → wpA C t' ρ Mk Gk M G K) (e : t0 = .br s yes nay := by first | with_reducible assumption | rfl) (hc : get ρ s = some (.bool c) := by exact rfl) : wpA C t0 ρ Mk Gk M G K := Fd6 e hc h1 h2
theorem ZE {l : QL} {s : Nat} {want : Bool} {body : QL} {m d : Nat} {last : A} {rest : QL} {c : Bool} (e : Bool) (h1 : ∀ l', l' = body → c = want → J2 C l' ρ M G fun ρ' => onv (ev ρ' last) fun u => onv (I6 u) fun e' => e' = e) (h2 : ∀ l', l' = rest → J2 C l' ((d, .bool (if want then c && e else c || e)) :: ρ) M G KQ) (e0 : l = .g s want body m d last rest := by first | with_reducible assumption | rfl) (hc : get ρ s = some (.bool c) := by exact rfl) : J2 C l ρ M G KQ := Fe8 e0 hc e h1 h2
theorem zl {l : QL} (h : KQ ρ) (e : l = .nil := by first | with_reducible assumption | rfl) : J2 C l ρ M G KQ := Cv6 e h
end
open Go.Proofs
structure Ev where
 op : OpV
 th : Int
 deriving DecidableEq
abbrev Bh (e : Ev) : List Value := [vi e.op.kind, vi e.op.loc, vi e.op.v, vi e.op.w, vi e.op.ord, vi e.th]
abbrev vev (e : Ev) : Value := .agg #[vi e.op.kind, vi e.op.loc, vi e.op.v, vi e.op.w, vi e.op.ord, vi e.th]
def Ev.reads (e : Ev) : Bool := decide (e.op.kind ≠ 1) && decide (e.op.kind ≠ 5)
def Ev.strong (e : Ev) : Bool := decide (e.op.kind = 5) && decide (e.op.ord = 4)
def Ev.acq (e : Ev) : Bool := Cz1 e.op.ord
def Ev.rel (e : Ev) : Bool := Cz2 e.op.ord
instance : Inhabited Ev := ⟨⟨⟨0, 0, 0, 0, 0⟩, 0⟩⟩
def Cz : Nat → List (List OpV) → List Ev
 | _, [] => []
 | n, t :: ts => t.map (fun o => ⟨o, n⟩) ++ Cz (n + 1) ts
def Ad (ts : List (List OpV)) : List Ev := Cz 0 (ts.map Eb)
theorem L4 : ∀ (l1 : List (List OpV)) (n : Nat) (l2 : List (List OpV)), Cz n (l1 ++ l2) = Cz n l1 ++ Cz (n + l1.length) l2
 | [], n, l2 => by simp [Cz]
 | t :: l1, n, l2 => by simp [Cz, L4 l1, lDa, lE3 1]
theorem Yr {l : List (List OpV)} {i : Nat} (hi : i < l.length) : Cz 0 (l.take (i + 1)) = Cz 0 (l.take i) ++ l[i].map (fun o => ⟨o, (i : Int)⟩) := by
 rw [lA7 hi, L4]
 have : (l.take i).length = i := by simp; omega
 simp [Cz, this]
theorem H9 : ∀ (l : List (List OpV)) (n : Nat), (Cz n l).length = l.flatten.length
 | [], n => rfl
 | t :: l, n => by simp [Cz, H9 l]
def Di (q : List (List OpV)) (i j : Nat) : List Ev := Cz 0 (q.take i) ++ ((q[i]?.getD []).take j).map (fun o => ⟨o, (i : Int)⟩)
theorem Eg (q : List (List OpV)) (i : Nat) : Di q i 0 = Cz 0 (q.take i) := by simp [Di]
theorem Oa {q : List (List OpV)} {i j : Nat} (hi : i < q.length) (hj : j < q[i].length) : Di q i (j + 1) = Di q i j ++ [⟨q[i][j], i⟩] := by
 simp only [Di, lA2 hi, lAr]
 rw [lA7 hj, lAu, lAc]; rfl
theorem La {q : List (List OpV)} {i : Nat} (hi : i < q.length) : Di q i q[i].length = Cz 0 (q.take (i + 1)) := by
 simp only [Di, lA2 hi, lAr]
 rw [lB1, Yr hi]
theorem Lb {q : List (List OpV)} {i : Nat} (hi : i < q.length) (j : Nat) : (Di q i j).length ≤ q.flatten.length := by
 have h : (Cz 0 (q.take (i + 1))).length ≤ q.flatten.length := by rw [H9]; exact Cp q (i + 1)
 rw [← La hi] at h
 simp only [Di, lA2 hi, lAr, lA4, lA1, lC0] at h ⊢
 omega
theorem Ob {q : List (List OpV)} {i : Nat} (hi : i < q.length) : q[i].length ≤ q.flatten.length := by
 have h := Lb hi q[i].length
 simp only [Di, lA2 hi, lAr, lA4, lA1, lC0] at h
 omega
section
variable {M : Aa}
theorem Cc (e : Ev) : As Tryz.prog 86 #[vev e] M (vb e.reads) := by
 refine Con.enter Q5_ok (args := [vev e]) (by simp [Q5]) fun w0 => ?_
 simp only [Q5, A9]
 repeat' first | refine st ?_ | refine rg ?_ | with_reducible assumption | (refine JE ?_ (fun hc K' hK => ?_) ?_; rotate_left) | refine rt Q5_ok ?_ | ((first | with_reducible intro b | refine xiA rfl ?_ | fail); try refine nx ?_) | exact ⟨⟩ | fail
 all_goals simp_all [Ev.reads]
theorem V1 (e : Ev) : As Tryz.prog 76 #[vev e] M (vb e.strong) := by
 refine Con.enter Q7_ok (args := [vev e]) (by simp [Q7]) fun w0 => ?_
 simp only [Q7, A9]
 repeat' first | refine st ?_ | refine rg ?_ | with_reducible assumption | (refine JE ?_ (fun hc K' hK => ?_) ?_; rotate_left) | refine rt Q7_ok ?_ | ((first | with_reducible intro b | refine xiA rfl ?_ | fail); try refine nx ?_) | exact ⟨⟩ | fail
 all_goals simp_all [Ev.strong]
theorem Xd (e : Ev) (h : Bz e.op.ord = true) : As Tryz.prog 138 #[vev e] M (vb e.acq) := by
 refine Con.enter Q4_ok (args := [vev e]) (by simp [Q4]) fun w0 => ?_
 simp only [Q4, A9]
 repeat' first | refine st ?_ | refine rg ?_ | (refine As.call (Nd _ h) ?_; try refine nx ?_) | refine rt Q4_ok ?_ | ((first | with_reducible intro b | refine xiA rfl ?_ | fail); try refine nx ?_) | exact ⟨⟩ | fail
 all_goals rfl
theorem Xe (e : Ev) (h : Bz e.op.ord = true) : As Tryz.prog 137 #[vev e] M (vb e.rel) := by
 refine Con.enter Q6_ok (args := [vev e]) (by simp [Q6]) fun w0 => ?_
 simp only [Q6, A9]
 repeat' first | refine st ?_ | refine rg ?_ | (refine As.call (Nf _ h) ?_; try refine nx ?_) | refine rt Q6_ok ?_ | ((first | with_reducible intro b | refine xiA rfl ?_ | fail); try refine nx ?_) | exact ⟨⟩ | fail
 all_goals rfl
theorem Ad6 (ts : List (List OpV)) (s : Value) (hs : Ee M 5 Bb s ts) (hb : Sized ts) :
  Con Tryz.prog 33 #[.agg #[s]] M [] fun v M' G' => G' = [] ∧ ((A2 ts ≠ 0 ∧ v = .tuple #[.slice none 0 0, vi (A2 ts)]) ∨ (A2 ts = 0 ∧ ∃ s', v = .tuple #[s', vi 0] ∧ Sl M' 6 Bh s' (Ad ts))) := by
 have aK := hs
 obtain ⟨a, c, vs, rfl, hl, aH, hk⟩ := hs
 refine Con.enter Q8_ok (args := [.agg #[.slice a ts.length c]]) (by simp [Q8]) fun w0 => ?_
 simp only [Q8, A9]
 repeat' first | refine st ?_ | refine rg ?_ | ((first | with_reducible intro b | refine xrA rfl ?_ | fail); try refine nx ?_) | exact ⟨⟩ | fail
 refine Con.callA (G1 := []) (N3 ts _ aK hb) (lAe _) ?_
 rintro v M1 G1 bw (⟨hne, rfl⟩ | ⟨aM, s', rfl, bm⟩)
 ·simp only [wpS, wpA, J2, push_cast, lBd, reduceIte, Nat.reduceEqDiff, reduceCtorEq, Nat.reduceAdd, Nat.reduceSub, Nat.reduceMul, Int.reduceToNat, Nat.reduceLeDiff]
  repeat' first | refine st ?_ | refine rg ?_ | (refine cX ?_ ?_ <;> intro h <;> try exact Ai h) | (with_reducible intro b; try refine nx ?_) | (refine xw ?_; refine nx ?_) | exact ⟨⟩ | fail
  refine JA (ρ' := [(2, .slice none 0 0), (3, vi (A2 ts))]) (G' := []) ?_ ?env0 (lAh _)
  case env0 =>
   exact eE
  (refine rt Q8_ok ?_; try with_reducible exact ⟨⟩)
  exact .inl hne
 ·have i6 := H7 aM
  have iH := bm
  obtain ⟨a1, c1, vs1, rfl, fG, eh, bs⟩ := iH
  generalize hq : ts.map Eb = q at *
  have sj : q.flatten.length ≤ 3 * ts.flatten.length := by
   subst hq
   clear aK hb i6 hl aH hk bm fG eh bs aM
   induction ts with
   | nil => simp
   | cons t ts ih =>
    have h1 : (Eb t).length ≤ 3 * t.length := by
     clear ih
     induction t with
     | nil => simp [Eb]
     | cons o t ih =>
      have := Kf o
      simp only [Eb, lC4, lA4, lB5] at ih ⊢
      omega
    simp only [lDu, lD9, lA4] at ih ⊢
    omega
  have sn : q.length = ts.length := by subst hq; simp
  (refine nx ?_; try with_reducible exact ⟨⟩)
  repeat' first | refine st ?_ | refine rg ?_ | (refine cX ?_ ?_ <;> intro h <;> try exact Ai h) | ((first | with_reducible intro b | refine xsA rfl ?_ | fail); try refine nx ?_) | (refine xw ?_; refine nx ?_) | exact ⟨⟩ | fail
  refine JC (fun x : Nat × Vec => ([(6, osv x.2 (Cz 0 (q.take x.1)).length), (20, .slice a1 q.length c1), (21, vi q.length), (22, vi x.1)], M1, osg 121 x.2 ((Cz 0 (q.take x.1)).flatMap Bh)))
   (fun x => x.1 ≤ q.length ∧ Eo 6 x.2 (Cz 0 (q.take x.1)).length ((Cz 0 (q.take x.1)).flatMap Bh)) (fun x => q.length - x.1) (0, none) rfl ⟨lA8 _, rfl, rfl⟩ ?env1 (lAh _) ?_
  case env1 =>
   exact eE
  rintro ⟨i, ov⟩ ⟨hi, aL⟩ ih
  dsimp only at hi aL ih ⊢
  repeat' first | refine st ?_ | refine rg ?_ | (refine cX ?_ ?_ <;> intro h <;> try exact Ai h) | exact ⟨⟩ | fail
  ·have aC : i < q.length := by omega
   obtain ⟨pb, po, rfl, hat⟩ := Ee.at eh fG bs (by omega)
   obtain ⟨a', c', aR, aW⟩ := hat i aC
   simp only [lAw] at aR
   have aG : ∀ j, (Di q i j).length ≤ q.flatten.length := fun j => Lb aC j
   have dh : q[i].length ≤ q.flatten.length := Ob aC
   repeat' first | refine st ?_ | refine rg ?_ | refine ZF ?_ | (refine xn ?_; try refine nx ?_) | exact ⟨⟩ | fail
   refine JC (fun x : Nat × Vec => ([(6, osv x.2 (Di q i x.1).length), (7, vi i), (20, .slice (some ⟨pb, po, none⟩) q.length c1), (21, vi q.length), (22, vi i), (27, .slice a' q[i].length c'), (28, vi q[i].length), (29, vi x.1)], M1,
     osg 121 x.2 ((Di q i x.1).flatMap Bh)))
    (fun x => x.1 ≤ q[i].length ∧ Eo 6 x.2 (Di q i x.1).length ((Di q i x.1).flatMap Bh))
    (fun x => q[i].length - x.1) (0, ov) rfl ⟨lA8 _, by rw [Eg]; exact aL⟩ ?env2 (by rw [Eg]; exact lA0 _) ?_
   case env2 =>
    repeat' first | (refine lBp.2 (lAd ?_ ?_)) | (intro _ ba; cases ba; done) | rfl | (simp (disch := omega) only [Al, Au, reduceIte, Nat.reduceEqDiff, Option.some.injEq, Value.int.injEq, w64, lD2, lDg, lBd, lD6, Eg]; done) | fail
   rintro ⟨j, o1⟩ ⟨hj, bQ⟩ ih2
   dsimp only at hj bQ ih2 ⊢
   repeat' first | refine st ?_ | refine rg ?_ | (refine cX ?_ ?_ <;> intro h <;> try exact Ai h) | exact ⟨⟩ | fail
   ·have aN : j < q[i].length := by omega
    have o7 := aG j
    obtain ⟨qb, qo, rfl, aJ⟩ := Sl.at (enc := Bb) (fun _ => rfl) (by omega) aW (by omega)
    have cw := aJ j aN
    repeat' first | refine rg ?_ | (with_reducible intro b; try refine nx ?_) | refine ZF ?_ | ((first | refine xm ?_ | refine xrA rfl ?_ | fail); try refine nx ?_) | (refine xw ?_; refine nx ?_) | exact ⟨⟩ | fail
    refine ⟨Bh ⟨q[i][j], i⟩, Or.inr ⟨b, 0, rfl, Ap 0 rfl rfl (by simp)⟩, by simp [Bp, Cb, Value.oneCell'], Or.inl ⟨o1, _, rfl, _, bQ, _, B4 [[_, _], osg 121 o1 _] 1 (by simp), ?_, ?_, ?_⟩⟩
    ·simp only [maxLen]; omega
    ·omega
    intro o2 an _
    simp only [lB7, lB9, lAs, lAt, lCj, lBz, C7, C6, C5, lAg, lAl, lAc, lAa]
    repeat' first | refine su ?_ | refine rg ?_ | exact ⟨⟩ | fail
    have e := Oa aC aN
    have ih3 := ih2 (j + 1, o2) ⟨by dsimp only; omega, by rw [e, lA4, lAy]; exact an⟩ (by dsimp only; omega)
    dsimp only at ih3
    rw [e, lA4, lAy] at ih3
    refine JA ih3 ?_ eS
    exact eE
   ·have aN : j = q[i].length := by omega
    subst aN
    rw [La aC] at bQ ⊢
    refine JA (ih (i + 1, o1) ⟨by dsimp only; omega, bQ⟩ (by dsimp only; omega)) ?_ eS
    exact eE
  ·have bT : i = q.length := by omega
   subst bT
   rw [lB1] at aL ⊢
   rw [← lAa (osg _ _ _)]
   refine EV.freeze ?_
   refine JA (ρ' := [(2, osv ov (Cz 0 q).length), (3, vi 0)]) (G' := []) ?_ ?env3 (lAh _)
   case env3 =>
    exact eE
   (refine rt Q8_ok ?_; try with_reducible exact ⟨⟩)
   subst hq
   exact .inr ⟨aM, _, rfl, _, _, rfl, Ew aL (fun p hp => hp)⟩
end
abbrev ei (x : Int) : List Value := [vi x]
abbrev eb (b : Bool) : List Value := [vb b]
theorem Ax (xs : List Int) : xs.flatMap ei = xs.map vi := by induction xs <;> simp_all
theorem Eh (xs : List Bool) : xs.flatMap eb = xs.map vb := by induction xs <;> simp_all
theorem Xf (xs : List Int) : ok1 (xs.map vi) := by
 intro v hv; obtain ⟨x, _, rfl⟩ := lAi.1 hv; rfl
theorem Aq4 (xs : List Bool) : ok1 (xs.map vb) := by
 intro v hv; obtain ⟨x, _, rfl⟩ := lAi.1 hv; rfl
def evAt (p : List Ev) (i : Nat) : Ev := p[i]?.getD default
theorem D5 {p : List Ev} {i : Nat} (h : i < p.length) : evAt p i = p[i] := by simp [evAt, h]
def Cr (n : Nat) (f : Nat → Bool) : List Int := ((List.range n).filter f).map (fun (i : Nat) => (i : Int))
theorem Iy (n : Nat) (f : Nat → Bool) : Cr (n + 1) f = Cr n f ++ if f n then [(n : Int)] else [] := by
 simp only [Cr, lDp, lCp, lAu]
 congr 1
 by_cases h : f n <;> simp [h]
theorem Bj (n : Nat) (f : Nat → Bool) : (Cr n f).length ≤ n := by
 simp only [Cr, lA1]
 exact lBk (lDw _ _) (by simp)
theorem B5 {n : Nat} {f : Nat → Bool} {x : Int} : x ∈ Cr n f ↔ ∃ i : Nat, i < n ∧ f i = true ∧ x = i := by
 simp only [Cr, lAi, lCl, lAn]
 constructor
 ·rintro ⟨i, ⟨h1, h2⟩, rfl⟩; exact ⟨i, h1, h2, rfl⟩
 ·rintro ⟨i, h1, h2, rfl⟩; exact ⟨i, ⟨h1, h2⟩, rfl⟩
def A7 (p : List Ev) (dn : List Bool) (loc : Int) : List Int :=
 Cr p.length fun i => decide ((evAt p i).op.kind ≠ 5) && (dn[i]?.getD false) && decide ((evAt p i).op.loc = loc)
section
variable {M : Aa}
def Cv7 (xs : List Int) (v : Value) (_ : Aa) (G' : Own) : Prop := ∃ ov : Vec, v = osv ov xs.length ∧ Eo 1 ov xs.length (xs.map vi) ∧ G' = osg 3 ov (xs.map vi)
theorem Oc (p : List Ev) (s : Value) (hs : Sl M 6 Bh s p) (hb : p.length < 1000000) (g : Nat) (caps : Array Value) (f : Nat → Bool)
  (hf : ∀ M', M.le M' → ∀ i : Nat, i < p.length → As Tryz.prog g (#[vi i] ++ caps) M' (vb (f i))) :
  Con Tryz.prog 74 #[s, .func (.func g) #[] caps] M [] (Cv7 (Cr p.length f)) := by
 obtain ⟨a, c, rfl, aH⟩ := hs
 refine Con.enter Q30_ok (args := [.slice a p.length c, .func (.func g) #[] caps]) (by simp [Q30]) fun w0 => ?_
 simp only [Q30, A9]
 repeat' first | refine st ?_ | refine rg ?_ | exact ⟨⟩ | fail
 refine JC (fun x : Nat × Vec => ([(1, .func (.func g) #[] caps), (5, osv x.2 (Cr x.1 f).length), (8, vi p.length), (9, vi x.1)], M, osg 3 x.2 ((Cr x.1 f).map vi)))
  (fun x => x.1 ≤ p.length ∧ Eo 1 x.2 (Cr x.1 f).length ((Cr x.1 f).map vi)) (fun x => p.length - x.1) (0, none) rfl ⟨lA8 _, rfl, rfl⟩ ?env1 (lAh _) ?_
 case env1 =>
  exact eE
 rintro ⟨i, ov⟩ ⟨hi, aL⟩ ih
 dsimp only at hi aL ih ⊢
 repeat' first | refine st ?_ | refine rg ?_ | (refine cX ?_ ?_ <;> intro h <;> try exact Ai h) | exact ⟨⟩ | fail
 ·have aC : i < p.length := by omega
  have kB := Bj i f
  repeat' first | refine su ?_ | refine rg ?_ | (refine As.call (hf _ (JB _ _) i aC) ?_; try refine nx ?_) | (refine cX ?_ ?_ <;> intro h <;> try exact Ai h) | (with_reducible intro b; try refine nx ?_) | exact ⟨⟩ | fail
  ·refine ⟨[vi i], Or.inr ⟨b, 0, rfl, Ap 0 rfl rfl (by simp)⟩, by simp [Bp, Cb, Value.oneCell'], Or.inl ⟨ov, _, rfl, _, aL, _, B4 [[_], osg 3 ov _] 1 (by simp), ?_, ?_, ?_⟩⟩
   ·simp only [maxLen]; omega
   ·omega
   intro o2 an _
   simp only [lB7, lB9, lAs, lAt, lCj, lBz, C7, C6, C5, lAg, lAl, lAc, lAa]
   repeat' first | refine su ?_ | refine rg ?_ | exact ⟨⟩ | fail
   have e : Cr (i + 1) f = Cr i f ++ [(i : Int)] := by rw [Iy, if_pos (by assumption)]
   have ih3 := ih (i + 1, o2) ⟨by dsimp only; omega, by rw [e, lA4, lAu]; exact an⟩ (by dsimp only; omega)
   dsimp only at ih3
   rw [e, lA4, lAu] at ih3
   refine JA ih3 ?_ eS
   exact eE
  ·have e : Cr (i + 1) f = Cr i f := by rw [Iy, if_neg (by simp_all), lAa]
   have ih3 := ih (i + 1, ov) ⟨by dsimp only; omega, by rw [e]; exact aL⟩ (by dsimp only; omega)
   dsimp only at ih3
   rw [e] at ih3
   refine JA ih3 ?_ eS
   exact eE
 ·have bT : i = p.length := by omega
  subst bT
  (refine rt Q30_ok ?_; try with_reducible exact ⟨⟩)
  exact ⟨ov, rfl, aL, rfl⟩
end
section
variable {M : Aa}
theorem Od (p : List Ev) (dn : List Bool) (loc : Int) {pb po pc db do' dc b1 b2 b3 : Nat} (h1 : rd M b1 0 1 [.slice (some ⟨pb, po, none⟩) p.length pc]) (h2 : rd M b2 0 1 [.slice (some ⟨db, do', none⟩) dn.length dc]) (h3 : rd M b3 0 1 [vi loc])
  (i : Nat) (hi : i < p.length) (hl : dn.length = p.length) (hp : rd M pb (po + i * 6) 6 (Bh (evAt p i))) (hd : rd M db (do' + i) 1 [vb (dn[i]?.getD false)]) :
  As Tryz.prog 139 #[vi i, pv b1 0, pv b2 0, pv b3 0] M (vb (decide ((evAt p i).op.kind ≠ 5) && (dn[i]?.getD false) && decide ((evAt p i).op.loc = loc))) := by
 have gY := hp.pt 0 1 (by omega) rfl
 have iI := hp.pt 1 1 (by omega) rfl
 have aC : (i : Int) < p.length := by omega
 have jV : (i : Int) < dn.length := by omega
 refine Con.enter Q37_ok (args := [vi i, pv b1 0, pv b2 0, pv b3 0]) (by simp [Q37]) fun w0 => ?_
 simp only [Q37, A9]
 repeat' first | refine st ?_ | ((first | refine EV.reg ?_ | refine EV.any _ (lA0 _) ?_ | fail); (conv => (arg 2; whnf)); refine nx ?_) | (refine JT ?_ (fun hc => ?_) ?_; rotate_left; (try simp only [decide_eq_true_eq, decide_eq_false_iff_not, lB8, lCd, lA6, lAq, lBm, lBn] at hc)) | (with_reducible rfl) | refine rt Q37_ok ?_ | refine ZF ?_ | ((first | refine xm ?_ | refine xn ?_ | fail); try refine nx ?_) | exact ⟨⟩ | fail
 all_goals simp_all
theorem JJ {p : List Ev} {pb po : Nat} (hat : ∀ i (hi : i < p.length), rd M pb (po + i * 6) 6 (Bh p[i])) (i : Nat) (hi : i < p.length) : rd M pb (po + i * 6) 6 (Bh (evAt p i)) := by
 rw [D5 hi]; exact hat i hi
theorem Tt (p : List Ev) (s : Value) (hs : Sl M 6 Bh s p) (hb : p.length < 1000000) (dn : List Bool) (d : Value) (hd : Sl M 1 eb d dn) (hl : dn.length = p.length) (loc : Int) :
  Con Tryz.prog 110 #[s, d, vi loc] M [] fun v M' G' => ∃ G0, Cv7 (A7 p dn loc) v M' G0 ∧ G' = G0 := by
 obtain ⟨a, c, rfl, aH⟩ := hs
 obtain ⟨da, dc, rfl, cl⟩ := hd
 refine Con.enter Q36_ok (args := [.slice a p.length c, .slice da dn.length dc, vi loc]) (by simp [Q36]) fun w0 => ?_
 simp only [Q36, A9]
 repeat' first | refine st ?_ | refine rg ?_ | ((first | with_reducible intro b | refine xsA rfl ?_ | fail); try refine nx ?_) | exact ⟨⟩ | fail
 rename_i b1 b2
 refine Dc.frz (G3 := []) (by rw [lAa]) ?_
 generalize hN : M.add _ = N
 have aB : M.le N := hN ▸ JB _ _
 have aR : rd N b1 0 1 [.slice a p.length c] := hN ▸ Ap 2 rfl rfl (by simp)
 have aW : rd N b2 0 1 [.slice da dn.length dc] := hN ▸ Ap 1 rfl rfl (by simp)
 have cw : rd N b 0 1 [vi loc] := hN ▸ Ap 0 rfl rfl (by simp)
 clear hN
 refine Con.callA (G1 := []) (Oc p _ ⟨_, _, rfl, aH.mono aB⟩ hb _ _ (fun i => decide ((evAt p i).op.kind ≠ 5) && (dn[i]?.getD false) && decide ((evAt p i).op.loc = loc)) ?_) (lAe _) ?_
 ·intro M' ax i hi
  have h0 : 0 < p.length := by omega
  obtain ⟨pb, po, rfl, hat⟩ := Sl.at (enc := Bh) (fun _ => rfl) (by omega) aH h0
  obtain ⟨db, do', rfl, aJ⟩ := Sl.at (sz := 1) (enc := eb) (fun _ => rfl) (by decide) cl (by rw [hl]; exact h0)
  have a8 := Aa.le_trans aB ax
  have q2 := aJ i (by omega)
  rw [lAw] at q2
  refine Od p dn loc (aR.mono ax) (aW.mono ax) (cw.mono ax) i hi hl ((JJ hat i hi).mono a8) ?_
  have : dn[i]?.getD false = dn[i] := by rw [lA2 (by omega)]; rfl
  rw [this]; exact q2.mono a8
 ·rintro v M' G' ax hv
  obtain ⟨ov, rfl, aL, rfl⟩ := hv
  (refine nx ?_; try with_reducible exact ⟨⟩)
  repeat' first | fail
  (refine rt Q36_ok ?_; try with_reducible exact ⟨⟩)
  exact ⟨_, ⟨ov, rfl, aL, rfl⟩, rfl⟩
end
structure Wd where
 r : List Int
 w : List Int
 k : List Bool
 t : List Bool
def Ce (p : List Ev) (f : List Int) (s : Wd) (i : Nat) : Wd :=
 if (evAt p i).reads && decide (f[i]?.getD 0 = -1) then { s with k := s.k.set i true }
 else if (evAt p i).reads && (s.t[(f[i]?.getD 0).toNat]?.getD false) then { s with r := s.r.set i (s.w[(f[i]?.getD 0).toNat]?.getD 0), k := s.k.set i true } else s
def Cs (p : List Ev) (s : Wd) (i : Nat) : Wd :=
 if (evAt p i).op.kind = 1 then { s with w := s.w.set i (evAt p i).op.v, t := s.t.set i true }
 else if (evAt p i).op.kind = 2 then { s with w := s.w.set i (IntKind.i64.wrap (s.r[i]?.getD 0 + (evAt p i).op.v)), t := s.t.set i (s.k[i]?.getD false) }
 else if (evAt p i).op.kind = 3 ∨ (evAt p i).op.kind = 4 then { s with w := s.w.set i (evAt p i).op.w, t := s.t.set i true } else s
def Ad7 (p : List Ev) (f : List Int) (s : Wd) (i : Nat) : Wd := Cs p (Ce p f s i) i
def C8 (p : List Ev) (f : List Int) (s : Wd) : Nat → Wd
 | 0 => s
 | n + 1 => Ad7 p f (C8 p f s n) n
def wd0 (n : Nat) : Wd := ⟨List.replicate n 0, List.replicate n 0, List.replicate n false, List.replicate n false⟩
def Bk (p : List Ev) (f : List Int) : Nat → Wd
 | 0 => wd0 p.length
 | k + 1 => C8 p f (Bk p f k) p.length
def Aw (p : List Ev) (f : List Int) : Wd := Bk p f (p.length + 1)
structure Wd.Len (s : Wd) (n : Nat) : Prop where
 r : s.r.length = n
 w : s.w.length = n
 k : s.k.length = n
 t : s.t.length = n
theorem Qs {p : List Ev} {f : List Int} {s : Wd} {i n : Nat} (h : s.Len n) : (Ce p f s i).Len n := by
 unfold Ce
 split
 ·exact ⟨h.r, h.w, by simp [h.k], h.t⟩
 ·split
  ·exact ⟨by simp [h.r], h.w, by simp [h.k], h.t⟩
  ·exact h
theorem V2 {p : List Ev} {s : Wd} {i n : Nat} (h : s.Len n) : (Cs p s i).Len n := by
 unfold Cs
 split
 ·exact ⟨h.r, by simp [h.w], h.k, by simp [h.t]⟩
 ·split
  ·exact ⟨h.r, by simp [h.w], h.k, by simp [h.t]⟩
  ·split
   ·exact ⟨h.r, by simp [h.w], h.k, by simp [h.t]⟩
   ·exact h
theorem Ys {p : List Ev} {f : List Int} {s : Wd} {i n : Nat} (h : s.Len n) : (Ad7 p f s i).Len n := V2 (Qs h)
theorem Ad8 (n : Nat) : (wd0 n).Len n := by constructor <;> simp [wd0]
theorem Oe {p : List Ev} {f : List Int} {s : Wd} {n : Nat} (h : s.Len n) : ∀ i, (C8 p f s i).Len n
 | 0 => h
 | i + 1 => Ys (Oe h i)
theorem Fe (p : List Ev) (f : List Int) : ∀ k, (Bk p f k).Len p.length
 | 0 => Ad8 _
 | k + 1 => Oe (Fe p f k) _
def C9 (p : List Ev) (f : List Int) : Prop := f.length = p.length ∧ ∀ i, i < p.length → (evAt p i).reads = true → f[i]?.getD 0 = -1 ∨ (0 ≤ f[i]?.getD 0 ∧ f[i]?.getD 0 < p.length)
abbrev wdG (s : Wd) (xb rb wb kb tb : Nat) (f d o n : Value) : Own :=
 [(tb, Cl 4 (s.t.map vb)), (rb, Cl 3 (s.r.map vi)), (wb, Cl 3 (s.w.map vi)), (kb, Cl 4 (s.k.map vb)), (xb, Cl 45 [f, d, o, n])]
section
variable {M : Aa}
theorem A6 {α : Type} (n : Nat) (v : α) : (List.replicate n [v]).flatten = List.replicate n v := by simp
theorem Qt (p : List Ev) (s : Value) (hs : Sl M 6 Bh s p) (hb : p.length < 1000000) (fr : List Int) (f d o n : Value) (hf : Sl M 1 ei f fr) (nh : C9 p fr) :
  Con Tryz.prog 85 #[s, .agg #[f, d, o, n]] M [] fun v M' _ => ∃ rv wv kv, v = .tuple #[rv, wv, kv] ∧ Sl M' 1 ei rv (Aw p fr).r ∧ Sl M' 1 ei wv (Aw p fr).w ∧ Sl M' 1 eb kv (Aw p fr).k := by
 obtain ⟨a, c, rfl, aH⟩ := hs
 obtain ⟨fa, fc, rfl, cK⟩ := hf
 obtain ⟨bA, nh⟩ := nh
 refine Con.enter Q35_ok (args := [.slice a p.length c, .agg #[.slice fa fr.length fc, d, o, n]]) (by simp [Q35]) fun w0 => ?_
 simp only [Q35, A9]
 refine EV.seq (EV.reg ?_)
 (repeat first | refine nx ?_ | simp only [Bx9])
 intro xb
 refine EV.seq (JH (fun ρ' M' G' => ∃ rb wb kb, M' = M ∧ get ρ' 0 = some (.slice a p.length c) ∧ get ρ' 3 = some (pv xb 0) ∧ get ρ' 4 = some (Av rb p.length p.length) ∧ get ρ' 5 = some (Av wb p.length p.length) ∧ get ρ' 6 = some (Av kb p.length p.length) ∧
  G' = [(rb, Cl 3 (List.replicate p.length (vi 0))), (wb, Cl 3 (List.replicate p.length (vi 0))), (kb, Cl 4 (List.replicate p.length (vb false))), (xb, Cl 45 [.slice fa fr.length fc, d, o, n])]) ?_ ?_)
 ·intro k' key
  repeat' first | (refine EV.any _ (lA0 _) ?_; (conv => (arg 2; whnf)); (repeat first | refine nx ?_ | simp only [A6])) | (with_reducible intro b; (repeat first | refine nx ?_ | simp only [A6])) | refine ZF ?_ | (refine lAd (Aa.le_refl _) (lAd (fun p hp => lB6 _ hp) ?_)) | (refine lAd (Aa.le_refl _) (lAd (fun p hp => lB6 _ (lB6 _ hp)) ?_)) | (refine lAd (Aa.le_refl _) (lAd (Ay ?_) ?_); focus ((repeat' first | exact lA0 _ | exact lAh _ | exact lAj _ _ | refine lAf _ ?_ | refine lAo ?_ _ | refine lAb ?_ | refine lAp _ ?_); done); (repeat first | refine nx ?_ | simp only [A6])) | refine lAd ?_ ?_ | fail
  all_goals exact JI (key _ _ _ ⟨_, _, _, rfl, rfl, rfl, rfl, rfl, rfl, rfl⟩)
 rintro ρ1 M1 G1 ⟨rb, wb, kb, rfl, e0, e3, e4, e5, e6, rfl⟩
 refine JD (ρ' := [(0, .slice a p.length c), (3, pv xb 0), (4, Av rb p.length p.length), (5, Av wb p.length p.length), (6, Av kb p.length p.length)])
  (G' := [(rb, Cl 3 (List.replicate p.length (vi 0))), (wb, Cl 3 (List.replicate p.length (vi 0))), (kb, Cl 4 (List.replicate p.length (vb false))), (xb, Cl 45 [.slice fa fr.length fc, d, o, n])]) ?_
  (by simp only [lBp]; exact ⟨e0, e3, e4, e5, e6, fun _ h => nomatch h⟩)
 clear e0 e3 e4 e5 e6
 repeat' first | refine st ?_ | (refine EV.reg ?_; (conv => (arg 2; whnf)); (repeat first | refine nx ?_ | simp only [A6])) | (with_reducible intro b; (repeat first | refine nx ?_ | simp only [A6])) | refine ZF ?_ | fail
 rename Nat => tb
 have aT : IntKind.i64.wrap ((p.length : Int) + 1) = (p.length : Int) + 1 := w64 (by omega) (by omega)
 rw [aT]
 refine JC (fun x : Nat => ([(0, .slice a p.length c), (3, pv xb 0), (4, Av rb p.length p.length), (5, Av wb p.length p.length), (6, Av kb p.length p.length), (7, Av tb p.length p.length), (25, vi ((p.length : Int) + 1)), (26, vi x)], M1,
   wdG (Bk p fr x) xb rb wb kb tb (.slice fa fr.length fc) d o n))
  (fun x => x ≤ p.length + 1) (fun x => p.length + 1 - x) 0 rfl (lA8 _) ?env1 ?sub1 ?_
 case env1 =>
  exact eE
 case sub1 =>
  simp only [wdG, Bk, wd0, lEc]
  exact lA0 _
 intro x hx ih
 dsimp only at hx ih ⊢
 repeat' first | refine st ?_ | refine rg ?_ | (refine cX ?_ ?_ <;> intro h <;> try exact Ai h) | exact ⟨⟩ | fail
 ·generalize lK : Bk p fr x = sx at *
  have fH : sx.Len p.length := lK ▸ Fe p fr x
  refine JC (fun i : Nat => ([(0, .slice a p.length c), (3, pv xb 0), (4, Av rb p.length p.length), (5, Av wb p.length p.length), (6, Av kb p.length p.length), (7, Av tb p.length p.length), (25, vi ((p.length : Int) + 1)), (26, vi x), (28, .slice a p.length c), (29, vi p.length), (30, vi i)], M1,
    wdG (C8 p fr sx i) xb rb wb kb tb (.slice fa fr.length fc) d o n))
   (fun i => i ≤ p.length) (fun i => p.length - i) 0 rfl (lA8 _) ?env2 (lA0 _) ?_
  case env2 =>
   exact eE
  intro i hi ih2
  dsimp only at hi ih2 ⊢
  repeat' first | refine st ?_ | refine rg ?_ | (refine cX ?_ ?_ <;> intro h <;> try exact Ai h) | exact ⟨⟩ | fail
  ·have aC : i < p.length := by omega
   obtain ⟨pb, po, rfl, hat⟩ := Sl.at (enc := Bh) (fun _ => rfl) (by omega) aH (by omega)
   obtain ⟨fb, fo, rfl, aJ⟩ := Sl.at (sz := 1) (enc := ei) (fun _ => rfl) (by decide) cK (by omega)
   have i8 := JJ hat i aC
   have jo : rd M1 fb (fo + i) 1 [vi (fr[i]?.getD 0)] := by
    have := aJ i (by omega)
    rw [lAw] at this
    rwa [lA2 (by omega : i < fr.length)]
   have fI := nh i aC
   have u5 : (i : Int) < fr.length := by omega
   generalize rU : C8 p fr sx i = s at *
   have b0 : s.Len p.length := rU ▸ Oe fH i
   have bE : C8 p fr sx (i + 1) = Cs p (Ce p fr s i) i := by simp only [C8, rU, Ad7]
   have aq := b0.r
   have f9 := b0.w
   have dP := b0.k
   have aS := b0.t
   have gZ : i < s.r.length := by omega
   have so : i < s.k.length := by omega
   have ih3 := ih2 (i + 1) (by omega) (by omega)
   rw [bE] at ih3
   clear ih ih2 hat aJ aH cK
   repeat' first | (with_reducible intro b; try refine nx ?_) | refine ZF ?_ | (refine xm ?_; try refine nx ?_) | (refine xw ?_; refine nx ?_) | exact ⟨⟩ | fail
   rename Nat => eb0
   refine EV.seq (JH (fun ρ' M' G' => M' = M1 ∧ (∀ q ∈ [(0, .slice (some ⟨pb, po, none⟩) p.length c), (3, pv xb 0), (4, Av rb p.length p.length), (5, Av wb p.length p.length), (6, Av kb p.length p.length), (7, Av tb p.length p.length), (8, vi i), (9, pv eb0 0), (25, vi ((p.length : Int) + 1)), (26, vi x), (28, .slice (some ⟨pb, po, none⟩) p.length c), (29, vi p.length), (30, vi i)], get ρ' q.1 = some q.2) ∧
    G' = (eb0, Cl 121 (Bh (evAt p i))) :: wdG (Ce p fr s i) xb rb wb kb tb (.slice (some ⟨fb, fo, none⟩) fr.length fc) d o n) ?_ ?_)
   ·intro k' key
    clear ih3
    cases hre : (evAt p i).reads with
    | false =>
     have e1 : Ce p fr s i = s := by simp [Ce, hre]
     rw [e1] at key
     repeat' first | refine st ?_ | (refine EV.reg ?_; (conv => (arg 2; whnf)); (repeat first | refine nx ?_ | simp only [hre, lCa, lC1])) | (refine As.call (Cc (evAt p i)) ?_; (repeat first | refine nx ?_ | simp only [hre, lCa, lC1])) | with_reducible assumption | (refine JE ?_ (fun hc K' hK => ?_) ?_; rotate_left) | (refine cX ?_ ?_ <;> intro h <;> try exact Ai h) | refine ZF ?_ | ((first | refine xm ?_ | refine xrA rfl ?_ | refine xsA rfl ?_ | fail); (repeat first | refine nx ?_ | simp only [hre, lCa, lC1])) | (exfalso; simp at hc; done) | exact false | fail
     refine key _ _ _ ⟨rfl, ?_, rfl⟩
     exact eE
    | true =>
     have fI := fI hre
     by_cases eM : fr[i]?.getD 0 = -1
     ·have e1 : Ce p fr s i = { s with k := s.k.set i true } := by simp [Ce, hre, eM]
      rw [e1] at key
      repeat' first | refine st ?_ | (refine EV.reg ?_; (conv => (arg 2; whnf)); (repeat first | refine nx ?_ | simp only [hre, lCa, lC1, Ao, lA1, aq, f9, dP, aS, aC])) | (refine As.call (Cc (evAt p i)) ?_; (repeat first | refine nx ?_ | simp only [hre, lCa, lC1, Ao, lA1, aq, f9, dP, aS, aC])) | with_reducible assumption | (refine JE ?_ (fun hc K' hK => ?_) ?_; rotate_left) | (refine cX ?_ ?_ <;> intro h <;> try exact Ai h) | refine ZF ?_ | ((first | refine xm ?_ | refine xrA rfl ?_ | refine xsA rfl ?_ | fail); (repeat first | refine nx ?_ | simp only [hre, lCa, lC1, Ao, lA1, aq, f9, dP, aS, aC])) | (refine xw ?_; (repeat first | refine nx ?_ | simp only [hre, lCa, lC1, Ao, lA1, aq, f9, dP, aS, aC])) | fail
      refine key _ _ _ ⟨rfl, ?_, rfl⟩
      exact eE
     ·have ct := fI.resolve_left eM
      have rV : (fr[i]?.getD 0).toNat < s.t.length := by omega
      have ni : (fr[i]?.getD 0).toNat < s.w.length := by omega
      have et : s.t[(fr[i]?.getD 0).toNat]?.getD false = s.t[(fr[i]?.getD 0).toNat] := by rw [lA2 rV]; rfl
      have ew : s.w[(fr[i]?.getD 0).toNat]?.getD 0 = s.w[(fr[i]?.getD 0).toNat] := by rw [lA2 ni]; rfl
      have e1 : Ce p fr s i = if s.t[(fr[i]?.getD 0).toNat] = true then { s with r := s.r.set i (s.w[(fr[i]?.getD 0).toNat]), k := s.k.set i true } else s := by
       simp only [Ce, hre, eM, et, ew]; simp
      rw [e1] at key
      clear et ew e1
      repeat' first | refine st ?_ | (refine EV.reg ?_; (conv => (arg 2; whnf)); (repeat first | refine nx ?_ | simp only [hre, lCa, lC1, Ao, lA1, aq, f9, dP, aS, aC])) | ((first | refine lA9 _ (lAd (Cd (f := vi) ni) ?_) | refine lA9 _ (lAd (Cd (f := vb) rV) ?_) | refine As.call (Cc (evAt p i)) ?_ | fail); (repeat first | refine nx ?_ | simp only [hre, lCa, lC1, Ao, lA1, aq, f9, dP, aS, aC])) | with_reducible assumption | (refine JE ?_ (fun hc K' hK => ?_) ?_; rotate_left) | (refine cX ?_ ?_ <;> intro h <;> try exact Ai h) | refine ZF ?_ | ((first | refine xm ?_ | refine xrA rfl ?_ | refine xsA rfl ?_ | fail); (repeat first | refine nx ?_ | simp only [hre, lCa, lC1, Ao, lA1, aq, f9, dP, aS, aC])) | (refine xw ?_; (repeat first | refine nx ?_ | simp only [hre, lCa, lC1, Ao, lA1, aq, f9, dP, aS, aC])) | fail
      ·rw [if_pos (by assumption)] at key
       refine key _ _ _ ⟨rfl, ?_, rfl⟩
       exact eE
      ·rw [if_neg (by simp_all)] at key
       refine key _ _ _ ⟨rfl, ?_, rfl⟩
       exact eE
   rintro ρ2 M2 G2 ⟨rfl, hq, rfl⟩
   refine JD (G' := (eb0, Cl 121 (Bh (evAt p i))) :: wdG (Ce p fr s i) xb rb wb kb tb (.slice (some ⟨fb, fo, none⟩) fr.length fc) d o n) ?_ hq
   clear hq
   have i9 : (Ce p fr s i).Len p.length := Qs b0
   generalize Ce p fr s i = s2 at *
   have di := i9.r
   have dj := i9.w
   have dm := i9.k
   have dp := i9.t
   have fd : i < s2.r.length := by omega
   have lj : i < s2.k.length := by omega
   have er : s2.r[i]?.getD 0 = s2.r[i] := by rw [lA2 fd]; rfl
   have ek : s2.k[i]?.getD false = s2.k[i] := by rw [lA2 lj]; rfl
   have e1 : Cs p s2 i = if (evAt p i).op.kind = 1 then { s2 with w := s2.w.set i (evAt p i).op.v, t := s2.t.set i true }
    else if (evAt p i).op.kind = 2 then { s2 with w := s2.w.set i (IntKind.i64.wrap (s2.r[i] + (evAt p i).op.v)), t := s2.t.set i s2.k[i] }
    else if (evAt p i).op.kind = 3 ∨ (evAt p i).op.kind = 4 then { s2 with w := s2.w.set i (evAt p i).op.w, t := s2.t.set i true } else s2 := by simp only [Cs, er, ek]
   rw [e1] at ih3
   clear er ek e1 fI jo nh
   repeat' first | refine st ?_ | (refine EV.reg ?_; (conv => (arg 2; whnf)); (repeat first | refine nx ?_ | simp only [Ao, lA1, di, dj, dm, dp, aC])) | (refine cX ?_ ?_ <;> intro h <;> try exact Ai h) | refine ZF ?_ | (refine xiA rfl ?_; (repeat first | refine nx ?_ | simp only [Ao, lA1, di, dj, dm, dp, aC])) | (refine xw ?_; (repeat first | refine nx ?_ | simp only [Ao, lA1, di, dj, dm, dp, aC])) | fail
   rotate_left
   ·refine EV.any (t := Ac3) [(eb0, Cl 121 (Bh (evAt p i))), (rb, Cl 3 (s2.r.map vi)), (kb, Cl 4 (s2.k.map vb))] eS ?_
    (repeat first | refine nx ?_ | simp only [Ac3])
    repeat' first | refine su ?_ | (refine EV.reg ?_; (conv => (arg 2; whnf)); (repeat first | refine nx ?_ | simp only [Ao, lA1, di, dj, dm, dp, aC])) | ((first | refine lA9 _ (lAd (Cd (f := vb) (i := i) lj) ?_) | refine lA9 _ (lAd (Cd (f := vi) (i := i) fd) ?_) | fail); (repeat first | refine nx ?_ | simp only [Ao, lA1, di, dj, dm, dp, aC])) | refine ZF ?_ | (refine xiA rfl ?_; (repeat first | refine nx ?_ | simp only [Ao, lA1, di, dj, dm, dp, aC])) | (refine xw ?_; (repeat first | refine nx ?_ | simp only [Ao, lA1, di, dj, dm, dp, aC])) | (refine lAd (Aa.le_refl _) (lAd (Ay ?_) ?_); focus ((repeat' first | exact lA0 _ | exact lAh _ | exact lAj _ _ | refine lAf _ ?_ | refine lAo ?_ _ | refine lAb ?_ | refine lAp _ ?_); done); (repeat first | refine nx ?_ | simp only [Ao, lA1, di, dj, dm, dp, aC])) | fail
    rw [if_neg (show ¬ (evAt p i).op.kind = 1 by assumption), if_pos (show (evAt p i).op.kind = 2 by assumption)] at ih3
    refine JD ih3 ?_
    exact eE
   all_goals
    first
     | rw [if_pos (show (evAt p i).op.kind = 1 by assumption)] at ih3
     | rw [if_neg (show ¬ (evAt p i).op.kind = 1 by assumption), if_pos (show (evAt p i).op.kind = 2 by assumption)] at ih3
     | rw [if_neg (show ¬ (evAt p i).op.kind = 1 by assumption), if_neg (show ¬ (evAt p i).op.kind = 2 by assumption), if_pos (show (evAt p i).op.kind = 3 ∨ (evAt p i).op.kind = 4 by omega)] at ih3
     | rw [if_neg (show ¬ (evAt p i).op.kind = 1 by assumption), if_neg (show ¬ (evAt p i).op.kind = 2 by assumption), if_neg (show ¬ ((evAt p i).op.kind = 3 ∨ (evAt p i).op.kind = 4) by omega)] at ih3
    refine JD ih3 ?_
    exact eE
  ·have bT : i = p.length := by omega
   subst bT
   have ih3 := ih (x + 1) (by omega) (by omega)
   simp only [Bk, lK] at ih3
   refine JD ih3 ?_
   exact eE
 ·have bi : x = p.length + 1 := by omega
  subst bi
  have fH := Fe p fr (p.length + 1)
  refine EV.frz (wdG (Bk p fr (p.length + 1)) xb rb wb kb tb (.slice fa fr.length fc) d o n) ?_
  (refine rt Q35_ok ?_; try with_reducible exact ⟨⟩)
  have er := fH.r
  have ew := fH.w
  have ek := fH.k
  refine ⟨Av rb p.length p.length, Av wb p.length p.length, Av kb p.length p.length, rfl, ⟨some ⟨rb, 0, none⟩, p.length, by rw [Aw, er], Or.inr ⟨rb, 0, rfl, ?_⟩⟩, ⟨some ⟨wb, 0, none⟩, p.length, by rw [Aw, ew], Or.inr ⟨wb, 0, rfl, ?_⟩⟩, ⟨some ⟨kb, 0, none⟩, p.length, by rw [Aw, ek], Or.inr ⟨kb, 0, rfl, ?_⟩⟩⟩
  ·exact Ap 1 rfl (by rw [Ax, Aw, lAw, lBr, lAx (by rw [lA1]; exact lA5 _)]) (by rw [lA1, Aw]; omega)
  ·exact Ap 2 rfl (by rw [Ax, Aw, lAw, lBr, lAx (by rw [lA1]; exact lA5 _)]) (by rw [lA1, Aw]; omega)
  ·exact Ap 3 rfl (by rw [Eh, Aw, lAw, lBr, lAx (by rw [lA1]; exact lA5 _)]) (by rw [lA1, Aw]; omega)
end
abbrev vu (n : Nat) : Value := .int .u32 n
abbrev Rel := List Nat
def A3 (r : Rel) (a b : Nat) : Bool := (r[a]?.getD 0).testBit b
def orR (r : Rel) (a m : Nat) : Rel := r.set a (r[a]?.getD 0 ||| m)
def Ni (r : Rel) (a b : Nat) : Rel := orR r a (2 ^ b)
def closeRow (r : Rel) (k : Nat) : Nat → Rel
 | 0 => r
 | a + 1 => if A3 (closeRow r k a) a k then orR (closeRow r k a) a ((closeRow r k a)[k]?.getD 0) else closeRow r k a
def closeGo (r : Rel) : Nat → Rel
 | 0 => r
 | k + 1 => closeRow (closeGo r k) k r.length
def B8 (r : Rel) : Rel := closeGo r r.length
def Bi (r : Rel) : Bool := (List.range r.length).any fun a => A3 r a a
structure RelOk (n : Nat) (r : Rel) : Prop where
 len : r.length = n
 lt : ∀ a : Nat, r[a]?.getD 0 < 2 ^ n
theorem RelOk.or {n : Nat} {r : Rel} (h : RelOk n r) (a : Nat) {m : Nat} (hm : m < 2 ^ n) : RelOk n (orR r a m) := by
 refine ⟨by simp [orR, h.len], fun b => ?_⟩
 simp only [orR, List.getElem?_set]
 split
 ·split
  ·simp only [lAr]; exact lCn (h.lt a) hm
  ·simp only [Option.getD_none]; exact lD3 n
 ·exact h.lt b
theorem RelOk.put {n : Nat} {r : Rel} (h : RelOk n r) (a : Nat) {b : Nat} (hb : b < n) : RelOk n (Ni r a b) := h.or a (lBe (by decide) hb)
theorem RelOk.zero (n : Nat) : RelOk n (List.replicate n 0) := by
 refine ⟨by simp, fun a => ?_⟩
 rw [lBv]
 split <;> simp [lD3]
theorem RelOk.closeRow {n : Nat} {r : Rel} (h : RelOk n r) (k : Nat) : ∀ a, RelOk n (closeRow r k a)
 | 0 => h
 | a + 1 => by
  simp only [EV.closeRow]
  split
  ·exact (RelOk.closeRow h k a).or a ((RelOk.closeRow h k a).lt k)
  ·exact RelOk.closeRow h k a
theorem RelOk.closeGo {n : Nat} {r : Rel} (h : RelOk n r) : ∀ k, RelOk n (closeGo r k)
 | 0 => h
 | k + 1 => RelOk.closeRow (RelOk.closeGo h k) k _
theorem RelOk.close {n : Nat} {r : Rel} (h : RelOk n r) : RelOk n (B8 r) := RelOk.closeGo h _
theorem Ad9 {x : Nat} (h : x < 2 ^ 32) : BitVec.ofInt IntKind.u32.bits (x : Int) = (BitVec.ofNat 32 x : BitVec IntKind.u32.bits) := lFc 32 x
theorem Sc {x : Nat} (h : x < 2 ^ 32) : IntKind.u32.wrap (x : Int) = x := by
 have e : (2 : Int) ^ IntKind.u32.bits = 4294967296 := rfl
 have e3 : IntKind.u32.signed = false := rfl
 have h' : x < 4294967296 := h
 simp only [IntKind.wrap, e, e3, lCa]
 simp only [lC5, if_false]
 omega
theorem Qu {x y : Nat} (hx : x < 2 ^ 32) (hy : y < 2 ^ 32) : IntKind.u32.wrap ((BitVec.ofInt IntKind.u32.bits (x : Int) ||| BitVec.ofInt IntKind.u32.bits (y : Int)).toNat : Int) = ((x ||| y : Nat) : Int) := by
 rw [Ad9 hx, Ad9 hy]
 have e : (BitVec.ofNat 32 x ||| BitVec.ofNat 32 y).toNat = x ||| y := by
  rw [BitVec.toNat_or, lD4, lD4, lCg hx, lCg hy]
 show IntKind.u32.wrap ((BitVec.ofNat 32 x ||| BitVec.ofNat 32 y).toNat : Int) = _
 rw [e]
 exact Sc (lCn hx hy)
theorem De {b : Nat} (hb : b < 32) : IntKind.u32.wrap (1 * 2 ^ min b IntKind.u32.bits) = ((2 ^ b : Nat) : Int) := by
 rw [show IntKind.u32.bits = 32 from rfl, lBx (by omega), Int.one_mul]
 rw [show ((2 : Int) ^ b) = ((2 ^ b : Nat) : Int) from by simp]
 exact Sc (lBe (by decide) hb)
theorem Jn {x b : Nat} (hx : x < 2 ^ 32) (hb : b < 32) : IntKind.u32.wrap ((BitVec.ofInt IntKind.u32.bits (x : Int) ||| BitVec.ofInt IntKind.u32.bits (2 ^ b)).toNat : Int) = ((x ||| 2 ^ b : Nat) : Int) := by
 have := Qu (y := 2 ^ b) hx (lBe (by decide) hb)
 rwa [show ((2 ^ b : Nat) : Int) = 2 ^ b from by simp] at this
theorem Ae0 {x b : Nat} (hx : x < 2 ^ 32) (hb : b < 32) : decide (IntKind.u32.wrap ((BitVec.ofInt IntKind.u32.bits ((x : Int).fdiv (2 ^ min b IntKind.u32.bits)) &&& BitVec.ofInt IntKind.u32.bits 1).toNat : Int) = 1) = x.testBit b := by
 have e0 : min b IntKind.u32.bits = b := lBx (show b ≤ 32 by omega)
 rw [e0]
 have e1 : (x : Int).fdiv (2 ^ b) = ((x / 2 ^ b : Nat) : Int) := by
  rw [lDr _ (by exact_mod_cast lA8 _)]; simp
 have hd : x / 2 ^ b < 2 ^ 32 := lEd (lFh _ _) hx
 rw [e1, Ad9 hd]
 have e : (BitVec.ofNat 32 (x / 2 ^ b) &&& BitVec.ofInt 32 1).toNat = (x / 2 ^ b) % 2 := by
  rw [lF9, lD4, lCg hd]
  show (x / 2 ^ b) &&& 1 = _
  exact lEu _
 show decide (IntKind.u32.wrap ((BitVec.ofNat 32 (x / 2 ^ b) &&& BitVec.ofInt 32 1).toNat : Int) = 1) = _
 rw [e, Sc (by omega)]
 rw [lDz]
 simp only [decide_eq_decide]
 omega
section
variable {M : Aa}
theorem Kh (s : Value) (p : List Ev) (hs : Sl M 6 Bh s p) (hb : p.length ≤ 32) : Con Tryz.prog 136 #[s] M [] fun v _ G' => ∃ b, v = Av b p.length p.length ∧ G' = [(b, Cl 144 ((List.replicate p.length 0).map vu))] := by
 obtain ⟨a, c, rfl, aH⟩ := hs
 refine Con.enter Q32_ok (args := [.slice a p.length c]) (by simp [Q32]) fun w0 => ?_
 simp only [Q32, A9]
 repeat' first | refine st ?_ | (refine EV.reg ?_; (conv => (arg 2; whnf)); (repeat first | refine nx ?_ | simp only [A6])) | (with_reducible intro b; (repeat first | refine nx ?_ | simp only [A6])) | refine ZF ?_ | fail
 (refine rt Q32_ok ?_; try with_reducible exact ⟨⟩)
 exact ⟨b, rfl, by simp⟩
theorem Nm {b n a j c x : Nat} (h : rd M b a 1 [vu x]) (ha : a < n) (hn : n < 1000000) (hj : j < 32) (hx : x < 2 ^ 32) : As Tryz.prog 68 #[Av b n c, vi a, vi j] M (vb (x.testBit j)) := by
 refine Con.enter Q40_ok (args := [Av b n c, vi a, vi j]) (by simp [Q40]) fun w0 => ?_
 simp only [Q40, A9]
 have aU : (a : Int) < n := by omega
 have ia : ¬ ((j : Int) < 0) := by omega
 repeat' first | refine st ?_ | (refine EV.reg ?_; (conv => (arg 2; whnf)); (repeat first | refine nx ?_ | simp only [ia])) | (refine EV.ret Q40_ok ?_; (repeat first | refine nx ?_ | simp only [ia, Q40])) | refine ZF ?_ | (refine xm ?_; (repeat first | refine nx ?_ | simp only [ia])) | fail
 rw [Ae0 hx hj]
theorem Al5 {b n a j c : Nat} {r : Rel} (hr : RelOk n r) (hn : n ≤ 32) (ha : a < n) (hj : j < n) : Con Tryz.prog 121 #[Av b n c, vi a, vi j] M [(b, Cl 144 (r.map vu))] fun _ _ G' => G' = [(b, Cl 144 ((Ni r a j).map vu))] := by
 refine Con.enter Q41_ok (args := [Av b n c, vi a, vi j]) (by simp [Q41]) fun w0 => ?_
 simp only [Q41, A9]
 have aU : (a : Int) < n := by omega
 have ia : ¬ ((j : Int) < 0) := by omega
 have cm : a < r.length := by rw [hr.len]; exact ha
 have hx : r[a] < 2 ^ 32 := by
  have := hr.lt a
  rw [lA2 cm] at this
  exact lAv this (lCf (by decide) hn)
 have h2 : 2 ^ j < 2 ^ 32 := lBe (by decide) (by omega)
 repeat' first | (refine EV.any _ (lA0 _) ?_; (conv => (arg 2; whnf)); (repeat first | refine nx ?_ | simp only [ia, Ao, cm, ha, lA1, hr.len, De (show j < 32 by omega), Jn hx (show j < 32 by omega)])) | (refine lA9 _ (lAd (Cd (f := vu) cm) ?_); (repeat first | refine nx ?_ | simp only [ia, Ao, cm, ha, lA1, hr.len, De (show j < 32 by omega), Jn hx (show j < 32 by omega)])) | refine ZF ?_ | (refine xw ?_; (repeat first | refine nx ?_ | simp only [ia, Ao, cm, ha, lA1, hr.len, De (show j < 32 by omega), Jn hx (show j < 32 by omega)])) | fail
 refine EV.done Q41_ok ?_
 (repeat first | refine nx ?_ | simp only [Q41])
 simp only [Ni, orR, lA2 cm, lAr]
theorem Gs {b n c : Nat} {a j : Int} {r : Rel} (hr : RelOk n r) (hn : n ≤ 32) (sq : 0 ≤ a) (ha : a < n) (rK : 0 ≤ j) (hj : j < n) : Con Tryz.prog 121 #[Av b n c, vi a, vi j] M [(b, Cl 144 (r.map vu))] fun _ _ G' => G' = [(b, Cl 144 ((Ni r a.toNat j.toNat).map vu))] := by
 obtain ⟨a', rfl⟩ := lE7 sq
 obtain ⟨j', rfl⟩ := lE7 rK
 simp only [lB2]
 exact Al5 hr hn (by omega) (by omega)
theorem RelOk.at {n : Nat} {r : Rel} (h : RelOk n r) (hn : n ≤ 32) (a : Nat) : r[a]?.getD 0 < 2 ^ 32 := lAv (h.lt a) (lCf (by decide) hn)
theorem RelOk.get {n : Nat} {r : Rel} (h : RelOk n r) {a : Nat} (ha : a < n) : ∃ h' : a < r.length, r[a]?.getD 0 = r[a] := by
 have h' : a < r.length := by rw [h.len]; exact ha
 exact ⟨h', by rw [lA2 h']; rfl⟩
theorem Lc {b n c : Nat} {r : Rel} (hr : RelOk n r) (hn : n ≤ 32) : Con Tryz.prog 106 #[Av b n c] M [(b, Cl 144 (r.map vu))] fun v _ G' => v = Av b n c ∧ G' = [(b, Cl 144 ((B8 r).map vu))] := by
 refine Con.enter Q39_ok (args := [Av b n c]) (by simp [Q39]) fun w0 => ?_
 simp only [Q39, A9]
 repeat' first | refine st ?_ | refine rg ?_ | exact ⟨⟩ | fail
 refine JC (fun k : Nat => ([(0, Av b n c), (6, vi n), (7, vi k)], M, [(b, Cl 144 ((closeGo r k).map vu))])) (fun k => k ≤ n) (fun k => n - k) 0 rfl (lA8 _) ?env1 (lA0 _) ?_
 case env1 =>
  exact eE
 intro k hk ih
 dsimp only at hk ih ⊢
 have lk := RelOk.closeGo hr k
 repeat' first | refine st ?_ | refine rg ?_ | (refine cX ?_ ?_ <;> intro h <;> try exact Ai h) | exact ⟨⟩ | fail
 ·refine JC (fun a : Nat => ([(0, Av b n c), (3, vi k), (6, vi n), (7, vi k), (11, vi n), (12, vi a)], M, [(b, Cl 144 ((closeRow (closeGo r k) k a).map vu))])) (fun a => a ≤ n) (fun a => n - a) 0 rfl (lA8 _) ?env2 (lA0 _) ?_
  case env2 =>
   exact eE
  intro a ha ih2
  dsimp only at ha ih2 ⊢
  have lL := RelOk.closeRow lk k a
  repeat' first | refine st ?_ | refine rg ?_ | (refine cX ?_ ?_ <;> intro h <;> try exact Ai h) | exact ⟨⟩ | fail
  ·have aU : a < n := by omega
   have ak : k < n := by omega
   have ih3 := ih2 (a + 1) (by omega) (by omega)
   have hs : closeRow (closeGo r k) k (a + 1) = if A3 (closeRow (closeGo r k) k a) a k then orR (closeRow (closeGo r k) k a) a ((closeRow (closeGo r k) k a)[k]?.getD 0) else closeRow (closeGo r k) k a := rfl
   rw [hs] at ih3
   clear hs ih ih2
   generalize closeRow (closeGo r k) k a = q at *
   obtain ⟨cm, ea⟩ := lL.get aU
   obtain ⟨gE, ek⟩ := lL.get ak
   have cz := lL.at (by omega) a
   have ib := lL.at (by omega) k
   simp only [A3, orR, ea, ek] at ih3 cz ib
   have kC := lL.len
   repeat' first | refine su ?_ | ((first | refine EV.reg ?_ | refine EV.any _ (lA0 _) ?_ | fail); (conv => (arg 2; whnf)); (repeat first | refine nx ?_ | simp only [Ao, aU, lA1, Qu cz ib, kC])) | ((first | refine lA9 _ (lAd (Cd (f := vu) gE) ?_) | refine lA9 _ (lAd (Cd (f := vu) cm) ?_) | refine As.call (Nm (j := k) (Cd (f := vu) cm) aU (by omega) (by omega) cz) ?_ | fail); (repeat first | refine nx ?_ | simp only [Ao, aU, lA1, Qu cz ib, kC])) | (refine cX ?_ ?_ <;> intro h <;> try exact Ai h) | refine ZF ?_ | (refine xw ?_; (repeat first | refine nx ?_ | simp only [Ao, aU, lA1, Qu cz ib, kC])) | fail
   ·rw [if_pos (by assumption)] at ih3
    refine JD ih3 ?_
    exact eE
   ·rw [if_neg (by simp_all)] at ih3
    refine JD ih3 ?_
    exact eE
  ·have bT : a = n := by omega
   subst bT
   have ih3 := ih (k + 1) (by omega) (by omega)
   have e : closeGo r (k + 1) = closeRow (closeGo r k) k a := by rw [closeGo, hr.len]
   rw [e] at ih3
   refine JD ih3 ?_
   exact eE
 ·have bT : k = n := by omega
  subst bT
  (refine rt Q39_ok ?_; try with_reducible exact ⟨⟩)
  simp only [B8, hr.len]
theorem Tu {r : Rel} {i : Nat} (h : ∀ a, a < i → A3 r a a = false) (hi : r.length ≤ i) : Bi r = false := by
 simp only [Bi, List.any_eq_false, lAn]
 intro a ha
 rw [h a (by omega)]; simp
theorem Of {b n c : Nat} {r : Rel} (hr : RelOk n r) (hn : n ≤ 32) (sr : rd M b 0 n (r.map vu)) : As Tryz.prog 122 #[Av b n c] M (vb (Bi r)) := by
 refine Con.enter Q38_ok (args := [Av b n c]) (by simp [Q38]) fun w0 => ?_
 simp only [Q38, A9]
 repeat' first | refine st ?_ | refine rg ?_ | exact ⟨⟩ | fail
 refine JC (fun k : Nat => ([(0, Av b n c), (5, vi n), (6, vi k)], M, [])) (fun k => k ≤ n ∧ ∀ a, a < k → A3 r a a = false) (fun k => n - k) 0 rfl ⟨lA8 _, fun a ha => absurd ha (lBy _)⟩ ?env1 (lA0 _) ?_
 case env1 =>
  exact eE
 rintro k ⟨hk, aP⟩ ih
 dsimp only at hk aP ih ⊢
 repeat' first | refine st ?_ | refine rg ?_ | (refine cX ?_ ?_ <;> intro h <;> try exact Ai h) | exact ⟨⟩ | fail
 ·have ak : k < n := by omega
  obtain ⟨gE, ek⟩ := hr.get ak
  have ib := hr.at (by omega) k
  have hq : rd M b k 1 [vu r[k]] := by
   have := sr.pt k 1 (by omega) (Kg vu r gE)
   rwa [lBg] at this
  rw [ek] at ib
  repeat' first | refine st ?_ | refine rg ?_ | (refine As.call (Nm (j := k) (As9 hq) ak (by omega) (by omega) ib) ?_; try refine nx ?_) | (refine cX ?_ ?_ <;> intro h <;> try exact Ai h) | exact ⟨⟩ | fail
  ·(refine rt Q38_ok ?_; try with_reducible exact ⟨⟩)
   have : Bi r = true := by
    simp only [Bi, lCc, lAn]
    exact ⟨k, gE, by simp only [A3, ek]; assumption⟩
   rw [this]
  ·refine JD (ih (k + 1) ⟨by omega, fun a ha => ?_⟩ (by omega)) ?_
   ·by_cases e : a = k
    ·subst e; simp only [A3, ek]; assumption
    ·exact aP a (by omega)
   ·exact eE
 ·(refine rt Q38_ok ?_; try with_reducible exact ⟨⟩)
  rw [Tu aP (by rw [hr.len]; omega)]
end
def Yt (p : List Ev) : Prop := ∀ i, i < p.length → Bz (evAt p i).op.ord = true
def Fa (p : List Ev) (w : Nat) : Nat → Nat → Nat
 | 0, s => s
 | a + 1, s => if (evAt p a).th = (evAt p w).th then Fa p w a (if (evAt p a).op.kind = 5 ∧ (evAt p a).rel = true then s ||| 2 ^ a else s) else s
def Fk (p : List Ev) (w : Nat) : Nat := Fa p w w (if (evAt p w).rel then 2 ^ w else 0)
def Ki (p : List Ev) (r : Nat) : Nat → Nat → Nat → Nat
 | 0, _, s => s
 | f + 1, b, s => if (evAt p b).th = (evAt p r).th then Ki p r f (b + 1) (if (evAt p b).op.kind = 5 ∧ (evAt p b).acq = true then s ||| 2 ^ b else s) else s
def Jo (p : List Ev) (r : Nat) : Nat := Ki p r (p.length - (r + 1)) (r + 1) (if (evAt p r).acq then 2 ^ r else 0)
theorem Og {p : List Ev} {w n : Nat} : ∀ (a s : Nat), a ≤ n → s < 2 ^ n → Fa p w a s < 2 ^ n
 | 0, s, _, h => h
 | a + 1, s, ha, h => by
  simp only [Fa]
  split
  ·refine Og a _ (by omega) ?_
   split
   ·exact lCn h (lBe (by decide) (by omega))
   ·exact h
  ·exact h
theorem Qv {p : List Ev} {w : Nat} (hw : w < p.length) : Fk p w < 2 ^ p.length := by
 refine Og _ _ (by omega) ?_
 split
 ·exact lBe (by decide) hw
 ·exact lD3 _
theorem Tv {p : List Ev} {r n : Nat} : ∀ (f b s : Nat), b + f ≤ n → s < 2 ^ n → Ki p r f b s < 2 ^ n
 | 0, _, s, _, h => h
 | f + 1, b, s, hb, h => by
  simp only [Ki]
  split
  ·refine Tv f _ _ (by omega) ?_
   split
   ·exact lCn h (lBe (by decide) (by omega))
   ·exact h
  ·exact h
theorem Xg {p : List Ev} {r : Nat} (hr : r < p.length) : Jo p r < 2 ^ p.length := by
 refine Tv _ _ _ (by omega) ?_
 split
 ·exact lBe (by decide) hr
 ·exact lD3 _
theorem Yu {s n : Nat} (h : s < 2 ^ n) (hn : n ≤ 32) : s < 2 ^ 32 := lAv h (lCf (by decide) hn)
def Dj (p : List Ev) : Nat → Rel
 | 0 => List.replicate p.length 0
 | i + 1 => if (evAt p (i + 1)).th = (evAt p i).th then Ni (Dj p i) i (i + 1) else Dj p i
def Hz (r : Rel) (fen : List Int) : Nat → Rel
 | 0 => r
 | k + 1 => Ni (Hz r fen k) (fen[k]?.getD 0).toNat (fen[k + 1]?.getD 0).toNat
def Ia (p : List Ev) (fen : List Int) : Rel := Hz (Dj p (p.length - 1)) fen (fen.length - 1)
def Ib (p : List Ev) (l : List Int) : Prop := ∀ x ∈ l, 0 ≤ x ∧ x < p.length
theorem Ib.at {p : List Ev} {l : List Int} (h : Ib p l) {k : Nat} (hk : k < l.length) : 0 ≤ l[k]?.getD 0 ∧ l[k]?.getD 0 < p.length := by
 rw [lA2 hk]; exact h _ (lAm hk)
theorem stepsA_ok (p : List Ev) : ∀ i, i ≤ p.length - 1 → RelOk p.length (Dj p i)
 | 0, _ => RelOk.zero _
 | i + 1, h => by
  simp only [Dj]
  split
  ·exact (stepsA_ok p i (by omega)).put i (by omega)
  ·exact stepsA_ok p i (by omega)
theorem stepsB_ok {p : List Ev} {r : Rel} (hr : RelOk p.length r) {fen : List Int} (hf : Ib p fen) : ∀ k, k ≤ fen.length - 1 → RelOk p.length (Hz r fen k)
 | 0, _ => hr
 | k + 1, h => by
  have := hf.at (k := k + 1) (by omega)
  exact (stepsB_ok hr hf k (by omega)).put _ (by omega)
theorem stepsP_ok {p : List Ev} {fen : List Int} (hf : Ib p fen) : RelOk p.length (Ia p fen) := stepsB_ok (stepsA_ok p _ (lA5 _)) hf _ (lA5 _)
section
variable {M : Aa}
theorem P4 (p : List Ev) (s : Value) (hs : Sl M 6 Bh s p) (hb : p.length < 1000000) (f d o n : Value) (dn : List Bool) (hd : Sl M 1 eb d dn) (w : Nat) (hw : w < p.length) (hl : dn.length = p.length) :
  As Tryz.prog 104 #[s, .agg #[f, d, o, n], vi w] M (vb ((evAt p w).reads && (dn[w]?.getD false))) := by
 obtain ⟨a, c, rfl, aH⟩ := hs
 obtain ⟨da, dc, rfl, cl⟩ := hd
 obtain ⟨pb, po, rfl, hat⟩ := Sl.at (enc := Bh) (fun _ => rfl) (by decide) aH (by omega)
 obtain ⟨db, do', rfl, aJ⟩ := Sl.at (sz := 1) (enc := eb) (fun _ => rfl) (by decide) cl (by omega)
 have kD := JJ hat w hw
 have o8 : rd M db (do' + w) 1 [vb (dn[w]?.getD false)] := by
  have := aJ w (by omega)
  rw [lAw] at this
  rwa [lA2 (by omega : w < dn.length)]
 have aT : (w : Int) < p.length := by omega
 have dD : (w : Int) < dn.length := by omega
 refine Con.enter Q16_ok (args := [.slice (some ⟨pb, po, none⟩) p.length c, .agg #[f, .slice (some ⟨db, do', none⟩) dn.length dc, o, n], vi w]) (by simp [Q16]) fun w0 => ?_
 simp only [Q16, A9]
 repeat' first | refine st ?_ | refine rg ?_ | (refine As.call (Cc (evAt p w)) ?_; try refine nx ?_) | with_reducible assumption | (refine JE ?_ (fun hc K' hK => ?_) ?_; rotate_left) | refine rt Q16_ok ?_ | (with_reducible intro b; try refine nx ?_) | refine ZF ?_ | ((first | refine xm ?_ | refine xsA rfl ?_ | fail); try refine nx ?_) | exact ⟨⟩ | fail
 all_goals simp_all
theorem V3 (p : List Ev) (s : Value) (hs : Sl M 6 Bh s p) (hb : p.length ≤ 32) (ho : Yt p) (w : Nat) (hw : w < p.length) :
  As Tryz.prog 103 #[s, vi w] M (vu (Fk p w)) := by
 obtain ⟨a, c, rfl, aH⟩ := hs
 obtain ⟨pb, po, rfl, hat⟩ := Sl.at (enc := Bh) (fun _ => rfl) (by decide) aH (by omega)
 have hat := JJ hat
 have kD := hat w hw
 have o9 := kD.pt 5 1 (by omega) rfl
 have aT : (w : Int) < p.length := by omega
 have cU : ¬ ((w : Int) < 0) := by omega
 refine Con.enter Q33_ok (args := [.slice (some ⟨pb, po, none⟩) p.length c, vi w]) (by simp [Q33]) fun w0 => ?_
 simp only [Q33, A9]
 refine EV.seq (EV.reg ?_)
 (repeat first | refine nx ?_ | simp only [Cg9])
 refine EV.seq (EV.reg ?_)
 (repeat first | refine nx ?_ | simp only [Ch0])
 refine EV.seq (JH (fun ρ' M' G' => M' = M ∧ (∀ q ∈ [(0, .slice (some ⟨pb, po, none⟩) p.length c), (1, vi w), (5, vu (if (evAt p w).rel then 2 ^ w else 0))], get ρ' q.1 = some q.2) ∧ G' = []) ?_ ?_)
 ·intro k' key
  have h0 : IntKind.u32.wrap ((BitVec.ofInt IntKind.u32.bits (0 : Int) ||| BitVec.ofInt IntKind.u32.bits (2 ^ w)).toNat : Int) = ((2 ^ w : Nat) : Int) := by
   have := Jn (x := 0) (b := w) (by decide) (by omega)
   simpa using this
  repeat' first | refine st ?_ | (refine EV.reg ?_; (conv => (arg 2; whnf)); (repeat first | refine nx ?_ | simp only [cU, De (show w < 32 by omega), h0])) | (refine As.call (Xe (evAt p w) (ho w hw)) ?_; (repeat first | refine nx ?_ | simp only [cU, De (show w < 32 by omega), h0])) | (refine cX ?_ ?_ <;> intro h <;> try exact Ai h) | refine ZF ?_ | (refine xm ?_; (repeat first | refine nx ?_ | simp only [cU, De (show w < 32 by omega), h0])) | fail
  all_goals
   refine key _ _ _ ⟨rfl, ?_, rfl⟩
   simp only [*, lC5, if_true, if_false]
   exact eE
 rintro ρ2 M2 G2 ⟨rfl, hq, rfl⟩
 refine JA (G' := []) ?_ hq (lA0 _)
 clear hq
 generalize aK : (if (evAt p w).rel then 2 ^ w else 0) = s0
 have kE : s0 < 2 ^ p.length := by
  rw [← aK]; split
  ·exact lBe (by decide) hw
  ·exact lD3 _
 have fJ : IntKind.i64.wrap ((w : Int) - 1) = (w : Int) - 1 := w64 (by omega) (by omega)
 repeat' first | refine st ?_ | (refine EV.reg ?_; (conv => (arg 2; whnf)); (repeat first | refine nx ?_ | simp only [fJ])) | fail
 refine JC (fun x : Nat × Nat => ([(0, .slice (some ⟨pb, po, none⟩) p.length c), (1, vi w), (5, vu x.2), (6, vi ((x.1 : Int) - 1))], M2, [])) (fun x => x.1 ≤ w ∧ x.2 < 2 ^ p.length ∧ Fa p w x.1 x.2 = Fk p w) (fun x => x.1) (w, s0) rfl ⟨lA5 _, kE, by rw [← aK]; rfl⟩ ?env1 (lA0 _) ?_
 case env1 =>
  exact eE
 rintro ⟨x, s⟩ ⟨hx, ah, aX⟩ ih
 dsimp only at hx ah aX ih ⊢
 cases x with
 | zero =>
  have e0 : decide (0 ≤ ((0 : Nat) : Int) - 1) = false := by decide
  repeat' first | refine st ?_ | ((first | refine EV.reg ?_ | refine EV.any _ (lA0 _) ?_ | fail); (conv => (arg 2; whnf)); (repeat first | refine nx ?_ | simp only [e0])) | (refine JT ?_ (fun hc => ?_) ?_; rotate_left; (try simp only [decide_eq_true_eq, decide_eq_false_iff_not, lB8, lCd, lA6, lAq, lBm, lBn] at hc)) | (refine cX ?_ ?_ <;> intro h <;> try exact Ai h) | refine ZF ?_ | (exfalso; simp at hc; done) | exact false | fail
  (refine rt Q33_ok ?_; try with_reducible exact ⟨⟩)
  rw [← aX]; rfl
 | succ a =>
  have ea : ((a + 1 : Nat) : Int) - 1 = a := by omega
  have ct : decide ((a : Int) ≥ 0) = true := by simp
  have kF : decide (0 ≤ (a : Int)) = true := by simp
  have dq := hat a (by omega)
  have od := dq.pt 5 1 (by omega) rfl
  have kG := dq.pt 0 1 (by omega) rfl
  have sw : (a : Int) < p.length := by omega
  have cV : ¬ ((a : Int) < 0) := by omega
  have ew : IntKind.i64.wrap ((a : Int) - 1) = (a : Int) - 1 := w64 (by omega) (by omega)
  have aj := Jn (x := s) (b := a) (Yu ah hb) (by omega)
  rw [ea]
  simp only [Fa] at aX
  repeat' first | refine st ?_ | ((first | refine EV.reg ?_ | refine EV.any _ (lA0 _) ?_ | fail); (conv => (arg 2; whnf)); (repeat first | refine nx ?_ | simp only [ct, kF, cV, De (show a < 32 by omega), aj, ew])) | (refine As.call (Xe (evAt p a) (ho a (by omega))) ?_; (repeat first | refine nx ?_ | simp only [ct, kF, cV, De (show a < 32 by omega), aj, ew])) | with_reducible assumption | (refine JE ?_ (fun hc K' hK => ?_) ?_; rotate_left) | (refine JT ?_ (fun hc => ?_) ?_; rotate_left; (try simp only [decide_eq_true_eq, decide_eq_false_iff_not, lB8, lCd, lA6, lAq, lBm, lBn] at hc)) | (with_reducible rfl) | (refine cX ?_ ?_ <;> intro h <;> try exact Ai h) | refine ZF ?_ | (refine xm ?_; (repeat first | refine nx ?_ | simp only [ct, kF, cV, De (show a < 32 by omega), aj, ew])) | fail
  ·rw [if_pos (by simp_all), if_pos (by simp_all)] at aX
   refine JA (ih (a, s ||| 2 ^ a) ⟨by dsimp only; omega, lCn ah (lBe (by decide) (by omega)), aX⟩ (by dsimp only; omega)) ?_ (lA0 _)
   exact eE
  ·rw [if_pos (by simp_all), if_neg (by grind)] at aX
   refine JA (ih (a, s) ⟨by dsimp only; omega, ah, aX⟩ (by dsimp only; omega)) ?_ (lA0 _)
   exact eE
  ·rw [if_neg (by simp_all)] at aX
   (refine rt Q33_ok ?_; try with_reducible exact ⟨⟩)
   rw [← aX]
theorem Ae1 (p : List Ev) (s : Value) (hs : Sl M 6 Bh s p) (hb : p.length ≤ 32) (ho : Yt p) (w : Nat) (hw : w < p.length) :
  As Tryz.prog 105 #[s, vi w] M (vu (Jo p w)) := by
 obtain ⟨a, c, rfl, aH⟩ := hs
 obtain ⟨pb, po, rfl, hat⟩ := Sl.at (enc := Bh) (fun _ => rfl) (by decide) aH (by omega)
 have hat := JJ hat
 have kD := hat w hw
 have o9 := kD.pt 5 1 (by omega) rfl
 have aT : (w : Int) < p.length := by omega
 have cU : ¬ ((w : Int) < 0) := by omega
 refine Con.enter Q15_ok (args := [.slice (some ⟨pb, po, none⟩) p.length c, vi w]) (by simp [Q15]) fun w0 => ?_
 simp only [Q15, A9]
 refine EV.seq (EV.reg ?_)
 (repeat first | refine nx ?_ | simp only [Ch2])
 refine EV.seq (EV.reg ?_)
 (repeat first | refine nx ?_ | simp only [Ch3])
 refine EV.seq (JH (fun ρ' M' G' => M' = M ∧ (∀ q ∈ [(0, .slice (some ⟨pb, po, none⟩) p.length c), (1, vi w), (5, vu (if (evAt p w).acq then 2 ^ w else 0))], get ρ' q.1 = some q.2) ∧ G' = []) ?_ ?_)
 ·intro k' key
  have h0 : IntKind.u32.wrap ((BitVec.ofInt IntKind.u32.bits (0 : Int) ||| BitVec.ofInt IntKind.u32.bits (2 ^ w)).toNat : Int) = ((2 ^ w : Nat) : Int) := by
   have := Jn (x := 0) (b := w) (by decide) (by omega)
   simpa using this
  repeat' first | refine st ?_ | (refine EV.reg ?_; (conv => (arg 2; whnf)); (repeat first | refine nx ?_ | simp only [cU, De (show w < 32 by omega), h0])) | (refine As.call (Xd (evAt p w) (ho w hw)) ?_; (repeat first | refine nx ?_ | simp only [cU, De (show w < 32 by omega), h0])) | (refine cX ?_ ?_ <;> intro h <;> try exact Ai h) | refine ZF ?_ | (refine xm ?_; (repeat first | refine nx ?_ | simp only [cU, De (show w < 32 by omega), h0])) | fail
  all_goals
   refine key _ _ _ ⟨rfl, ?_, rfl⟩
   simp only [*, lC5, if_true, if_false]
   exact eE
 rintro ρ2 M2 G2 ⟨rfl, hq, rfl⟩
 refine JA (G' := []) ?_ hq (lA0 _)
 clear hq
 generalize aK : (if (evAt p w).acq then 2 ^ w else 0) = s0
 have kE : s0 < 2 ^ p.length := by
  rw [← aK]; split
  ·exact lBe (by decide) hw
  ·exact lD3 _
 have fJ : IntKind.i64.wrap ((w : Int) + 1) = ((w + 1 : Nat) : Int) := w64 (by omega) (by omega)
 repeat' first | refine st ?_ | refine rg ?_ | exact ⟨⟩ | fail
 rw [fJ]
 refine JC (fun x : Nat × Nat => ([(0, .slice (some ⟨pb, po, none⟩) p.length c), (1, vi w), (5, vu x.2), (6, vi x.1)], M2, [])) (fun x => x.1 ≤ p.length ∧ x.2 < 2 ^ p.length ∧ Ki p w (p.length - x.1) x.1 x.2 = Jo p w) (fun x => p.length - x.1) (w + 1, s0) rfl ⟨hw, kE, by rw [← aK]; rfl⟩ ?env1 (lA0 _) ?_
 case env1 =>
  exact eE
 rintro ⟨a, s⟩ ⟨hx, ah, aX⟩ ih
 dsimp only at hx ah aX ih ⊢
 by_cases ha : a < p.length
 ·have aS : decide ((a : Int) < p.length) = true := by simpa using ha
  have dq := hat a (by omega)
  have od := dq.pt 5 1 (by omega) rfl
  have kG := dq.pt 0 1 (by omega) rfl
  have sw : (a : Int) < p.length := by omega
  have cV : ¬ ((a : Int) < 0) := by omega
  have aj := Jn (x := s) (b := a) (Yu ah hb) (by omega)
  have ef : p.length - a = (p.length - (a + 1)) + 1 := by omega
  rw [ef] at aX
  simp only [Ki] at aX
  repeat' first | refine st ?_ | ((first | refine EV.reg ?_ | refine EV.any _ (lA0 _) ?_ | fail); (conv => (arg 2; whnf)); (repeat first | refine nx ?_ | simp only [aS, cV, De (show a < 32 by omega), aj])) | (refine As.call (Xd (evAt p a) (ho a (by omega))) ?_; (repeat first | refine nx ?_ | simp only [aS, cV, De (show a < 32 by omega), aj])) | with_reducible assumption | (refine JE ?_ (fun hc K' hK => ?_) ?_; rotate_left) | (refine JT ?_ (fun hc => ?_) ?_; rotate_left; (try simp only [decide_eq_true_eq, decide_eq_false_iff_not, lB8, lCd, lA6, lAq, lBm, lBn] at hc)) | (with_reducible rfl) | (refine cX ?_ ?_ <;> intro h <;> try exact Ai h) | refine ZF ?_ | (refine xm ?_; (repeat first | refine nx ?_ | simp only [aS, cV, De (show a < 32 by omega), aj])) | fail
  ·rw [if_pos (by simp_all), if_pos (by simp_all)] at aX
   refine JA (ih (a + 1, s ||| 2 ^ a) ⟨by dsimp only; omega, lCn ah (lBe (by decide) (by omega)), aX⟩ (by dsimp only; omega)) ?_ (lA0 _)
   exact eE
  ·rw [if_pos (by simp_all), if_neg (by grind)] at aX
   refine JA (ih (a + 1, s) ⟨by dsimp only; omega, ah, aX⟩ (by dsimp only; omega)) ?_ (lA0 _)
   exact eE
  ·rw [if_neg (by simp_all)] at aX
   (refine rt Q15_ok ?_; try with_reducible exact ⟨⟩)
   rw [← aX]
 ·have e0 : decide ((a : Int) < p.length) = false := by simp; omega
  have ea : p.length - a = 0 := by omega
  rw [ea] at aX
  repeat' first | refine st ?_ | ((first | refine EV.reg ?_ | refine EV.any _ (lA0 _) ?_ | fail); (conv => (arg 2; whnf)); (repeat first | refine nx ?_ | simp only [e0])) | (refine JT ?_ (fun hc => ?_) ?_; rotate_left; (try simp only [decide_eq_true_eq, decide_eq_false_iff_not, lB8, lCd, lA6, lAq, lBm, lBn] at hc)) | (refine cX ?_ ?_ <;> intro h <;> try exact Ai h) | refine ZF ?_ | (exfalso; simp at hc; done) | exact false | fail
  (refine rt Q15_ok ?_; try with_reducible exact ⟨⟩)
  rw [← aX]; rfl
theorem Qw (p : List Ev) (s : Value) (hs : Sl M 6 Bh s p) (hb : p.length ≤ 32) (f d o n : Value) (fen : List Int) (hn : Sl M 1 ei n fen) (hin : Ib p fen) (bA : fen.length < 1000000) :
  Con Tryz.prog 102 #[s, .agg #[f, d, o, n]] M [] fun v _ G' => ∃ b, v = Av b p.length p.length ∧ G' = [(b, Cl 144 ((Ia p fen).map vu))] := by
 have aK := hs
 obtain ⟨a, c, rfl, aH⟩ := hs
 obtain ⟨na, nc, rfl, ll⟩ := hn
 refine Con.enter Q34_ok (args := [.slice a p.length c, .agg #[f, d, o, .slice na fen.length nc]]) (by simp [Q34]) fun w0 => ?_
 simp only [Q34, A9]
 repeat' first | refine st ?_ | refine rg ?_ | (with_reducible intro b; try refine nx ?_) | exact ⟨⟩ | fail
 rename Nat => xb
 refine Con.callB (G1 := []) (Kh _ p (aK.mono (JB _ _)) hb) (Aa.le_refl _) (lAe _) ?_
 rintro v M' G' ⟨rb, rfl, rfl⟩
 (refine nx ?_; try with_reducible exact ⟨⟩)
 repeat' first | refine st ?_ | refine rg ?_ | exact ⟨⟩ | fail
 refine JC (fun x : Nat => ([(0, .slice a p.length c), (3, pv xb 0), (5, Av rb p.length p.length), (6, vi ((x : Int) + 1))], M, [(xb, Cl 45 [f, d, o, .slice na fen.length nc]), (rb, Cl 144 ((Dj p x).map vu))]))
  (fun x => x ≤ p.length - 1) (fun x => p.length - x) 0 rfl (lA8 _) ?env1 (lA0 _) ?_
 case env1 =>
  exact eE
 intro x hx ih
 dsimp only at hx ih ⊢
 have ht : ((x : Int) + 1).toNat = x + 1 := by omega
 have aT : IntKind.i64.wrap ((x : Int) + 1 - 1) = x := w64 (by omega) (by omega) |>.trans (by omega)
 repeat' first | refine st ?_ | ((first | refine EV.reg ?_ | refine EV.any _ (lA0 _) ?_ | fail); (conv => (arg 2; whnf)); (repeat first | refine nx ?_ | simp only [ht, aT])) | (refine cX ?_ ?_ <;> intro h <;> try exact Ai h) | fail
 ·have eN : x + 1 < p.length := by omega
  obtain ⟨pb, po, rfl, hat⟩ := Sl.at (enc := Bh) (fun _ => rfl) (by decide) aH (by omega)
  have hat := JJ hat
  have iI := (hat (x + 1) (by omega)).pt 5 1 (by omega) rfl
  have gY := (hat x (by omega)).pt 5 1 (by omega) rfl
  have ih3 := ih (x + 1) (by omega) (by omega)
  rw [show Dj p (x + 1) = if (evAt p (x + 1)).th = (evAt p x).th then Ni (Dj p x) x (x + 1) else Dj p x from rfl] at ih3
  have ae := stepsA_ok p x (by omega)
  clear ih
  repeat' first | refine su ?_ | (refine EV.reg ?_; (conv => (arg 2; whnf)); (repeat first | refine nx ?_ | simp only [ht, aT])) | (refine cX ?_ ?_ <;> intro h <;> try exact Ai h) | refine ZF ?_ | (refine xm ?_; (repeat first | refine nx ?_ | simp only [ht, aT])) | fail
  ·refine JM (Gs ae hb (by omega) (by omega) (by omega) (by omega)) (JB _ _) ?_
   rintro v M' G' rfl
   rw [if_pos h] at ih3
   simp only [lB2, ht]
   (refine nx ?_; try with_reducible exact ⟨⟩)
   repeat' first | refine su ?_ | refine rg ?_ | exact ⟨⟩ | fail
   refine JD ih3 ?_
   exact eE
  ·rw [if_neg (by simp_all)] at ih3
   refine JD ih3 ?_
   exact eE
 ·have cE : x = p.length - 1 := by omega
  subst cE
  clear ih
  have ae := stepsA_ok p (p.length - 1) (lA5 _)
  repeat' first | fail
  refine JC (fun x : Nat => ([(0, .slice a p.length c), (3, pv xb 0), (5, Av rb p.length p.length), (7, vi ((x : Int) + 1))], M, [(xb, Cl 45 [f, d, o, .slice na fen.length nc]), (rb, Cl 144 ((Hz (Dj p (p.length - 1)) fen x).map vu))]))
   (fun x => x ≤ fen.length - 1) (fun x => fen.length - x) 0 rfl (lA8 _) ?env2 (lA0 _) ?_
  case env2 =>
   exact eE
  intro x hx ih
  dsimp only at hx ih ⊢
  have ht : ((x : Int) + 1).toNat = x + 1 := by omega
  have aT : IntKind.i64.wrap ((x : Int) + 1 - 1) = x := w64 (by omega) (by omega) |>.trans (by omega)
  repeat' first | refine st ?_ | (refine EV.reg ?_; (conv => (arg 2; whnf)); (repeat first | refine nx ?_ | simp only [ht, aT])) | (refine cX ?_ ?_ <;> intro h <;> try exact Ai h) | (refine xsA rfl ?_; (repeat first | refine nx ?_ | simp only [ht, aT])) | fail
  ·have eN : x + 1 < fen.length := by omega
   obtain ⟨pb, po, rfl, hat⟩ := Sl.at (sz := 1) (enc := ei) (fun _ => rfl) (by decide) ll (by omega)
   have iI := hat (x + 1) (by omega)
   have gY := hat x (by omega)
   have q1 := hin.at (k := x + 1) eN
   have q0 := hin.at (k := x) (by omega)
   rw [lAw] at iI gY
   rw [← show fen[x + 1]?.getD 0 = fen[x + 1] from by rw [lA2 eN]; rfl] at iI
   rw [← show fen[x]?.getD 0 = fen[x] from by rw [lA2]; rfl] at gY
   have ih3 := ih (x + 1) (by omega) (by omega)
   rw [show Hz (Dj p (p.length - 1)) fen (x + 1) = Ni (Hz (Dj p (p.length - 1)) fen x) (fen[x]?.getD 0).toNat (fen[x + 1]?.getD 0).toNat from rfl] at ih3
   have oe := stepsB_ok ae hin x (by omega)
   generalize fen[x]?.getD 0 = ea at *
   generalize fen[x + 1]?.getD 0 = eb2 at *
   clear ih
   refine EV.any (t := Ay3) _ (lA0 _) ?_
   (repeat first | refine nx ?_ | simp only [Ay3])
   repeat' first | refine ZF ?_ | ((first | refine xm ?_ | refine xsA rfl ?_ | fail); (repeat first | refine nx ?_ | simp only [ht, aT])) | fail
   refine JM (Gs oe hb (by omega) (by omega) (by omega) (by omega)) (JB _ _) ?_
   rintro v M' G' rfl
   (refine nx ?_; try with_reducible exact ⟨⟩)
   repeat' first | refine su ?_ | (refine EV.reg ?_; (conv => (arg 2; whnf)); (repeat first | refine nx ?_ | simp only [ht, aT])) | fail
   refine JD ih3 ?_
   exact eE
  ·have cE : x = fen.length - 1 := by omega
   subst cE
   refine JD (ρ' := [(4, Av rb p.length p.length)]) (G' := [(rb, Cl 144 ((Hz (Dj p (p.length - 1)) fen (fen.length - 1)).map vu))]) ?_ ?env3
   case env3 =>
    exact eE
   (refine rt Q34_ok ?_; try with_reducible exact ⟨⟩)
   exact ⟨rb, rfl, rfl⟩
end
structure Exec where
 frm : List Int
 dn : List Bool
 ord : List (List Int)
 fen : List Int
structure POk (p : List Ev) : Prop where
 len : p.length ≤ 32
 ord : Yt p
 loc : ∀ i, i < p.length → 0 ≤ (evAt p i).op.loc ∧ (evAt p i).op.loc < 3
structure XOk (p : List Ev) (e : Exec) : Prop where
 fl : e.frm.length = p.length
 dl : e.dn.length = p.length
 ol : e.ord.length = 3
 fr : ∀ i : Nat, i < p.length → e.frm[i]?.getD 0 < p.length ∧ ((evAt p i).reads = true → -1 ≤ e.frm[i]?.getD 0)
 oin : ∀ l ∈ e.ord, Ib p l ∧ l.length ≤ p.length
 fin : Ib p e.fen ∧ e.fen.length ≤ p.length
theorem XOk.fromOk {p : List Ev} {e : Exec} (h : XOk p e) : C9 p e.frm := ⟨h.fl, fun i hi hr => by
 have := h.fr i hi
 have h2 := this.2 hr
 omega⟩
def IsX (M : Aa) (v : Value) (e : Exec) : Prop := ∃ f d o n, v = .agg #[f, d, o, n] ∧ Sl M 1 ei f e.frm ∧ Sl M 1 eb d e.dn ∧ D4 M 1 ei o e.ord ∧ Sl M 1 ei n e.fen
theorem IsX.mono {M M' : Aa} (hM : M.le M') {v : Value} {e : Exec} (h : IsX M v e) : IsX M' v e := by
 obtain ⟨f, d, o, n, rfl, h1, h2, h3, h4⟩ := h
 exact ⟨f, d, o, n, rfl, h1.mono hM, h2.mono hM, h3.mono hM, h4.mono hM⟩
def Oh (p : List Ev) (e : Exec) (w : Nat) : Bool := (evAt p w).reads && (e.dn[w]?.getD false)
def Af (e : Exec) (i : Nat) : Int := e.frm[i]?.getD 0
def Df (p : List Ev) (e : Exec) : Nat → Nat → Nat → Nat
 | 0, _, s => s
 | k + 1, w, s => if Oh p e w = true ∧ 0 ≤ Af e w then Df p e k (Af e w).toNat (s ||| Fk p w) else s ||| Fk p w
def Ex (p : List Ev) (e : Exec) (r : Nat) : Nat := Df p e p.length (Af e r).toNat 0
def Ja (q : Rel) (set to : Nat) : Nat → Rel
 | 0 => q
 | a + 1 => if set.testBit a then orR (Ja q set to a) a to else Ja q set to a
def Ic (p : List Ev) (e : Exec) : Nat → Rel
 | 0 => Ia p e.fen
 | r + 1 => if (evAt p r).reads = true ∧ 0 ≤ Af e r then Ja (Ic p e r) (Ex p e r) (Jo p r) p.length else Ic p e r
def Gd (p : List Ev) (e : Exec) : Rel := B8 (Ic p e p.length)
theorem Qx {p : List Ev} {e : Exec} (hx : XOk p e) : ∀ (k w s : Nat), w < p.length → s < 2 ^ p.length → Df p e k w s < 2 ^ p.length
 | 0, _, _, _, h => h
 | k + 1, w, s, hw, h => by
  have hs : s ||| Fk p w < 2 ^ p.length := lCn h (Qv hw)
  simp only [Df]
  split
  ·rename_i hc
   have := (hx.fr w hw).1
   exact Qx hx k _ _ (by simp only [Af] at hc ⊢; omega) hs
  ·exact hs
theorem orAll_ok {n : Nat} {q : Rel} (hq : RelOk n q) {set to : Nat} (ht : to < 2 ^ n) : ∀ a, RelOk n (Ja q set to a)
 | 0 => hq
 | a + 1 => by
  simp only [Ja]
  split
  ·exact (orAll_ok hq ht a).or a ht
  ·exact orAll_ok hq ht a
theorem befGo_ok {p : List Ev} {e : Exec} (hx : XOk p e) : ∀ r, r ≤ p.length → RelOk p.length (Ic p e r)
 | 0, _ => stepsP_ok hx.fin.1
 | r + 1, h => by
  simp only [Ic]
  split
  ·exact orAll_ok (befGo_ok hx r (by omega)) (Xg (by omega)) _
  ·exact befGo_ok hx r (by omega)
section
variable {M : Aa}
theorem V4 (p : List Ev) (s : Value) (hs : Sl M 6 Bh s p) (hp : POk p) (e : Exec) (v : Value) (hv : IsX M v e) (hx : XOk p e) :
  Con Tryz.prog 67 #[s, v] M [] fun v _ G' => ∃ b, v = Av b p.length p.length ∧ G' = [(b, Cl 144 ((Gd p e).map vu))] := by
 have aK := hs
 have hb := hp.len
 obtain ⟨a, c, rfl, aH⟩ := hs
 obtain ⟨f, d, o, n, rfl, hf, hd, ho, hn⟩ := hv
 have nj := hd
 obtain ⟨fa, fc, rfl, cK⟩ := hf
 obtain ⟨da, dc, rfl, lm⟩ := hd
 have bA := hx.fl
 refine Con.enter Q9_ok (args := [.slice a p.length c, .agg #[.slice fa e.frm.length fc, .slice da e.dn.length dc, o, n]]) (by simp [Q9]) fun w0 => ?_
 simp only [Q9, A9]
 repeat' first | refine st ?_ | refine rg ?_ | ((first | with_reducible intro b | refine xrA rfl ?_ | fail); try refine nx ?_) | exact ⟨⟩ | fail
 rename Nat => xb
 have iJ := hx.fin.2
 refine Con.callB (G1 := []) (Qw p _ (aK.mono (JB _ _)) hb _ _ _ _ e.fen (hn.mono (JB _ _)) hx.fin.1 (by omega)) (Aa.le_refl _) (lAe _) ?_
 rintro v M' G' ⟨rb, rfl, rfl⟩
 (refine nx ?_; try with_reducible exact ⟨⟩)
 repeat' first | refine st ?_ | refine rg ?_ | exact ⟨⟩ | fail
 refine JC (fun r : Nat => ([(0, .slice a p.length c), (3, pv xb 0), (5, Av rb p.length p.length), (15, vi p.length), (16, vi r)], M, [(xb, Cl 45 [.slice fa e.frm.length fc, .slice da e.dn.length dc, o, n]), (rb, Cl 144 ((Ic p e r).map vu))]))
  (fun r => r ≤ p.length) (fun r => p.length - r) 0 rfl (lA8 _) ?env1 (lA0 _) ?_
 case env1 =>
  exact eE
 intro r hr ih
 dsimp only at hr ih ⊢
 repeat' first | refine st ?_ | refine rg ?_ | (refine cX ?_ ?_ <;> intro h <;> try exact Ai h) | exact ⟨⟩ | fail
 ·have be : r < p.length := by omega
  obtain ⟨pb, po, rfl, hat⟩ := Sl.at (enc := Bh) (fun _ => rfl) (by decide) aH (by omega)
  obtain ⟨fb, fo, rfl, aJ⟩ := Sl.at (sz := 1) (enc := ei) (fun _ => rfl) (by decide) cK (by omega)
  have hat := JJ hat
  have g6 : ∀ i, i < p.length → rd M fb (fo + i) 1 [vi (Af e i)] := by
   intro i hi
   have := aJ i (by omega)
   rw [lAw] at this
   simp only [Af]
   rwa [lA2 (by omega : i < e.frm.length)]
  have aw := hat r be
  have bN := g6 r be
  have aS : ∀ i, i < p.length → Af e i < p.length := fun i hi => (hx.fr i hi).1
  have fe := aS r be
  have u6 : (r : Int) < e.frm.length := by omega
  have ih3 := ih (r + 1) (by omega) (by omega)
  rw [show Ic p e (r + 1) = if (evAt p r).reads = true ∧ 0 ≤ Af e r then Ja (Ic p e r) (Ex p e r) (Jo p r) p.length else Ic p e r from rfl] at ih3
  have ae := befGo_ok hx r (by omega)
  generalize Ic p e r = q at *
  clear ih aJ
  repeat' first | refine su ?_ | refine rg ?_ | with_reducible assumption | (refine As.call (Cc (evAt p r)) ?_; try refine nx ?_) | (refine JE ?_ (fun hc K' hK => ?_) ?_; rotate_left) | (refine cX ?_ ?_ <;> intro h <;> try exact Ai h) | refine ZF ?_ | ((first | refine xm ?_ | refine xsA rfl ?_ | fail); try refine nx ?_) | exact ⟨⟩ | fail
  ·rw [if_neg (by grind)] at ih3
   refine JD ih3 ?_
   exact eE
  ·obtain ⟨hre, ct⟩ := h
   have ct : 0 ≤ Af e r := by omega
   rw [if_pos ⟨hre, ct⟩] at ih3
   obtain ⟨w0', nk⟩ := lE7 ct
   refine EV.seq ?_
   repeat' first | refine rg ?_ | exact ⟨⟩ | fail
   refine EV.seq ?_
   repeat' first | refine rg ?_ | refine ZF ?_ | ((first | refine xm ?_ | refine xsA rfl ?_ | fail); try refine nx ?_) | exact ⟨⟩ | fail
   refine EV.seq (JH (fun ρ' M' G' => M' = M ∧ (∀ q ∈ [(0, .slice (some ⟨pb, po, none⟩) p.length c), (3, pv xb 0), (5, Av rb p.length p.length), (6, vi r), (7, vu (Ex p e r)), (15, vi p.length), (16, vi r)], get ρ' q.1 = some q.2) ∧
    G' = [(xb, Cl 45 [.slice (some ⟨fb, fo, none⟩) e.frm.length fc, .slice da e.dn.length dc, o, n]), (rb, Cl 144 (q.map vu))]) ?_ ?_)
   ·intro k' key
    clear ih3
    repeat' first | refine st ?_ | refine rg ?_ | exact ⟨⟩ | fail
    refine JC (fun x : Nat × Nat × Nat => ([(0, .slice (some ⟨pb, po, none⟩) p.length c), (3, pv xb 0), (5, Av rb p.length p.length), (6, vi r), (7, vu x.2.2), (8, vi x.2.1), (15, vi p.length), (16, vi r), (39, vi p.length), (40, vi x.1)], M, [(xb, Cl 45 [.slice (some ⟨fb, fo, none⟩) e.frm.length fc, .slice da e.dn.length dc, o, n]), (rb, Cl 144 (q.map vu))]))
     (fun x => x.1 ≤ p.length ∧ x.2.1 < p.length ∧ x.2.2 < 2 ^ p.length ∧ Df p e (p.length - x.1) x.2.1 x.2.2 = Ex p e r) (fun x => p.length - x.1) (0, w0', 0) rfl ⟨lA8 _, by dsimp only; omega, lD3 _, by simp only [Ex, nk, Nat.sub_zero, lB2]⟩ ?env2 (lA0 _) ?_
    case env2 =>
     repeat' first | (refine lBp.2 (lAd ?_ ?_)) | (intro _ ba; cases ba; done) | rfl | (simp (disch := omega) only [Al, Au, reduceIte, Nat.reduceEqDiff, Option.some.injEq, Value.int.injEq, w64, lD2, lDg, lBd, lD6, nk]; done) | fail
    rintro ⟨j, w, s⟩ ⟨hj, hw, hs, aX⟩ ih
    dsimp only at hj hw hs aX ih ⊢
    repeat' first | refine st ?_ | refine rg ?_ | (refine cX ?_ ?_ <;> intro h <;> try exact Ai h) | exact ⟨⟩ | fail
    ·have ah := Qv hw
     have aj := Qu (Yu hs hb) (Yu ah hb)
     have ni := g6 w hw
     have sy := aS w hw
     have rW : (w : Int) < e.frm.length := by omega
     have ef : p.length - j = (p.length - (j + 1)) + 1 := by omega
     rw [ef] at aX
     simp only [Df] at aX
     repeat' first | refine st ?_ | (refine EV.reg ?_; (conv => (arg 2; whnf)); (repeat first | refine nx ?_ | simp only [aj])) | ((first | refine As.call (P4 p _ (aK.mono (JB _ _)) (by omega) _ _ _ _ e.dn (nj.mono (JB _ _)) w hw hx.dl) ?_ | refine As.call (V3 p _ (aK.mono (JB _ _)) hb hp.ord w hw) ?_ | fail); (repeat first | refine nx ?_ | simp only [aj])) | with_reducible assumption | (refine JE ?_ (fun hc K' hK => ?_) ?_; rotate_left) | (refine cX ?_ ?_ <;> intro h <;> try exact Ai h) | refine ZF ?_ | ((first | refine xm ?_ | refine xrA rfl ?_ | refine xsA rfl ?_ | fail); (repeat first | refine nx ?_ | simp only [aj])) | fail
     ·rw [if_neg (show ¬ (Oh p e w = true ∧ 0 ≤ Af e w) by simp only [Oh]; grind)] at aX
      refine key _ _ _ ⟨rfl, ?_, rfl⟩
      simp only [aX]
      exact eE
     ·rw [if_pos (show Oh p e w = true ∧ 0 ≤ Af e w by simp only [Oh]; grind)] at aX
      obtain ⟨w1, aT⟩ := lE7 (show 0 ≤ Af e w by omega)
      rw [aT, lB2] at aX
      refine JD (ih (j + 1, w1, s ||| Fk p w) ⟨by dsimp only; omega, by dsimp only; omega, lCn hs ah, aX⟩ (by dsimp only; omega)) ?_
      simp only [aT]
      exact eE
    ·have : p.length - j = 0 := by omega
     rw [this] at aX
     simp only [Df] at aX
     refine key _ _ _ ⟨rfl, ?_, rfl⟩
     repeat' first | (refine lBp.2 (lAd ?_ ?_)) | (intro _ ba; cases ba; done) | rfl | (simp (disch := omega) only [Al, Au, reduceIte, Nat.reduceEqDiff, Option.some.injEq, Value.int.injEq, w64, lD2, lDg, lBd, lD6, aX]; done) | fail
   rintro ρ2 M2 G2 ⟨rfl, hq, rfl⟩
   refine JA ?_ hq (lA0 _)
   clear hq
   have hh : Ex p e r < 2 ^ p.length := Qx hx _ _ _ (by omega) (lD3 _)
   have he := Xg be
   repeat' first | refine st ?_ | refine rg ?_ | (refine As.call (Ae1 p _ (aK.mono (JB _ _)) hb hp.ord r be) ?_; try refine nx ?_) | exact ⟨⟩ | fail
   refine JC (fun x : Nat => ([(0, .slice (some ⟨pb, po, none⟩) p.length c), (3, pv xb 0), (5, Av rb p.length p.length), (6, vi r), (7, vu (Ex p e r)), (9, vu (Jo p r)), (15, vi p.length), (16, vi r), (70, vi p.length), (71, vi x)], M2, [(xb, Cl 45 [.slice (some ⟨fb, fo, none⟩) e.frm.length fc, .slice da e.dn.length dc, o, n]), (rb, Cl 144 ((Ja q (Ex p e r) (Jo p r) x).map vu))]))
    (fun x => x ≤ p.length) (fun x => p.length - x) 0 rfl (lA8 _) ?env3 (lA0 _) ?_
   case env3 =>
    exact eE
   intro x lW ih
   dsimp only at lW ih ⊢
   have f8 := orAll_ok (set := Ex p e r) ae he x
   by_cases eN : x < p.length
   ·have u7 : (x : Int) < p.length := by omega
    have ih4 := ih (x + 1) (by omega) (by omega)
    rw [show Ja q (Ex p e r) (Jo p r) (x + 1) = if (Ex p e r).testBit x then orR (Ja q (Ex p e r) (Jo p r) x) x (Jo p r) else Ja q (Ex p e r) (Jo p r) x from rfl] at ih4
    generalize Ja q (Ex p e r) (Jo p r) x = q2 at *
    generalize Ex p e r = u8 at *
    generalize Jo p r = ee2 at *
    obtain ⟨cm, ea⟩ := f8.get eN
    have cz := f8.at hb x
    simp only [orR, ea] at ih4 cz
    have kC := f8.len
    have ar := Ae0 (b := x) (Yu hh hb) (by omega)
    have aj := Qu cz (Yu he hb)
    have dG : ¬ ((x : Int) < 0) := by omega
    clear ih ih3
    repeat' first | refine st ?_ | (refine EV.reg ?_; (conv => (arg 2; whnf)); (repeat first | refine nx ?_ | simp only [ar, aj, dG, Ao, eN, lA1, kC])) | (refine lA9 _ (lAd (Cd (f := vu) cm) ?_); (repeat first | refine nx ?_ | simp only [ar, aj, dG, Ao, eN, lA1, kC])) | (refine cX ?_ ?_ <;> intro h <;> try exact Ai h) | refine ZF ?_ | (refine xw ?_; (repeat first | refine nx ?_ | simp only [ar, aj, dG, Ao, eN, lA1, kC])) | fail
    ·rw [if_pos (by assumption)] at ih4
     refine JD ih4 ?_
     exact eE
    ·rw [if_neg (by simp_all)] at ih4
     refine JD ih4 ?_
     exact eE
   ·have cE : x = p.length := by omega
    subst cE
    repeat' first | refine st ?_ | refine rg ?_ | (refine cX ?_ ?_ <;> intro h <;> try exact Ai h) | exact ⟨⟩ | fail
    refine JD ih3 ?_
    exact eE
 ·have cE : r = p.length := by omega
  subst cE
  have ae := befGo_ok hx p.length (lA5 _)
  refine JM (Lc ae hb) (JB _ _) ?_
  rintro v M' G' ⟨rfl, rfl⟩
  (refine nx ?_; try with_reducible exact ⟨⟩)
  repeat' first | fail
  refine JD (ρ' := [(4, Av rb p.length p.length)]) (G' := [(rb, Cl 144 ((B8 (Ic p e p.length)).map vu))]) ?_ ?env4
  case env4 =>
   exact eE
  (refine rt Q9_ok ?_; try with_reducible exact ⟨⟩)
  exact ⟨rb, rfl, rfl⟩
end
def Ae (l : List Int) (i : Nat) : Int := l[i]?.getD 0
def Aj6 (q : Rel) (l : List Int) (i : Nat) : Nat → Rel
 | 0 => q
 | j + 1 => Ni (Aj6 q l i j) (Ae l i).toNat (Ae l (i + 1 + j)).toNat
def Ae2 (q : Rel) (l : List Int) : Nat → Rel
 | 0 => q
 | i + 1 => Aj6 (Ae2 q l i) l i (l.length - (i + 1))
def Z3 (q : Rel) (ord : List (List Int)) : Nat → Rel
 | 0 => q
 | k + 1 => Ae2 (Z3 q ord k) (ord[k]?.getD []) (ord[k]?.getD []).length
def Sd (q : Rel) (r : Nat) (fr : Int) (l : List Int) : Nat → Rel × Bool
 | 0 => (q, decide (fr = -1))
 | i + 1 => (if (Sd q r fr l i).2 = true ∧ Ae l i ≠ r then Ni (Sd q r fr l i).1 r (Ae l i).toNat else (Sd q r fr l i).1, (Sd q r fr l i).2 || decide (Ae l i = fr))
def Ld (p : List Ev) (e : Exec) (r : Nat) : List Int := e.ord[(evAt p r).op.loc.toNat]?.getD []
def Oi (q : Rel) (e : Exec) (r : Nat) : Rel := if 0 ≤ Af e r then Ni q (Af e r).toNat r else q
def P5 (p : List Ev) (e : Exec) : Nat → Rel
 | 0 => Z3 (List.replicate p.length 0) e.ord e.ord.length
 | r + 1 => if (evAt p r).reads = true then (Sd (Oi (P5 p e r) e r) r (Af e r) (Ld p e r) (Ld p e r).length).1 else P5 p e r
def Bb7 (p : List Ev) (e : Exec) : Rel := B8 (P5 p e p.length)
theorem Er {p : List Ev} {l : List Int} (h : Ib p l) {k : Nat} (hk : k < l.length) : 0 ≤ Ae l k ∧ Ae l k < p.length := h.at hk
theorem comC_ok {p : List Ev} {q : Rel} (hq : RelOk p.length q) {l : List Int} (hl : Ib p l) (i : Nat) : ∀ j, i + 1 + j ≤ l.length → RelOk p.length (Aj6 q l i j)
 | 0, _ => hq
 | j + 1, h => by
  have := Er hl (k := i + 1 + j) (by omega)
  exact (comC_ok hq hl i j (by omega)).put _ (by omega)
theorem comB_ok {p : List Ev} {q : Rel} (hq : RelOk p.length q) {l : List Int} (hl : Ib p l) : ∀ i, i ≤ l.length → RelOk p.length (Ae2 q l i)
 | 0, _ => hq
 | i + 1, h => comC_ok (comB_ok hq hl i (by omega)) hl i _ (by omega)
theorem comA_ok {p : List Ev} {q : Rel} (hq : RelOk p.length q) {ord : List (List Int)} (ho : ∀ l ∈ ord, Ib p l ∧ l.length ≤ p.length) : ∀ k, k ≤ ord.length → RelOk p.length (Z3 q ord k)
 | 0, _ => hq
 | k + 1, h => by
  have hk : k < ord.length := by omega
  have e : ord[k]?.getD [] = ord[k] := by rw [lA2 hk]; rfl
  simp only [Z3, e]
  exact comB_ok (comA_ok hq ho k (by omega)) (ho _ (lAm hk)).1 _ (lA5 _)
theorem comE_ok {p : List Ev} {q : Rel} (hq : RelOk p.length q) {r : Nat} {fr : Int} {l : List Int} (hl : Ib p l) : ∀ i, i ≤ l.length → RelOk p.length (Sd q r fr l i).1
 | 0, _ => hq
 | i + 1, h => by
  have := Er hl (k := i) (by omega)
  simp only [Sd]
  split
  ·exact (comE_ok hq hl i (by omega)).put _ (by omega)
  ·exact comE_ok hq hl i (by omega)
theorem comD1_ok {p : List Ev} {q : Rel} (hq : RelOk p.length q) {e : Exec} {r : Nat} (hr : r < p.length) : RelOk p.length (Oi q e r) := by
 simp only [Oi]; split
 ·exact hq.put _ hr
 ·exact hq
theorem Se {p : List Ev} (hp : POk p) {e : Exec} (hx : XOk p e) {r : Nat} (hr : r < p.length) : ∃ h : (evAt p r).op.loc.toNat < e.ord.length, Ld p e r = e.ord[(evAt p r).op.loc.toNat] ∧ Ib p (Ld p e r) ∧ (Ld p e r).length ≤ p.length := by
 have := hp.loc r hr
 have hl : (evAt p r).op.loc.toNat < e.ord.length := by rw [hx.ol]; omega
 have e1 : Ld p e r = e.ord[(evAt p r).op.loc.toNat] := by simp only [Ld]; rw [lA2 hl]; rfl
 have := hx.oin _ (lAm hl)
 exact ⟨hl, e1, by rw [e1]; exact this.1, by rw [e1]; exact this.2⟩
theorem comD_ok {p : List Ev} (hp : POk p) {e : Exec} (hx : XOk p e) : ∀ r, r ≤ p.length → RelOk p.length (P5 p e r)
 | 0, _ => comA_ok (RelOk.zero _) hx.oin _ (lA5 _)
 | r + 1, h => by
  simp only [P5]
  split
  ·exact comE_ok (comD1_ok (comD_ok hp hx r (by omega)) (by omega)) (Se hp hx (by omega)).choose_spec.2.1 _ (lA5 _)
  ·exact comD_ok hp hx r (by omega)
theorem C2 {M : Aa} {wb wo : Nat} {l : List Int} (hat : ∀ i (hi : i < l.length), rd M wb (wo + i * 1) 1 (ei l[i])) (i : Nat) (hi : i < l.length) : rd M wb (wo + i) 1 [vi (Ae l i)] := by
 have := hat i hi
 rw [lAw] at this
 simp only [Ae]
 rwa [lA2 hi]
section
variable {M : Aa}
theorem Al6 (p : List Ev) (s : Value) (hs : Sl M 6 Bh s p) (hp : POk p) (e : Exec) (v : Value) (hv : IsX M v e) (hx : XOk p e) :
  Con Tryz.prog 123 #[s, v] M [] fun v _ G' => ∃ b, v = Av b p.length p.length ∧ G' = [(b, Cl 144 ((Bb7 p e).map vu))] := by
 have aK := hs
 have hb := hp.len
 obtain ⟨a, c, rfl, aH⟩ := hs
 obtain ⟨f, d, o, n, rfl, hf, hd, ho, hn⟩ := hv
 obtain ⟨fa, fc, rfl, cK⟩ := hf
 obtain ⟨oa, oc, ovs, rfl, bC, bW, bo⟩ := ho
 have bA := hx.fl
 have g8 := hx.ol
 obtain ⟨ob, oo, rfl, bU⟩ := D4.at bW bC bo (by omega)
 refine Con.enter Q11_ok (args := [.slice a p.length c, .agg #[.slice fa e.frm.length fc, d, .slice (some ⟨ob, oo, none⟩) e.ord.length oc, n]]) (by simp [Q11]) fun w0 => ?_
 simp only [Q11, A9]
 repeat' first | refine st ?_ | refine rg ?_ | (with_reducible intro b; try refine nx ?_) | exact ⟨⟩ | fail
 rename Nat => xb
 refine Con.callB (G1 := []) (Kh _ p (aK.mono (JB _ _)) hb) (Aa.le_refl _) (lAe _) ?_
 rintro v M' G' ⟨rb, rfl, rfl⟩
 (refine nx ?_; try with_reducible exact ⟨⟩)
 repeat' first | refine st ?_ | refine rg ?_ | (refine xsA rfl ?_; try refine nx ?_) | exact ⟨⟩ | fail
 refine JC (fun k : Nat => ([(0, .slice a p.length c), (3, pv xb 0), (5, Av rb p.length p.length), (20, .slice (some ⟨ob, oo, none⟩) e.ord.length oc), (21, vi e.ord.length), (22, vi k)], M,
   [(xb, Cl 45 [.slice fa e.frm.length fc, d, .slice (some ⟨ob, oo, none⟩) e.ord.length oc, n]), (rb, Cl 144 ((Z3 (List.replicate p.length 0) e.ord k).map vu))]))
  (fun k => k ≤ e.ord.length) (fun k => e.ord.length - k) 0 rfl (lA8 _) ?env1 (lA0 _) ?_
 case env1 =>
  exact eE
 intro k hk ih
 dsimp only at hk ih ⊢
 repeat' first | refine st ?_ | refine rg ?_ | (refine cX ?_ ?_ <;> intro h <;> try exact Ai h) | refine ZF ?_ | (refine xsA rfl ?_; try refine nx ?_) | exact ⟨⟩ | fail
 ·have ak : k < e.ord.length := by omega
  obtain ⟨la, lc, aR, cW, aW⟩ := bU k ak
  rw [lAw] at aR
  obtain ⟨hin, kB⟩ := hx.oin _ (lAm ak)
  have oh := comA_ok (RelOk.zero p.length) hx.oin k (by omega)
  have ih1 := ih (k + 1) (by omega) (by omega)
  have eo : e.ord[k]?.getD [] = e.ord[k] := by rw [lA2 ak]; rfl
  simp only [Z3, eo] at ih1
  generalize e.ord[k] = l at *
  generalize Z3 (List.replicate p.length 0) e.ord k = q at *
  clear ih
  repeat' first | refine st ?_ | refine rg ?_ | (refine xn ?_; try refine nx ?_) | exact ⟨⟩ | fail
  refine JC (fun i : Nat => ([(0, .slice a p.length c), (3, pv xb 0), (5, Av rb p.length p.length), (7, .slice la l.length lc), (20, .slice (some ⟨ob, oo, none⟩) e.ord.length oc), (21, vi e.ord.length), (22, vi k), (26, .slice la l.length lc), (27, vi l.length), (28, vi i)], M,
    [(xb, Cl 45 [.slice fa e.frm.length fc, d, .slice (some ⟨ob, oo, none⟩) e.ord.length oc, n]), (rb, Cl 144 ((Ae2 q l i).map vu))]))
   (fun i => i ≤ l.length) (fun i => l.length - i) 0 rfl (lA8 _) ?env2 (lA0 _) ?_
  case env2 =>
   exact eE
  intro i hi ih
  dsimp only at hi ih ⊢
  repeat' first | refine st ?_ | refine rg ?_ | (refine cX ?_ ?_ <;> intro h <;> try exact Ai h) | exact ⟨⟩ | fail
  ·have aC : i < l.length := by omega
   obtain ⟨wb, wo, rfl, bG⟩ := Sl.at (sz := 1) (enc := ei) (fun _ => rfl) (by decide) aW (by omega)
   have bG := C2 bG
   have jY := bG i aC
   have dt := Er hin aC
   have ff := comB_ok oh hin i hi
   have ih2 := ih (i + 1) (by omega) (by omega)
   simp only [Ae2] at ih2
   generalize Ae2 q l i = q2 at *
   clear ih
   have aT : IntKind.i64.wrap ((i : Int) + 1) = ((i + 1 : Nat) : Int) := w64 (by omega) (by omega)
   repeat' first | refine st ?_ | (refine EV.reg ?_; (conv => (arg 2; whnf)); (repeat first | refine nx ?_ | simp only [aT])) | refine ZF ?_ | (refine xm ?_; (repeat first | refine nx ?_ | simp only [aT])) | fail
   simp only [lC6, Cw]
   refine ⟨i + 1, by simp, by omega, cW, Or.inr rfl, ?_⟩
   obtain ⟨ro, kH, ero⟩ := Sb (wb := wb) (wo := wo) (n := l.length) (c := lc) (i := i + 1) cW
   rw [ero]
   have u9 : (((l.length - (i + 1) : Nat)) : Int) = ((l.length - (i + 1) : Nat) : Int) := rfl
   generalize hm : l.length - (i + 1) = m at *
   refine EV.block ?_
   refine JC (fun j : Nat => ([(0, .slice a p.length c), (3, pv xb 0), (5, Av rb p.length p.length), (7, .slice (some ⟨wb, wo, none⟩) l.length lc), (8, vi i), (9, vi (Ae l i)), (20, .slice (some ⟨ob, oo, none⟩) e.ord.length oc), (21, vi e.ord.length), (22, vi k), (26, .slice (some ⟨wb, wo, none⟩) l.length lc), (27, vi l.length), (28, vi i),
     (36, .slice (some ⟨wb, ro, none⟩) m (lc - (i + 1))), (37, vi m), (38, vi j)], M,
     [(xb, Cl 45 [.slice fa e.frm.length fc, d, .slice (some ⟨ob, oo, none⟩) e.ord.length oc, n]), (rb, Cl 144 ((Aj6 q2 l i j).map vu))]))
    (fun j => j ≤ m) (fun j => m - j) 0 rfl (lA8 _) ?env3 (lA0 _) ?_
   case env3 =>
    exact eE
   intro j hj ih
   dsimp only at hj ih ⊢
   repeat' first | refine st ?_ | refine rg ?_ | (refine cX ?_ ?_ <;> intro h <;> try exact Ai h) | refine ZF ?_ | exact ⟨⟩ | fail
   ·have aN : j < m := by omega
    have ga := kH (by omega)
    subst ga
    have o7 := bG (i + 1 + j) (by omega)
    rw [← lDa] at o7
    have ln := Er hin (k := i + 1 + j) (by omega)
    have ic := comC_ok ff hin i j (by omega)
    have ih3 := ih (j + 1) (by omega) (by omega)
    simp only [Aj6] at ih3
    clear ih
    repeat' first | refine rg ?_ | (refine xm ?_; try refine nx ?_) | exact ⟨⟩ | fail
    refine JM (Gs ic hb dt.1 dt.2 ln.1 ln.2) (JB _ _) ?_
    rintro v M'' G' rfl
    (refine nx ?_; try with_reducible exact ⟨⟩)
    repeat' first | refine su ?_ | refine rg ?_ | exact ⟨⟩ | fail
    refine JD ih3 ?_
    exact eE
   ·have jZ : j = m := by omega
    subst jZ
    refine JD ih2 ?_
    exact eE
  ·have bO : i = l.length := by omega
   subst bO
   refine JD ih1 ?_
   exact eE
 ·have dY : k = e.ord.length := by omega
  subst dY
  clear ih
  repeat' first | fail
  refine JC (fun r : Nat => ([(0, .slice a p.length c), (3, pv xb 0), (5, Av rb p.length p.length), (50, .slice fa e.frm.length fc), (51, vi e.frm.length), (52, vi r)], M,
    [(xb, Cl 45 [.slice fa e.frm.length fc, d, .slice (some ⟨ob, oo, none⟩) e.ord.length oc, n]), (rb, Cl 144 ((P5 p e r).map vu))]))
   (fun r => r ≤ e.frm.length) (fun r => e.frm.length - r) 0 rfl (lA8 _) ?env4 (lA0 _) ?_
  case env4 =>
   exact eE
  intro r hr ih
  dsimp only at hr ih ⊢
  repeat' first | refine st ?_ | refine rg ?_ | (refine cX ?_ ?_ <;> intro h <;> try exact Ai h) | exact ⟨⟩ | fail
  ·have be : r < p.length := by omega
   obtain ⟨pb, po, rfl, hat⟩ := Sl.at (enc := Bh) (fun _ => rfl) (by decide) aH (by omega)
   obtain ⟨fb, fo, rfl, aJ⟩ := Sl.at (sz := 1) (enc := ei) (fun _ => rfl) (by decide) cK (by omega)
   have aw := JJ hat r be
   have tA := aw.pt 1 1 (by omega) rfl
   have bN : rd M fb (fo + r) 1 [vi (Af e r)] := C2 aJ r (by omega)
   obtain ⟨fe, hlo⟩ := hx.fr r be
   obtain ⟨cW, eo, hin, kB⟩ := Se hp hx be
   have bY := hp.loc r be
   obtain ⟨la, lc, aR, _, aW⟩ := bU _ cW
   rw [← eo] at aR aW
   rw [lAw] at aR
   have rX : (evAt p r).op.loc < (e.ord.length : Int) := by omega
   have lp := comD_ok hp hx r (by omega)
   have ih1 := ih (r + 1) (by omega) (by omega)
   simp only [P5] at ih1
   have lr := comD1_ok (e := e) lp be
   have rY : Oi (P5 p e r) e r = if 0 ≤ Af e r then Ni (P5 p e r) (Af e r).toNat r else P5 p e r := rfl
   generalize P5 p e r = q at *
   generalize Ld p e r = l at *
   change Af e r < _ at fe
   clear ih hat aJ eo
   cases hre : (evAt p r).reads with
   | false =>
    rw [if_neg (by rw [hre]; simp)] at ih1
    repeat' first | refine st ?_ | (refine EV.reg ?_; (conv => (arg 2; whnf)); (repeat first | refine nx ?_ | simp only [hre])) | (refine As.call (Cc (evAt p r)) ?_; (repeat first | refine nx ?_ | simp only [hre])) | (refine cX ?_ ?_ <;> intro h <;> try exact Ai h) | refine ZF ?_ | (refine xm ?_; (repeat first | refine nx ?_ | simp only [hre])) | fail
    refine JD ih1 ?_
    exact eE
   | true =>
    rw [if_pos hre] at ih1
    repeat' first | refine ZF ?_ | (refine xm ?_; try refine nx ?_) | exact ⟨⟩ | fail
    refine EV.seq ?_
    refine EV.seq ?_
    repeat' first | refine su ?_ | (refine EV.reg ?_; (conv => (arg 2; whnf)); (repeat first | refine nx ?_ | simp only [hre])) | (refine As.call (Cc (evAt p r)) ?_; (repeat first | refine nx ?_ | simp only [hre])) | (refine cX ?_ ?_ <;> intro h <;> try exact Ai h) | refine ZF ?_ | (refine xm ?_; (repeat first | refine nx ?_ | simp only [hre])) | fail
    refine EV.seq (JH (fun ρ' M' G' => M' = M ∧ (∀ q ∈ [(0, .slice (some ⟨pb, po, none⟩) p.length c), (3, pv xb 0), (5, Av rb p.length p.length), (12, vi r), (13, vi (Af e r)), (50, .slice (some ⟨fb, fo, none⟩) e.frm.length fc), (51, vi e.frm.length), (52, vi r)], get ρ' q.1 = some q.2) ∧
     G' = [(xb, Cl 45 [.slice (some ⟨fb, fo, none⟩) e.frm.length fc, d, .slice (some ⟨ob, oo, none⟩) e.ord.length oc, n]), (rb, Cl 144 ((Oi q e r).map vu))]) ?_ ?_)
    ·intro k' key
     clear ih1
     rw [rY] at key
     repeat' first | refine st ?_ | refine rg ?_ | (refine cX ?_ ?_ <;> intro h <;> try exact Ai h) | exact ⟨⟩ | fail
     ·refine JM (Gs lp hb (by omega) fe (by omega) (by omega)) (JB _ _) ?_
      rintro v M'' G' rfl
      (refine nx ?_; try with_reducible exact ⟨⟩)
      repeat' first | fail
      rw [if_pos (by omega)] at key
      refine JI (key _ _ _ ⟨rfl, ?_, rfl⟩)
      exact eE
     ·rw [if_neg (by omega)] at key
      refine JI (key _ _ _ ⟨rfl, ?_, rfl⟩)
      exact eE
    rintro ρ2 M2 G2 ⟨rfl, hq, rfl⟩
    refine JA ?_ hq (lA0 _)
    clear hq rY
    generalize Oi q e r = q1 at *
    repeat' first | refine st ?_ | ((first | refine EV.reg ?_ | refine EV.any _ (lA0 _) ?_ | fail); (conv => (arg 2; whnf)); refine nx ?_) | refine ZF ?_ | ((first | refine xm ?_ | refine xn ?_ | refine xsA rfl ?_ | fail); try refine nx ?_) | exact ⟨⟩ | fail
    refine JC (fun i : Nat => ([(0, .slice (some ⟨pb, po, none⟩) p.length c), (3, pv xb 0), (5, Av rb p.length p.length), (12, vi r), (13, vi (Af e r)), (14, vb (Sd q1 r (Af e r) l i).2), (50, .slice (some ⟨fb, fo, none⟩) e.frm.length fc), (51, vi e.frm.length), (52, vi r), (80, .slice la l.length lc), (81, vi l.length), (82, vi i)], M2,
      [(xb, Cl 45 [.slice (some ⟨fb, fo, none⟩) e.frm.length fc, d, .slice (some ⟨ob, oo, none⟩) e.ord.length oc, n]), (rb, Cl 144 ((Sd q1 r (Af e r) l i).1.map vu))]))
     (fun i => i ≤ l.length) (fun i => l.length - i) 0 rfl (lA8 _) ?env5 (lA0 _) ?_
    case env5 =>
     exact eE
    intro i hi ih
    dsimp only at hi ih ⊢
    repeat' first | refine st ?_ | refine rg ?_ | (refine cX ?_ ?_ <;> intro h <;> try exact Ai h) | exact ⟨⟩ | fail
    ·have aC : i < l.length := by omega
     obtain ⟨wb, wo, rfl, bG⟩ := Sl.at (sz := 1) (enc := ei) (fun _ => rfl) (by decide) aW (by omega)
     have jY := C2 bG i aC
     have dt := Er hin aC
     have lu := comE_ok (r := r) (fr := Af e r) lr hin i hi
     have ih2 := ih (i + 1) (by omega) (by omega)
     simp only [Sd] at ih2
     generalize Sd q1 r (Af e r) l i = qe at *
     obtain ⟨qe1, qe2⟩ := qe
     dsimp only at lu ih2 ⊢
     clear ih ih1 bG
     repeat' first | refine st ?_ | refine rg ?_ | with_reducible assumption | (refine JE ?_ (fun hc K' hK => ?_) ?_; rotate_left) | (refine cX ?_ ?_ <;> intro h <;> try exact Ai h) | refine ZF ?_ | (refine xm ?_; try refine nx ?_) | exact ⟨⟩ | fail
     ·refine JM (Gs lu hb (by omega) (by omega) dt.1 dt.2) (JB _ _) ?_
      rintro v M'' G' rfl
      (refine nx ?_; try with_reducible exact ⟨⟩)
      rw [if_pos (by simp_all)] at ih2
      repeat' first | refine su ?_ | refine rg ?_ | with_reducible assumption | (refine JE ?_ (fun hc K' hK => ?_) ?_; rotate_left) | exact ⟨⟩ | fail
      refine JD ih2 ?_
      exact eE
     ·rw [if_neg (by grind)] at ih2
      refine JD ih2 ?_
      exact eE
    ·have bO : i = l.length := by omega
     subst bO
     refine JD ih1 ?_
     exact eE
  ·have hre : r = e.frm.length := by omega
   subst hre
   have ae := comD_ok hp hx p.length (lA5 _)
   rw [bA]
   refine JM (Lc ae hb) (JB _ _) ?_
   rintro v M' G' ⟨rfl, rfl⟩
   (refine nx ?_; try with_reducible exact ⟨⟩)
   repeat' first | fail
   refine JD (ρ' := [(4, Av rb p.length p.length)]) (G' := [(rb, Cl 144 ((B8 (P5 p e p.length)).map vu))]) ?_ ?env6
   case env6 =>
    exact eE
   (refine rt Q11_ok ?_; try with_reducible exact ⟨⟩)
   exact ⟨rb, rfl, rfl⟩
end
def D6 (q : Rel) (e : Exec) : Nat → Rel
 | 0 => q
 | r + 1 => if 0 ≤ Af e r then Ni (D6 q e r) (Af e r).toNat r else D6 q e r
def Tw (p : List Ev) (e : Exec) : Rel := B8 (D6 (Ia p e.fen) e p.length)
def Oj (p : List Ev) (e : Exec) : Bool := (List.range p.length).any fun a => (List.range p.length).any fun b => A3 (Gd p e) a b && A3 (Bb7 p e) b a
def Fl (l : List Int) : Nat → Int
 | 0 => -1
 | i + 1 => Ae l i
def Al7 (p : List Ev) (e : Exec) (l : List Int) (i : Nat) : Bool := (evAt p (Ae l i).toNat).reads && decide (Af e (Ae l i).toNat ≠ Fl l i)
def Ie (p : List Ev) (e : Exec) (l : List Int) : Bool := (List.range l.length).any (Al7 p e l)
def Dg (p : List Ev) (e : Exec) : Int :=
 if Bi (Tw p e) then 2 else if Bi (Gd p e) || Oj p e then 3 else if e.ord.any (Ie p e) then 4 else 0
theorem roundGo_ok {p : List Ev} {q : Rel} (hq : RelOk p.length q) {e : Exec} (hx : XOk p e) : ∀ r, r ≤ p.length → RelOk p.length (D6 q e r)
 | 0, _ => hq
 | r + 1, h => by
  simp only [D6]
  split
  ·exact (roundGo_ok hq hx r (by omega)).put _ (by omega)
  ·exact roundGo_ok hq hx r (by omega)
theorem beforeP_ok {p : List Ev} {e : Exec} (hx : XOk p e) : RelOk p.length (Gd p e) := (befGo_ok hx _ (lA5 _)).close
theorem comP_ok {p : List Ev} (hp : POk p) {e : Exec} (hx : XOk p e) : RelOk p.length (Bb7 p e) := (comD_ok hp hx _ (lA5 _)).close
theorem Fu {M : Aa} {G : Own} {α : Type} {b n : Nat} {T : TypeId} {f : α → Value} {xs : List α} [h : At G b T (xs.map f)] (hn : xs.length = n) : rd (M.add G) b 0 n (xs.map f) :=
 B3 h.mem (by rw [lBr, lAx (by rw [lA1]; omega)]) (by rw [lA1]; omega)
theorem Fv {n : Nat} {f : Nat → Bool} (h : ∀ a, a < n → f a = false) : (List.range n).any f = false := by
 simp only [List.any_eq_false, lAn]
 intro a ha; rw [h a ha]; simp
theorem Fb {n : Nat} {f : Nat → Bool} {a : Nat} (ha : a < n) (h : f a = true) : (List.range n).any f = true := by
 simp only [lCc, lAn]; exact ⟨a, ha, h⟩
section
variable {M : Aa}
theorem Ol (p : List Ev) (s : Value) (hs : Sl M 6 Bh s p) (hp : POk p) (e : Exec) (v : Value) (hv : IsX M v e) (hx : XOk p e) :
  As Tryz.prog 83 #[s, v] M (vi (Dg p e)) := by
 have aK := hs
 have eP := hv
 have hb := hp.len
 obtain ⟨a, c, rfl, aH⟩ := hs
 obtain ⟨f, d, o, n, rfl, hf, hd, ho, hn⟩ := hv
 have fT := hn
 obtain ⟨fa, fc, rfl, cK⟩ := hf
 obtain ⟨oa, oc, ovs, rfl, bC, bW, bo⟩ := ho
 have bA := hx.fl
 have g8 := hx.ol
 have bJ := hx.fin.2
 obtain ⟨ob, oo, rfl, bU⟩ := D4.at bW bC bo (by omega)
 refine Con.enter Q10_ok (args := [.slice a p.length c, .agg #[.slice fa e.frm.length fc, d, .slice (some ⟨ob, oo, none⟩) e.ord.length oc, n]]) (by simp [Q10]) fun w0 => ?_
 simp only [Q10, A9]
 repeat' first | refine st ?_ | refine rg ?_ | ((first | with_reducible intro b | refine xrA rfl ?_ | fail); try refine nx ?_) | exact ⟨⟩ | fail
 rename Nat => xb
 refine Con.callB (G1 := []) (Qw p _ (aK.mono (JB _ _)) hb _ _ _ _ e.fen (fT.mono (JB _ _)) hx.fin.1 (by omega)) (Aa.le_refl _) (lAe _) ?_
 rintro v M' G' ⟨rb, rfl, rfl⟩
 (refine nx ?_; try with_reducible exact ⟨⟩)
 repeat' first | refine st ?_ | refine rg ?_ | (refine xsA rfl ?_; try refine nx ?_) | exact ⟨⟩ | fail
 refine JC (fun r : Nat => ([(0, .slice a p.length c), (3, pv xb 0), (5, Av rb p.length p.length), (21, .slice fa e.frm.length fc), (22, vi e.frm.length), (23, vi r)], M,
   [(xb, Cl 45 [.slice fa e.frm.length fc, d, .slice (some ⟨ob, oo, none⟩) e.ord.length oc, n]), (rb, Cl 144 ((D6 (Ia p e.fen) e r).map vu))]))
  (fun r => r ≤ e.frm.length) (fun r => e.frm.length - r) 0 rfl (lA8 _) ?env1 (lA0 _) ?_
 case env1 =>
  exact eE
 intro r hr ih
 dsimp only at hr ih ⊢
 have ig := roundGo_ok (stepsP_ok hx.fin.1) hx r (by omega)
 repeat' first | refine st ?_ | refine rg ?_ | (refine cX ?_ ?_ <;> intro h <;> try exact Ai h) | exact ⟨⟩ | fail
 ·have be : r < p.length := by omega
  obtain ⟨fb, fo, rfl, aJ⟩ := Sl.at (sz := 1) (enc := ei) (fun _ => rfl) (by decide) cK (by omega)
  have bN : rd M fb (fo + r) 1 [vi (Af e r)] := C2 aJ r (by omega)
  obtain ⟨fe, hlo⟩ := hx.fr r be
  change Af e r < _ at fe
  have ih1 := ih (r + 1) (by omega) (by omega)
  simp only [D6] at ih1
  generalize D6 (Ia p e.fen) e r = q at *
  clear ih aJ
  repeat' first | refine st ?_ | refine rg ?_ | (refine cX ?_ ?_ <;> intro h <;> try exact Ai h) | refine ZF ?_ | (refine xm ?_; try refine nx ?_) | exact ⟨⟩ | fail
  ·refine JM (Gs ig hb (by omega) fe (by omega) (by omega)) (JB _ _) ?_
   rintro v M'' G' rfl
   (refine nx ?_; try with_reducible exact ⟨⟩)
   rw [if_pos (by omega)] at ih1
   repeat' first | refine su ?_ | refine rg ?_ | exact ⟨⟩ | fail
   refine JD ih1 ?_
   exact eE
  ·rw [if_neg (by omega)] at ih1
   refine JD ih1 ?_
   exact eE
 ·have hre : r = p.length := by omega
  subst hre
  clear ih
  refine JM (Lc ig hb) (JB _ _) ?_
  rintro v M' G' ⟨rfl, rfl⟩
  (refine nx ?_; try with_reducible exact ⟨⟩)
  have kI : RelOk p.length (Tw p e) := ig.close
  rw [show B8 (D6 (Ia p e.fen) e p.length) = Tw p e from rfl]
  repeat' first | refine st ?_ | refine rg ?_ | (refine As.call (Of kI hb (Fu (f := vu) kI.len)) ?_; try refine nx ?_) | (refine cX ?_ ?_ <;> intro h <;> try exact Ai h) | exact ⟨⟩ | fail
  ·(refine rt Q10_ok ?_; try with_reducible exact ⟨⟩)
   rw [Dg, if_pos (by assumption)]
  have eQ : Dg p e = if Bi (Gd p e) || Oj p e then 3 else if e.ord.any (Ie p e) then 4 else 0 := by rw [Dg, if_neg (by simp_all)]
  rw [eQ]
  refine JD (ρ' := [(0, .slice a p.length c), (3, pv xb 0)]) (G' := [(xb, Cl 45 [.slice fa e.frm.length fc, d, .slice (some ⟨ob, oo, none⟩) e.ord.length oc, n])]) ?_ ?env2
  case env2 =>
   exact eE
  clear kI ig eQ
  refine EV.any (t := Ac2) _ (lA0 _) ?_
  (repeat first | refine nx ?_ | simp only [Ac2])
  repeat' first | (refine xrA rfl ?_; try refine nx ?_) | exact ⟨⟩ | fail
  refine Con.callB (G1 := []) (V4 p _ (aK.mono (JB _ _)) hp e _ (eP.mono (JB _ _)) hx) (Aa.le_refl _) (lAe _) ?_
  rintro v M1 G1 ⟨gF, rfl, rfl⟩
  (refine nx ?_; try with_reducible exact ⟨⟩)
  repeat' first | (refine lAd (Aa.le_refl _) (lAd (Ay ?_) ?_); focus ((repeat' first | exact lA0 _ | exact lAh _ | exact lAj _ _ | refine lAf _ ?_ | refine lAo ?_ _ | refine lAb ?_ | refine lAp _ ?_); done); try refine nx ?_) | exact ⟨⟩ | fail
  refine Con.callB (G1 := []) (Al6 p _ (aK.mono (JB _ _)) hp e _ (eP.mono (JB _ _)) hx) (Aa.le_refl _) (lAe _) ?_
  rintro v M2 G2 ⟨cb, rfl, rfl⟩
  (refine nx ?_; try with_reducible exact ⟨⟩)
  have ff := beforeP_ok hx
  have ic := comP_ok hp hx
  have fK : Oj p e = (List.range p.length).any fun a => (List.range p.length).any fun b => A3 (Gd p e) a b && A3 (Bb7 p e) b a := rfl
  generalize Gd p e = j0 at *
  generalize Bb7 p e = coR at *
  repeat' first | refine st ?_ | refine rg ?_ | (refine As.call (Of ff hb (Fu (f := vu) ff.len)) ?_; try refine nx ?_) | (refine cX ?_ ?_ <;> intro h <;> try exact Ai h) | exact ⟨⟩ | fail
  ·(refine rt Q10_ok ?_; try with_reducible exact ⟨⟩)
   rw [if_pos (by simp_all)]
  have kJ : Bi (j0) = false := by simp_all
  refine JC (fun x : Nat => ([(0, .slice a p.length c), (3, pv xb 0), (8, Av gF p.length p.length), (9, Av cb p.length p.length), (47, vi p.length), (48, vi x)], M,
    [(xb, Cl 45 [.slice fa e.frm.length fc, d, .slice (some ⟨ob, oo, none⟩) e.ord.length oc, n]), (gF, Cl 144 ((j0).map vu)), (cb, Cl 144 ((coR).map vu))]))
   (fun x => x ≤ p.length ∧ ∀ x', x' < x → ((List.range p.length).any fun y => A3 (j0) x' y && A3 (coR) y x') = false) (fun x => p.length - x) 0 rfl ⟨lA8 _, fun _ h => absurd h (lBy _)⟩ ?env3 (lA0 _) ?_
  case env3 =>
   exact eE
  rintro x ⟨dG, aP⟩ ih
  dsimp only at dG aP ih ⊢
  repeat' first | refine st ?_ | refine rg ?_ | (refine cX ?_ ?_ <;> intro h <;> try exact Ai h) | (refine xsA rfl ?_; try refine nx ?_) | exact ⟨⟩ | fail
  ·have eN : x < p.length := by omega
   refine JC (fun y : Nat => ([(0, .slice a p.length c), (3, pv xb 0), (8, Av gF p.length p.length), (9, Av cb p.length p.length), (10, vi x), (47, vi p.length), (48, vi x), (52, vi p.length), (53, vi y)], M,
     [(xb, Cl 45 [.slice fa e.frm.length fc, d, .slice (some ⟨ob, oo, none⟩) e.ord.length oc, n]), (gF, Cl 144 ((j0).map vu)), (cb, Cl 144 ((coR).map vu))]))
    (fun y => y ≤ p.length ∧ ∀ y', y' < y → (A3 (j0) x y' && A3 (coR) y' x) = false) (fun y => p.length - y) 0 rfl ⟨lA8 _, fun _ h => absurd h (lBy _)⟩ ?env4 (lA0 _) ?_
   case env4 =>
    exact eE
   rintro y ⟨tB, cn⟩ ih2
   dsimp only at tB cn ih2 ⊢
   repeat' first | refine st ?_ | refine rg ?_ | (refine cX ?_ ?_ <;> intro h <;> try exact Ai h) | exact ⟨⟩ | fail
   ·have om : y < p.length := by omega
    obtain ⟨fg, eb1⟩ := ff.get eN
    obtain ⟨aO, ec1⟩ := ic.get om
    have cz := ff.at hb x
    have kK := ic.at hb y
    have cL : (A3 (j0) x y && A3 (coR) y x) = ((j0)[x].testBit y && (coR)[y].testBit x) := by simp only [A3, eb1, ec1]
    rw [eb1] at cz
    rw [ec1] at kK
    have ih3 := ih2 (y + 1)
    clear ih ih2
    repeat' first | fail
    refine As.call (Nm (j := y) (Cd (f := vu) fg) eN (by omega) (by omega) cz) ?_
    (refine nx ?_; try with_reducible exact ⟨⟩)
    have next : (j0[x].testBit y && coR[y].testBit x) = false → _ := fun tC => ih3 ⟨by omega, fun y' dQ => by
     by_cases e1 : y' = y
     ·subst e1; rw [cL]; exact tC
     ·exact cn y' (by omega)⟩ (by omega)
    repeat' first | refine st ?_ | refine rg ?_ | (refine A5.intro (fun hc => ?_) (fun hc => ?_) <;> try simp only [ne_eq, lBj, lBl, not_true_eq_false, not_false_eq_true, reduceCtorEq] at hc <;> try (exfalso; first | exact hc | omega | (simp at hc; done))) | (refine cX ?_ ?_ <;> intro h <;> try exact Ai h) | exact ⟨⟩ | fail
    all_goals try (exfalso; exact hc h; done)
    ·refine As.call (Nm (j := x) (Cd (f := vu) aO) om (by omega) (by omega) kK) ?_
     (refine nx ?_; try with_reducible exact ⟨⟩)
     repeat' first | refine st ?_ | refine rg ?_ | (refine cX ?_ ?_ <;> intro h <;> try exact Ai h) | exact ⟨⟩ | fail
     ·(refine rt Q10_ok ?_; try with_reducible exact ⟨⟩)
      have ot : Oj p e = true := fK ▸ Fb eN (Fb om (by rw [cL]; simp_all))
      rw [if_pos (by rw [ot]; simp)]
     ·refine JD (next (by grind)) ?_
      exact eE
    ·refine JD (next (by grind)) ?_
     exact eE
   ·refine JD (ih (x + 1) ⟨by omega, fun x' bi => ?_⟩ (by omega)) ?_
    ·by_cases e1 : x' = x
     ·subst e1; exact Fv fun y' dQ => cn y' (by omega)
     ·exact aP x' (by omega)
    ·exact eE
  ·have ot : Oj p e = false := fK ▸ Fv fun x' bi => aP x' (by omega)
   rw [kJ, ot]
   simp only [Bool.or_self, lC5, if_false]
   clear ih
   refine JC (fun k : Nat => ([(0, .slice a p.length c), (3, pv xb 0), (69, .slice (some ⟨ob, oo, none⟩) e.ord.length oc), (70, vi e.ord.length), (71, vi k)], M,
     [(xb, Cl 45 [.slice fa e.frm.length fc, d, .slice (some ⟨ob, oo, none⟩) e.ord.length oc, n])]))
    (fun k => k ≤ e.ord.length ∧ (e.ord.take k).any (Ie p e) = false) (fun k => e.ord.length - k) 0 rfl ⟨lA8 _, by simp⟩ ?env5 (by simp) ?_
   case env5 =>
    exact eE
   rintro k ⟨hk, aP⟩ ih
   dsimp only at hk aP ih ⊢
   repeat' first | refine st ?_ | refine rg ?_ | (refine cX ?_ ?_ <;> intro h <;> try exact Ai h) | refine ZF ?_ | exact ⟨⟩ | fail
   ·have ak : k < e.ord.length := by omega
    obtain ⟨la, lc, aR, cW, aW⟩ := bU k ak
    rw [lAw] at aR
    obtain ⟨hin, kB⟩ := hx.oin _ (lAm ak)
    have aI := lAm ak
    have fh : (e.ord.take (k + 1)).any (Ie p e) = Ie p e e.ord[k] := by
     rw [lA7 ak, List.any_append, aP]; simp
    have ih1 := ih (k + 1)
    rw [fh] at ih1
    generalize e.ord[k] = l at *
    clear ih fh
    repeat' first | refine st ?_ | refine rg ?_ | (refine xn ?_; try refine nx ?_) | exact ⟨⟩ | fail
    refine JC (fun i : Nat => ([(0, .slice a p.length c), (3, pv xb 0), (13, .slice la l.length lc), (14, vi (Fl l i)), (69, .slice (some ⟨ob, oo, none⟩) e.ord.length oc), (70, vi e.ord.length), (71, vi k), (75, .slice la l.length lc), (76, vi l.length), (77, vi i)], M,
      [(xb, Cl 45 [.slice fa e.frm.length fc, d, .slice (some ⟨ob, oo, none⟩) e.ord.length oc, n])]))
     (fun i => i ≤ l.length ∧ ∀ i', i' < i → Al7 p e l i' = false) (fun i => l.length - i) 0 rfl ⟨lA8 _, fun _ h => absurd h (lBy _)⟩ ?env6 (lA0 _) ?_
    case env6 =>
     exact eE
    rintro i ⟨hi, cn⟩ ih2
    dsimp only at hi cn ih2 ⊢
    repeat' first | refine st ?_ | refine rg ?_ | (refine cX ?_ ?_ <;> intro h <;> try exact Ai h) | exact ⟨⟩ | fail
    ·have aC : i < l.length := by omega
     obtain ⟨wb, wo, rfl, bG⟩ := Sl.at (sz := 1) (enc := ei) (fun _ => rfl) (by decide) aW (by omega)
     have jY := C2 bG i aC
     have dt := Er hin aC
     obtain ⟨pb, po, rfl, hat⟩ := Sl.at (enc := Bh) (fun _ => rfl) (by decide) aH (by omega)
     obtain ⟨fb, fo, rfl, aJ⟩ := Sl.at (sz := 1) (enc := ei) (fun _ => rfl) (by decide) cK (by omega)
     have kD := JJ hat (Ae l i).toNat (by omega)
     have ni : rd M fb (fo + (Ae l i).toNat) 1 [vi (Af e (Ae l i).toNat)] := C2 aJ _ (by omega)
     have gb : Ae l i < (e.frm.length : Int) := by omega
     have ng : Al7 p e l i = ((evAt p (Ae l i).toNat).reads && decide (Af e (Ae l i).toNat ≠ Fl l i)) := rfl
     have ih3 := ih2 (i + 1)
     simp only [Fl] at ih3
     clear ih2 bG hat aJ
     repeat' first | refine st ?_ | refine rg ?_ | (refine As.call (Cc (evAt p (Ae l i).toNat)) ?_; try refine nx ?_) | with_reducible assumption | (refine JE ?_ (fun hc K' hK => ?_) ?_; rotate_left) | (refine cX ?_ ?_ <;> intro h <;> try exact Ai h) | refine ZF ?_ | ((first | refine xm ?_ | refine xsA rfl ?_ | fail); try refine nx ?_) | exact ⟨⟩ | fail
     ·(refine rt Q10_ok ?_; try with_reducible exact ⟨⟩)
      have j4 : Ie p e l = true := Fb aC (by rw [ng]; simp_all)
      rw [if_pos (lCc.2 ⟨l, aI, j4⟩)]
     ·refine JD (ih3 ⟨by omega, fun i' bT => ?_⟩ (by omega)) ?_
      ·by_cases e1 : i' = i
       ·subst e1; rw [ng]; grind
       ·exact cn i' (by omega)
      ·exact eE
    ·refine JD (ih1 ⟨by omega, Fv fun i' bT => cn i' (by omega)⟩ (by omega)) ?_
     exact eE
   ·have dY : k = e.ord.length := by omega
    subst dY
    rw [lB1] at aP
    (refine rt Q10_ok ?_; try with_reducible exact ⟨⟩)
    rw [aP]; rfl
end
def Ig (p : List Ev) (e : Exec) (i : Nat) : Bool :=
 (decide ((evAt p i).op.kind = 3) && xor (e.dn[i]?.getD false) (decide ((Aw p e.frm).r[i]?.getD 0 = (evAt p i).op.v))) ||
 (decide ((evAt p i).op.kind = 4) && (e.dn[i]?.getD false) && decide ((Aw p e.frm).r[i]?.getD 0 ≠ (evAt p i).op.v))
def D7 (p : List Ev) (e : Exec) : Bool := !((List.range p.length).any (Ig p e)) && decide (Dg p e = 0)
section
variable {M : Aa}
theorem Sf (p : List Ev) (s : Value) (hs : Sl M 6 Bh s p) (hp : POk p) (e : Exec) (v : Value) (hv : IsX M v e) (hx : XOk p e) :
  As Tryz.prog 81 #[s, v] M (vb (D7 p e)) := by
 have aK := hs
 have eP := hv
 have hb := hp.len
 obtain ⟨a, c, rfl, aH⟩ := hs
 obtain ⟨f, d, o, n, rfl, hf, hd, ho, hn⟩ := hv
 have d9 := hf
 obtain ⟨da, dc, rfl, lm⟩ := hd
 have bF := hx.dl
 refine Con.enter Q31_ok (args := [.slice a p.length c, .agg #[f, .slice da e.dn.length dc, o, n]]) (by simp [Q31]) fun w0 => ?_
 simp only [Q31, A9]
 repeat' first | refine st ?_ | refine rg ?_ | ((first | with_reducible intro b | refine xrA rfl ?_ | fail); try refine nx ?_) | exact ⟨⟩ | fail
 rename Nat => xb
 refine Con.callS (G1 := []) (Qt p _ aK (by omega) e.frm _ _ _ _ d9 hx.fromOk) ?_
 rintro v M1 G1 bw ⟨rv, wv, kv, rfl, hr, -, -⟩
 obtain ⟨ra, rc, rfl, dZ⟩ := hr
 have e8 : (Aw p e.frm).r.length = p.length := (Fe p e.frm _).r
 (refine nx ?_; try with_reducible exact ⟨⟩)
 repeat' first | refine st ?_ | refine rg ?_ | exact ⟨⟩ | fail
 refine JD (ρ' := [(0, .slice a p.length c), (3, pv xb 0), (5, .slice ra (Aw p e.frm).r.length rc), (17, .slice a p.length c), (18, vi p.length), (19, vi (0 : Nat))]) (G' := [(xb, Cl 45 [f, .slice da e.dn.length dc, o, n])]) ?_ ?env0
 case env0 =>
  exact eE
 refine JC (fun i : Nat => ([(0, .slice a p.length c), (3, pv xb 0), (5, .slice ra (Aw p e.frm).r.length rc), (17, .slice a p.length c), (18, vi p.length), (19, vi i)], M1, [(xb, Cl 45 [f, .slice da e.dn.length dc, o, n])]))
  (fun i => i ≤ p.length ∧ ∀ i', i' < i → Ig p e i' = false) (fun i => p.length - i) 0 rfl ⟨lA8 _, fun _ h => absurd h (lBy _)⟩ ?env1 (lA0 _) ?_
 case env1 =>
  exact eE
 rintro i ⟨hi, aP⟩ ih
 dsimp only at hi aP ih ⊢
 repeat' first | refine st ?_ | refine rg ?_ | (refine cX ?_ ?_ <;> intro h <;> try exact Ai h) | (refine xrA rfl ?_; try refine nx ?_) | exact ⟨⟩ | fail
 ·have aC : i < p.length := by omega
  obtain ⟨pb, po, rfl, hat⟩ := Sl.at (enc := Bh) (fun _ => rfl) (by decide) aH (by omega)
  obtain ⟨db, do', rfl, gd⟩ := Sl.at (sz := 1) (enc := eb) (fun _ => rfl) (by decide) lm (by omega)
  obtain ⟨rb, ro, rfl, fi⟩ := Sl.at (sz := 1) (enc := ei) (fun _ => rfl) (by decide) dZ (by omega)
  have i8 := (JJ hat i aC).mono bw
  have rZ : rd M1 db (do' + i) 1 [vb (e.dn[i]?.getD false)] := by
   have := (gd i (by omega)).mono bw
   rw [lAw] at this
   rwa [lA2 (by omega : i < e.dn.length)]
  have gZ : rd M1 rb (ro + i) 1 [vi ((Aw p e.frm).r[i]?.getD 0)] := C2 fi i (by omega)
  have tD : (i : Int) < e.dn.length := by omega
  have r6 : (i : Int) < (Aw p e.frm).r.length := by omega
  have ii : Ig p e i = ((decide ((evAt p i).op.kind = 3) && xor (e.dn[i]?.getD false) (decide ((Aw p e.frm).r[i]?.getD 0 = (evAt p i).op.v))) ||
   (decide ((evAt p i).op.kind = 4) && (e.dn[i]?.getD false) && decide ((Aw p e.frm).r[i]?.getD 0 ≠ (evAt p i).op.v))) := rfl
  have ih3 := ih (i + 1)
  have hpos : Ig p e i = true → D7 p e = false := fun h => by
   rw [D7, Fb aC h]; rfl
  clear ih hat gd fi
  repeat' first | refine st ?_ | ((first | refine EV.reg ?_ | refine EV.any _ (lA0 _) ?_ | fail); (conv => (arg 2; whnf)); refine nx ?_) | (refine JT ?_ (fun hc => ?_) ?_; rotate_left; (try simp only [decide_eq_true_eq, decide_eq_false_iff_not, lB8, lCd, lA6, lAq, lBm, lBn] at hc)) | (with_reducible rfl) | (refine cX ?_ ?_ <;> intro h <;> try exact Ai h) | (with_reducible intro b; try refine nx ?_) | refine ZF ?_ | ((first | refine xm ?_ | refine xiA rfl ?_ | refine xsA rfl ?_ | fail); try refine nx ?_) | (refine xw ?_; refine nx ?_) | exact ⟨⟩ | fail
  ·have hw : Ig p e i = true := by rw [ii]; simp_all
   (refine rt Q31_ok ?_; try with_reducible exact ⟨⟩)
   rw [hpos hw]
  ·have hw : Ig p e i = false := by rw [ii]; grind
   refine JD (ih3 ⟨by omega, fun i' bT => ?_⟩ (by omega)) ?_
   ·by_cases e1 : i' = i
    ·subst e1; exact hw
    ·exact aP i' (by omega)
   ·exact eE
 ·have bO : i = p.length := by omega
  subst bO
  have tE : D7 p e = decide (Dg p e = 0) := by rw [D7, Fv aP]; rfl
  repeat' first | (refine As.call (Ol p _ (aK.mono (Aa.le_trans bw (JB _ _))) hp e _ (eP.mono (Aa.le_trans bw (JB _ _))) hx) ?_; try refine nx ?_) | exact ⟨⟩ | fail
  (refine rt Q31_ok ?_; try with_reducible exact ⟨⟩)
  rw [tE]
end
theorem Xh {H : Aa} {n : Nat} {cs : List Value} (h : rdS H 1 none n cs) : n = 0 ∧ cs = [] := by
 rcases h with ⟨h0, rfl⟩ | ⟨b, off, e, _⟩
 ·exact ⟨by omega, rfl⟩
 ·cases e
section
variable {M : Aa}
theorem Gt (xs : List Int) (s : Value) (hs : Sl M 1 ei s xs) (hb : xs.length < 1000000) : Con Tryz.prog 113 #[s] M [] (Cv7 xs) := by
 obtain ⟨a, c, rfl, aH⟩ := hs
 rw [Ax] at aH
 refine Con.enter Q107_ok (args := [.slice a xs.length c]) (by simp [Cy1]) fun w0 => ?_
 simp only [Cy1, A9]
 cases a with
 | none =>
  obtain ⟨h0, dV⟩ := Xh aH
  repeat' first | refine st ?_ | (refine EV.reg ?_; (conv => (arg 2; whnf)); (repeat first | refine nx ?_ | simp only [Option.isNone_none])) | (refine cX ?_ ?_ <;> intro h <;> try exact Ai h) | fail
  (refine rt Q107_ok ?_; try with_reducible exact ⟨⟩)
  exact ⟨none, by rw [h0]; rfl, ⟨h0, dV⟩, rfl⟩
 | some ad =>
  repeat' first | refine st ?_ | (refine EV.reg ?_; (conv => (arg 2; whnf)); (repeat first | refine nx ?_ | simp only [lEv])) | (refine cX ?_ ?_ <;> intro h <;> try exact Ai h) | (with_reducible intro b; (repeat first | refine nx ?_ | simp only [lEv])) | fail
  refine ⟨xs.map vi, aH.mono (JB _ _), Xf xs, Or.inl ⟨some (b, 0, []), 0, rfl, [], ⟨rfl, rfl, lA5 _, by decide⟩, [], by simp [osg], ?_, ?_, ?_⟩⟩
  ·simp only [maxLen]; omega
  ·omega
  intro o' bD _
  (refine nx ?_; try with_reducible exact ⟨⟩)
  repeat' first | fail
  rw [lBg] at bD
  rw [lAg] at bD
  (refine rt Q107_ok ?_; try with_reducible exact ⟨⟩)
  exact ⟨o', rfl, bD, rfl⟩
def Fd9 (xs : List Bool) (v : Value) (_ : Aa) (G' : Own) : Prop := ∃ ov : Vec, v = osv ov xs.length ∧ Eo 1 ov xs.length (xs.map vb) ∧ G' = osg 4 ov (xs.map vb)
theorem V5 (xs : List Bool) (s : Value) (hs : Sl M 1 eb s xs) (hb : xs.length < 1000000) : Con Tryz.prog 124 #[s] M [] (Fd9 xs) := by
 obtain ⟨a, c, rfl, aH⟩ := hs
 rw [Eh] at aH
 refine Con.enter Q106_ok (args := [.slice a xs.length c]) (by simp [Cy6]) fun w0 => ?_
 simp only [Cy6, A9]
 cases a with
 | none =>
  obtain ⟨h0, dV⟩ := Xh aH
  repeat' first | refine st ?_ | (refine EV.reg ?_; (conv => (arg 2; whnf)); (repeat first | refine nx ?_ | simp only [Option.isNone_none])) | (refine cX ?_ ?_ <;> intro h <;> try exact Ai h) | fail
  (refine rt Q106_ok ?_; try with_reducible exact ⟨⟩)
  exact ⟨none, by rw [h0]; rfl, ⟨h0, dV⟩, rfl⟩
 | some ad =>
  repeat' first | refine st ?_ | (refine EV.reg ?_; (conv => (arg 2; whnf)); (repeat first | refine nx ?_ | simp only [lEv])) | (refine cX ?_ ?_ <;> intro h <;> try exact Ai h) | (with_reducible intro b; (repeat first | refine nx ?_ | simp only [lEv])) | fail
  refine ⟨xs.map vb, aH.mono (JB _ _), Aq4 xs, Or.inl ⟨some (b, 0, []), 0, rfl, [], ⟨rfl, rfl, lA5 _, by decide⟩, [], by simp [osg], ?_, ?_, ?_⟩⟩
  ·simp only [maxLen]; omega
  ·omega
  intro o' bD _
  (refine nx ?_; try with_reducible exact ⟨⟩)
  repeat' first | fail
  rw [lBg] at bD
  rw [lAg] at bD
  (refine rt Q106_ok ?_; try with_reducible exact ⟨⟩)
  exact ⟨o', rfl, bD, rfl⟩
theorem Ae3 (a : Option Addr) (n c : Nat) (hc : n ≤ c) : As Tryz.prog 119 #[.slice a n c] M (.slice a n n) := by
 refine Con.enter Q105_ok (args := [.slice a n c]) (by simp [Cy4]) fun w0 => ?_
 simp only [Cy4, A9]
 repeat' first | refine st ?_ | refine rg ?_ | exact ⟨⟩ | fail
 simp only [lC6, Cw]
 refine ⟨n, rfl, n, rfl, lA5 _, hc, Or.inl rfl, ?_⟩
 have e : (if n = 0 then a else a.map fun x => x.add 0) = a := by
  split
  ·rfl
  ·cases a <;> simp [Addr.add]
 rw [e]
 (refine rt Q105_ok ?_; try with_reducible exact ⟨⟩)
def Ge (f : Int → Bool) (xs : List Int) : Int := if h : (xs.findIdx f) < xs.length then xs.findIdx f else -1
theorem P6 (xs : List Int) (s : Value) (hs : Sl M 1 ei s xs) (hb : xs.length < 1000000) (g : Nat) (caps : Array Value) (f : Int → Bool)
  (hf : ∀ M', M.le M' → ∀ x ∈ xs, As Tryz.prog g (#[vi x] ++ caps) M' (vb (f x))) : As Tryz.prog 140 #[s, .func (.func g) #[] caps] M (vi (Ge f xs)) := by
 obtain ⟨a, c, rfl, aH⟩ := hs
 refine Con.enter Q114_ok (args := [.slice a xs.length c, .func (.func g) #[] caps]) (by simp [Cy8]) fun w0 => ?_
 simp only [Cy8, A9]
 repeat' first | refine st ?_ | refine rg ?_ | exact ⟨⟩ | fail
 refine JC (fun i : Nat => ([(0, .slice a xs.length c), (1, .func (.func g) #[] caps), (7, vi xs.length), (8, vi i)], M, [])) (fun i => i ≤ xs.length ∧ ∀ j (h : j < xs.length), j < i → f xs[j] = false) (fun i => xs.length - i) 0 rfl ⟨lA8 _, fun j _ h => absurd h (lBy _)⟩ ?env1 (lA0 _) ?_
 case env1 =>
  exact eE
 rintro i ⟨hi, aP⟩ ih
 dsimp only at hi aP ih ⊢
 repeat' first | refine st ?_ | refine rg ?_ | (refine cX ?_ ?_ <;> intro h <;> try exact Ai h) | exact ⟨⟩ | fail
 ·have aC : i < xs.length := by omega
  obtain ⟨wb, wo, rfl, hat⟩ := Sl.at (sz := 1) (enc := ei) (fun _ => rfl) (by decide) aH (by omega)
  have gZ := hat i aC
  rw [lAw] at gZ
  repeat' first | refine st ?_ | refine rg ?_ | (refine As.call (hf _ (JB _ _) xs[i] (lAm aC)) ?_; try refine nx ?_) | (refine cX ?_ ?_ <;> intro h <;> try exact Ai h) | refine ZF ?_ | (refine xm ?_; try refine nx ?_) | exact ⟨⟩ | fail
  ·(refine rt Q114_ok ?_; try with_reducible exact ⟨⟩)
   have e : xs.findIdx f = i := by
    rw [List.findIdx_eq aC]
    exact ⟨by assumption, fun j hj => aP j (by omega) hj⟩
   rw [Ge, dif_pos (by omega), e]
  ·refine JA (ih (i + 1) ⟨by omega, fun j hj ay => ?_⟩ (by omega)) ?_ (lA0 _)
   ·by_cases e : j = i
    ·subst e; assumption
    ·exact aP j hj (by omega)
   ·exact eE
 ·(refine rt Q114_ok ?_; try with_reducible exact ⟨⟩)
  have e : xs.findIdx f = xs.length := by
   rw [List.findIdx_eq_length]
   intro x hx
   obtain ⟨j, hj, rfl⟩ := lBf hx
   exact aP j hj (by omega)
  rw [Ge, dif_neg (by omega)]
theorem Lf (xs : List Int) (s : Value) (hs : Sl M 1 ei s xs) (hb : xs.length < 1000000) (g : Nat) (caps : Array Value) (f : Int → Bool)
  (hf : ∀ M', M.le M' → ∀ x ∈ xs, As Tryz.prog g (#[vi x] ++ caps) M' (vb (f x))) : As Tryz.prog 117 #[s, .func (.func g) #[] caps] M (vb (xs.any f)) := by
 have aK := hs
 obtain ⟨a, c, rfl, aH⟩ := hs
 refine Con.enter Q111_ok (args := [.slice a xs.length c, .func (.func g) #[] caps]) (by simp [Cy3]) fun w0 => ?_
 simp only [Cy3, A9]
 repeat' first | refine st ?_ | refine rg ?_ | (refine As.call (P6 xs _ (aK.mono (JB _ _)) hb g caps f (fun M' ax => hf M' (Aa.le_trans (JB _ _) ax))) ?_; try refine nx ?_) | refine rt Q111_ok ?_ | exact ⟨⟩ | fail
 have e : decide (0 ≤ Ge f xs) = xs.any f := by
  rw [lEw, decide_eq_true_iff, lCc, Ge]
  constructor
  ·intro h
   split at h
   ·rename_i h2; exact lEy.1 h2
   ·omega
  ·intro h
   rw [dif_pos (lEy.2 h)]; omega
 first | rw [← e] | (rw [← e]; simp)
theorem Yv (xs : List Int) (s : Value) (hs : Sl M 1 ei s xs) (hb : xs.length < 1000000) (x : Int) : As Tryz.prog 114 #[s, vi x] M (vi (Ge (fun y => decide (x = y)) xs)) := by
 obtain ⟨a, c, rfl, aH⟩ := hs
 refine Con.enter Q115_ok (args := [.slice a xs.length c, vi x]) (by simp [Cy2]) fun w0 => ?_
 simp only [Cy2, A9]
 repeat' first | refine st ?_ | refine rg ?_ | exact ⟨⟩ | fail
 refine JC (fun i : Nat => ([(0, .slice a xs.length c), (1, vi x), (7, vi xs.length), (8, vi i)], M, [])) (fun i => i ≤ xs.length ∧ ∀ j (h : j < xs.length), j < i → decide (x = xs[j]) = false) (fun i => xs.length - i) 0 rfl ⟨lA8 _, fun j _ h => absurd h (lBy _)⟩ ?env1 (lA0 _) ?_
 case env1 =>
  exact eE
 rintro i ⟨hi, aP⟩ ih
 dsimp only at hi aP ih ⊢
 repeat' first | refine st ?_ | refine rg ?_ | (refine cX ?_ ?_ <;> intro h <;> try exact Ai h) | exact ⟨⟩ | fail
 ·have aC : i < xs.length := by omega
  obtain ⟨wb, wo, rfl, hat⟩ := Sl.at (sz := 1) (enc := ei) (fun _ => rfl) (by decide) aH (by omega)
  have gZ := hat i aC
  rw [lAw] at gZ
  repeat' first | refine st ?_ | refine rg ?_ | (refine cX ?_ ?_ <;> intro h <;> try exact Ai h) | refine ZF ?_ | (refine xm ?_; try refine nx ?_) | exact ⟨⟩ | fail
  ·(refine rt Q115_ok ?_; try with_reducible exact ⟨⟩)
   have e : xs.findIdx (fun y => decide (x = y)) = i := by
    rw [List.findIdx_eq aC]
    exact ⟨by simpa using by assumption, fun j hj => aP j (by omega) hj⟩
   rw [Ge, dif_pos (by omega), e]
  ·refine JA (ih (i + 1) ⟨by omega, fun j hj ay => ?_⟩ (by omega)) ?_ (lA0 _)
   ·by_cases e : j = i
    ·subst e; simpa using by assumption
    ·exact aP j hj (by omega)
   ·exact eE
 ·(refine rt Q115_ok ?_; try with_reducible exact ⟨⟩)
  have e : xs.findIdx (fun y => decide (x = y)) = xs.length := by
   rw [List.findIdx_eq_length]
   intro y hy
   obtain ⟨j, hj, rfl⟩ := lBf hy
   exact aP j hj (by omega)
  rw [Ge, dif_neg (by omega)]
theorem Ae4 (n : Nat) (hb : n < 1000000) : Con Tryz.prog 141 #[.slice none 0 0, vi n] M [] fun v _ G' => ∃ ov : Vec, v = osv ov 0 ∧ Eo 1 ov 0 [] ∧ G' = osg 3 ov [] := by
 refine Con.enter Q113_ok (args := [.slice none 0 0, vi n]) (by simp [Cy9]) fun w0 => ?_
 simp only [Cy9, A9]
 have e0 : IntKind.i64.wrap ((n : Int) - IntKind.i64.wrap (0 - 0)) = n := by
  rw [show IntKind.i64.wrap (0 - 0) = 0 from by decide, Int.sub_zero]; exact w64 (by omega) (by omega)
 repeat' first | refine st ?_ | (refine EV.reg ?_; (conv => (arg 2; whnf)); (repeat first | refine nx ?_ | simp only [e0])) | (refine cX ?_ ?_ <;> intro h <;> try exact Ai h) | fail
 ·simp only [lC6, Cw]
  refine ⟨0, rfl, lA5 _, Or.inl rfl, [], Or.inl ⟨by simp, rfl⟩, by omega, by omega, by simp only [maxLen]; omega, by omega, ?_⟩
  rintro b cap sp ⟨h1, h2, h3, h4⟩
  rw [lAg] at h1 h2
  refine ⟨0, rfl, lA8 _, Or.inl rfl, ?_⟩
  have e : (if cap = 0 then some (⟨b, 0, none⟩ : Addr) else some ((⟨b, 0, none⟩ : Addr).add 0)) = some ⟨b, 0, none⟩ := by
   split
   ·rfl
   ·simp [Addr.add]
  rw [e]
  repeat' first | refine st ?_ | refine rg ?_ | exact ⟨⟩ | fail
  (refine rt Q113_ok ?_; try with_reducible exact ⟨⟩)
  refine ⟨some (b, cap, (List.replicate n [vi 0]).flatten ++ sp), rfl, ⟨by simp, by simpa using h2, lA8 _, h4⟩, by simp [osg]⟩
 ·(refine rt Q113_ok ?_; try with_reducible exact ⟨⟩)
  exact ⟨none, rfl, ⟨rfl, rfl⟩, rfl⟩
theorem V6 (xss : List (List Int)) (s : Value) (hs : Ee M 1 ei s xss) (hb : xss.flatten.length < 1000000) (eQ : xss.length < 1000000) : Con Tryz.prog 120 #[s] M [] (Cv7 xss.flatten) := by
 obtain ⟨a, c, vs, rfl, hl, aH, hk⟩ := hs
 refine Con.enter Q110_ok (args := [.slice a xss.length c]) (by simp [Cy5]) fun w0 => ?_
 simp only [Cy5, A9]
 repeat' first | refine st ?_ | refine rg ?_ | exact ⟨⟩ | fail
 refine JC (fun i : Nat => ([(0, .slice a xss.length c), (3, vi (xss.take i).flatten.length), (9, .slice a xss.length c), (10, vi xss.length), (11, vi i)], M, [])) (fun i => i ≤ xss.length) (fun i => xss.length - i) 0 rfl (lA8 _) ?env1 (lA0 _) ?_
 case env1 =>
  exact eE
 intro i hi ih
 dsimp only at hi ih ⊢
 repeat' first | refine st ?_ | refine rg ?_ | (refine cX ?_ ?_ <;> intro h <;> try exact Ai h) | exact ⟨⟩ | fail
 ·have aC : i < xss.length := by omega
  obtain ⟨pb, po, rfl, hat⟩ := Ee.at aH hl hk (by omega)
  obtain ⟨a', c', aR, aW⟩ := hat i aC
  rw [lAw] at aR
  have e := D3 (ts := xss) aC
  have a8 := Cp xss (i + 1)
  have hw : IntKind.i64.wrap (((xss.take i).flatten.length : Int) + (xss[i].length : Int)) = ((xss.take (i + 1)).flatten.length : Int) := by
   rw [e, lA4]; rw [e, lA4] at a8; exact (w64 (by omega) (by omega)).trans (by omega)
  have r7 : ¬ (((xss.take (i + 1)).flatten.length : Int) < 0) := by omega
  have ih3 := ih (i + 1) (by omega) (by omega)
  clear ih
  repeat' first | refine st ?_ | (refine EV.reg ?_; (conv => (arg 2; whnf)); (repeat first | refine nx ?_ | simp only [hw, r7])) | (refine cX ?_ ?_ <;> intro h <;> try exact Ai h) | refine ZF ?_ | (refine xn ?_; (repeat first | refine nx ?_ | simp only [hw, r7])) | fail
  all_goals try (exfalso; omega)
  refine JA ih3 ?_ (lA0 _)
  exact eE
 ·have bO : i = xss.length := by omega
  subst bO
  rw [lB1]
  clear ih
  repeat' first | fail
  refine Con.callB (G1 := []) (Ae4 xss.flatten.length hb) (Aa.le_refl _) (lAe _) ?_
  rintro v M' G' ⟨ov0, rfl, ij, rfl⟩
  (refine nx ?_; try with_reducible exact ⟨⟩)
  repeat' first | refine st ?_ | refine rg ?_ | exact ⟨⟩ | fail
  refine JC (fun x : Nat × Vec => ([(6, osv x.2 (xss.take x.1).flatten.length), (25, .slice a xss.length c), (26, vi xss.length), (27, vi x.1)], M, osg 3 x.2 ((xss.take x.1).flatten.map vi))) (fun x => x.1 ≤ xss.length ∧ Eo 1 x.2 (xss.take x.1).flatten.length ((xss.take x.1).flatten.map vi)) (fun x => xss.length - x.1) (0, ov0) rfl ⟨lA8 _, ij⟩ ?env2 (lA0 _) ?_
  case env2 =>
   exact eE
  rintro ⟨i, ov⟩ ⟨hi, aL⟩ ih
  dsimp only at hi aL ih ⊢
  repeat' first | refine st ?_ | refine rg ?_ | (refine cX ?_ ?_ <;> intro h <;> try exact Ai h) | exact ⟨⟩ | fail
  ·have aC : i < xss.length := by omega
   obtain ⟨pb, po, rfl, hat⟩ := Ee.at aH hl hk (by omega)
   obtain ⟨a', c', aR, aW⟩ := hat i aC
   rw [lAw] at aR
   rw [Ax] at aW
   have e := D3 (ts := xss) aC
   have a8 := Cp xss (i + 1)
   rw [e, lA4] at a8
   repeat' first | refine rg ?_ | refine ZF ?_ | (refine xn ?_; try refine nx ?_) | exact ⟨⟩ | fail
   refine ⟨xss[i].map vi, Vz aW, Xf _, Or.inl ⟨ov, _, rfl, _, aL, [], by simp, ?_, ?_, ?_⟩⟩
   ·simp only [maxLen]; omega
   ·omega
   intro o2 an _
   (refine nx ?_; try with_reducible exact ⟨⟩)
   have ih3 := ih (i + 1, o2) ⟨by dsimp only; omega, by rw [e, lA4, lAu]; exact an⟩ (by dsimp only; omega)
   dsimp only at ih3
   rw [e, lA4, lAu] at ih3
   repeat' first | refine su ?_ | refine rg ?_ | exact ⟨⟩ | fail
   refine JA ih3 ?_ eS
   exact eE
  ·have bO : i = xss.length := by omega
   subst bO
   rw [lB1] at aL ⊢
   (refine rt Q110_ok ?_; try with_reducible exact ⟨⟩)
   exact ⟨ov, rfl, aL, rfl⟩
theorem Yw (xs ys : List Int) (s t : Value) (hs : Sl M 1 ei s xs) (ht : Sl M 1 ei t ys) (hb : xs.length < 1000000) (eQ : ys.length < 1000000) : As Tryz.prog 41 #[s, t] M (vb (decide (xs = ys))) := by
 obtain ⟨a, c, rfl, aH⟩ := hs
 obtain ⟨a2, c2, rfl, cl⟩ := ht
 refine Con.enter Q112_ok (args := [.slice a xs.length c, .slice a2 ys.length c2]) (by simp [Cx5]) fun w0 => ?_
 simp only [Cx5, A9]
 repeat' first | refine st ?_ | refine rg ?_ | (refine cX ?_ ?_ <;> intro h <;> try exact Ai h) | exact ⟨⟩ | fail
 ·(refine rt Q112_ok ?_; try with_reducible exact ⟨⟩)
  rw [decide_eq_false (by rintro rfl; simp_all)]
 have aG : xs.length = ys.length := by omega
 refine JC (fun i : Nat => ([(0, .slice a xs.length c), (1, .slice a2 ys.length c2), (12, vi xs.length), (13, vi i)], M, [])) (fun i => i ≤ xs.length ∧ xs.take i = ys.take i) (fun i => xs.length - i) 0 rfl ⟨lA8 _, rfl⟩ ?env1 (lA0 _) ?_
 case env1 =>
  exact eE
 rintro i ⟨hi, ap⟩ ih
 dsimp only at hi ap ih ⊢
 repeat' first | refine st ?_ | ((first | refine EV.reg ?_ | refine EV.any _ (lA0 _) ?_ | fail); (conv => (arg 2; whnf)); refine nx ?_) | (refine cX ?_ ?_ <;> intro h <;> try exact Ai h) | exact ⟨⟩ | fail
 ·have aC : i < xs.length := by omega
  have bT : i < ys.length := by omega
  obtain ⟨wb, wo, rfl, hat⟩ := Sl.at (sz := 1) (enc := ei) (fun _ => rfl) (by decide) aH (by omega)
  obtain ⟨wb2, wo2, rfl, aJ⟩ := Sl.at (sz := 1) (enc := ei) (fun _ => rfl) (by decide) cl (by omega)
  have gZ := hat i aC
  have fd := aJ i bT
  rw [lAw] at gZ fd
  have gX : (i : Int) < (ys.length : Int) := by omega
  repeat' first | refine st ?_ | refine rg ?_ | (refine cX ?_ ?_ <;> intro h <;> try exact Ai h) | refine ZF ?_ | (refine xm ?_; try refine nx ?_) | exact ⟨⟩ | fail
  ·(refine rt Q112_ok ?_; try with_reducible exact ⟨⟩)
   rw [decide_eq_false (by rintro rfl; simp_all)]
  ·refine JA (ih (i + 1) ⟨by omega, ?_⟩ (by omega)) ?_ (lA0 _)
   ·rw [lA7 aC, lA7 bT, ap]; simp_all
   ·exact eE
 ·have bO : i = xs.length := by omega
  subst bO
  rw [lB1] at ap
  (refine rt Q112_ok ?_; try with_reducible exact ⟨⟩)
  rw [decide_eq_true (by rw [ap, aG, lB1])]
end
def thI (p : List Ev) (x : Int) : Int := (evAt p x.toNat).th
def D8 (p : List Ev) (l : List Int) (i : Nat) : Bool := (l.take i).any fun x => decide (thI p x = thI p (Ae l i))
def Bw (p : List Ev) : Nat → List Int → List (List Int)
 | 0, _ => [[]]
 | n + 1, l => (List.range (n + 1)).flatMap fun i => if D8 p l i then [] else (Bw p n (l.eraseIdx i)).map (Ae l i :: ·)
def Cn (p : List Ev) (l : List Int) : List (List Int) := Bw p l.length l
section
variable {M : Aa}
theorem P7 (p : List Ev) {pb po pc b1 b2 : Nat} {y : Int} (h1 : rd M b1 0 1 [.slice (some ⟨pb, po, none⟩) p.length pc]) (h2 : rd M b2 0 1 [vi y]) (hat : ∀ i, i < p.length → rd M pb (po + i * 6) 6 (Bh (evAt p i)))
  (x : Int) (hx : 0 ≤ x ∧ x < p.length) (hy : 0 ≤ y ∧ y < p.length) : As Tryz.prog 118 #[vi x, pv b1 0, pv b2 0] M (vb (decide (thI p x = thI p y))) := by
 have bP := (hat x.toNat (by omega)).pt 5 1 (by omega) rfl
 have cx := (hat y.toNat (by omega)).pt 5 1 (by omega) rfl
 refine Con.enter Q26_ok (args := [vi x, pv b1 0, pv b2 0]) (by simp [Q26]) fun w0 => ?_
 simp only [Q26, A9]
 repeat' first | refine st ?_ | ((first | refine EV.reg ?_ | refine EV.any _ (lA0 _) ?_ | fail); (conv => (arg 2; whnf)); refine nx ?_) | refine rt Q26_ok ?_ | refine ZF ?_ | ((first | refine xm ?_ | refine xn ?_ | fail); try refine nx ?_) | exact ⟨⟩ | fail
 all_goals rfl
theorem Gf {G : Own} {T : TypeId} {ov : Vec} {n : Nat} {xs : List Int} (ae : Eo 1 ov n (xs.map vi)) (hn : n = xs.length) (hG : ∀ q ∈ osg T ov (xs.map vi), q ∈ G) : SlC (M.add G) 1 ei (osv ov n) xs := by
 subst hn
 refine ⟨oad ov, Qj ov, rfl, ?_, ?_⟩
 ·cases ov with
  | none => exact Nat.le_of_eq ae.1
  | some q => exact ae.2.2.1
 ·rw [Ax]; exact Ew ae hG
structure WalkB (p : List Ev) (M : Aa) (l yb pb wb : Nat) (ea : Option Addr) (ec : Nat) : Prop where
 hy : rd M yb 0 1 [yv l]
 hp : rd M pb 0 1 [.slice ea p.length ec]
 hw : rd M wb 0 1 [.func (.func 116) #[] #[pv yb 0, pv pb 0, pv wb 0]]
 hat : 0 < p.length → ∃ eb eo, ea = some ⟨eb, eo, none⟩ ∧ ∀ i, i < p.length → rd M eb (eo + i * 6) 6 (Bh (evAt p i))
theorem WalkB.mono {p : List Ev} {M M' : Aa} {l yb pb wb : Nat} {ea : Option Addr} {ec : Nat} (h : WalkB p M l yb pb wb ea ec) (hM : M.le M') : WalkB p M' l yb pb wb ea ec :=
 ⟨h.hy.mono hM, h.hp.mono hM, h.hw.mono hM, fun h0 => let ⟨eb, eo, e, k⟩ := h.hat h0; ⟨eb, eo, e, fun i hi => (k i hi).mono hM⟩⟩
theorem Ae5 (p : List Ev) (af : p.length < 1000000) {l yb pb wb : Nat} {ea : Option Addr} {ec : Nat} {L : List (List Int)} {I : List (List Int) → Aa → Own → Prop} {S : Aa → Own → Prop} {M0 : Aa}
  (aE : ∀ xs M2 M3 G2, M2.le M3 → I xs M2 G2 → I xs M3 G2)
  (hy : ∀ xs x, x ∈ L → ∀ M2 G2 v, M0.le M2 → I xs M2 G2 → SlC M2 1 ei v x → N7 Tryz.prog l #[v] M2 G2 fun b M3 G3 => (b = .bool true ∧ I (xs ++ [x]) M3 G3) ∨ (b = .bool false ∧ S M3 G3)) :
  ∀ (n : Nat) (left out : List Int) (xs : List (List Int)) (M : Aa) (G : Own) (ov lv : Value), left.length = n → out.length + n < 1000000 → M0.le M → WalkB p M l yb pb wb ea ec → Ib p left → SlC M 1 ei ov out → SlC M 1 ei lv left →
   (∀ m ∈ Bw p n left, out ++ m ∈ L) → I xs M G →
   Con Tryz.prog 116 #[ov, lv, pv yb 0, pv pb 0, pv wb 0] M G fun v M' G' => (v = .bool true ∧ I (xs ++ (Bw p n left).map (out ++ ·)) M' G') ∨ (v = .bool false ∧ S M' G') := by
 intro n
 induction n with
 | zero =>
  intro left out xs M G ov lv hn bC hM hw hin aL bB hL hI
  have ij := aL
  obtain ⟨oa, oc, rfl, lE, aj⟩ := aL
  obtain ⟨la, lc, rfl, cW, aq⟩ := bB
  have tF := hw.hy
  refine Con.enter Q25_ok (args := [.slice oa out.length oc, .slice la left.length lc, pv yb 0, pv pb 0, pv wb 0]) (by simp [Q25]) fun w0 => ?_
  simp only [Q25, A9]
  repeat' first | refine st ?_ | (refine EV.reg ?_; (conv => (arg 2; whnf)); (repeat first | refine nx ?_ | simp only [hn])) | (refine cX ?_ ?_ <;> intro h <;> try exact Ai h) | fail
  refine EV.any (t := Az4) [] (lAh _) ?_
  (repeat first | refine nx ?_ | simp only [Az4])
  refine ⟨_, tF.mono (JB _ _), ?_⟩
  refine Con.callS (G1 := []) (Gt out _ ij.sl (by omega)) ?_
  rintro v1 M1 G1 bw ⟨o1, rfl, bQ, rfl⟩
  (refine nx ?_; try with_reducible exact ⟨⟩)
  refine ⟨bw, fun q hq => absurd hq lB4, ?_⟩
  refine Fh.keep G ?_
  have aI : out ∈ L := by have := hL [] (by simp [Bw]); simpa using this
  have ah : SlC (M1.add (osg 3 o1 (out.map vi))) 1 ei (osv o1 out.length) out := by
   refine ⟨oad o1, Qj o1, rfl, ?_, ?_⟩
   ·cases o1 with
    | none => exact Nat.le_of_eq bQ.1
    | some q => exact bQ.2.2.1
   ·rw [Ax]; exact Ew bQ (fun q hq => by simpa using hq)
  refine N7.run (hy xs out aI _ G _ (Aa.le_trans hM (Aa.le_trans bw (JB _ _))) (aE _ _ _ _ (Aa.le_trans bw (JB _ _)) hI) (by simpa using ah)) ?_
  rintro b M2 G2 bZ hb
  (refine rt Q25_ok ?_; try with_reducible exact ⟨⟩)
  simpa [Bw] using hb
 | succ n ihn =>
  intro left out xs M G ov lv hn bC hM hw hin aL bB hL hI
  have ij := aL
  have bK := bB
  obtain ⟨oa, oc, rfl, lE, aj⟩ := aL
  obtain ⟨la, lc, rfl, cW, aq⟩ := bB
  obtain ⟨wb1, wo1, rfl, bG⟩ := Sl.at (sz := 1) (enc := ei) (fun _ => rfl) (by decide) aq (by omega)
  have bG := C2 bG
  refine Con.enter Q25_ok (args := [.slice oa out.length oc, .slice (some ⟨wb1, wo1, none⟩) left.length lc, pv yb 0, pv pb 0, pv wb 0]) (by simp [Q25]) fun w0 => ?_
  simp only [Q25, A9]
  have hne : decide ((left.length : Int) = 0) = false := decide_eq_false (by omega)
  repeat' first | refine st ?_ | (refine EV.reg ?_; (conv => (arg 2; whnf)); (repeat first | refine nx ?_ | simp only [hne])) | (refine cX ?_ ?_ <;> intro h <;> try exact Ai h) | fail
  refine JC (fun x : Nat × Aa × Own => ([(0, .slice oa out.length oc), (1, .slice (some ⟨wb1, wo1, none⟩) left.length lc), (2, pv yb 0), (3, pv pb 0), (4, pv wb 0), (18, .slice (some ⟨wb1, wo1, none⟩) left.length lc), (19, vi left.length), (20, vi x.1)], x.2.1, x.2.2))
   (fun x => x.1 ≤ left.length ∧ M.le x.2.1 ∧ I (xs ++ ((List.range x.1).flatMap fun i => if D8 p left i then [] else (Bw p n (left.eraseIdx i)).map (Ae left i :: ·)).map (out ++ ·)) x.2.1 x.2.2) (fun x => left.length - x.1) (0, M, G) rfl ⟨lA8 _, Aa.le_refl _, by simpa using hI⟩ ?env1 (lA0 _) ?_
  case env1 =>
   exact eE
  rintro ⟨i, Mi, Gi⟩ ⟨hi, ci, j5⟩ ih
  dsimp only at hi ci j5 ih ⊢
  repeat' first | refine st ?_ | refine rg ?_ | (refine cX ?_ ?_ <;> intro h <;> try exact Ai h) | refine ZF ?_ | exact ⟨⟩ | fail
  ·have aC : i < left.length := by omega
   have jY := (bG i aC).mono ci
   repeat' first | ((first | with_reducible intro b | refine xm ?_ | fail); try refine nx ?_) | (refine xw ?_; refine nx ?_) | exact ⟨⟩ | fail
   rename Nat => xb
   refine EV.keep Gi ?_
   generalize hN : Mi.add _ = N
   have aB : Mi.le N := hN ▸ JB _ _
   have tG : rd N xb 0 1 [vi (Ae left i)] := hN ▸ B3 (T := 3) (cs := [vi (Ae left i)]) (by simp) rfl (by simp)
   have ge := aE _ _ _ _ aB j5
   have nl := (hw.mono ci).mono aB
   clear hN
   have dH := Aa.le_trans ci aB
   refine EV.seq ?_
   repeat' first | refine rg ?_ | exact ⟨⟩ | fail
   simp only [lC6, Cw]
   refine ⟨i, rfl, by omega, Or.inl rfl, ?_⟩
   rw [Bb6]
   have ox := (aq.mono dH)
   have bS : Sl N 1 ei (.slice (some ⟨wb1, wo1, none⟩) i lc) (left.take i) := by
    refine ⟨some ⟨wb1, wo1, none⟩, lc, by rw [lC0, lBx (by omega)], ?_⟩
    rw [lC0, lBx (by omega), Ax, List.map_take]
    rw [Ax] at ox
    exact ox.pre (by omega)
   have dt := Er hin aC
   refine As.call (Lf (left.take i) _ (bS.mono (JB _ _)) (by simp; omega) _ _ (fun x => decide (thI p x = thI p (Ae left i))) ?_) ?_
   ·intro M' ax x hx
    have a8 := Aa.le_trans (JB N Gi) ax
    obtain ⟨eb, eo, e0, oy⟩ := (nl.mono a8).hat (by omega)
    have := P7 p (e0 ▸ (nl.mono a8).hp) (tG.mono a8) oy x (hin x (List.mem_of_mem_take hx)) dt
    simpa using this
   rw [show (left.take i).any (fun x => decide (thI p x = thI p (Ae left i))) = D8 p left i from rfl]
   generalize fg : D8 p left i = bl
   refine EV.seq ?_
   cases bl with
   | true =>
    refine EV.any (t := Az5) [] (lAh _) ?_
    simp only [An, Aq, Al, Au, reduceIte, Nat.reduceEqDiff]
    repeat' first | ((refine ZE ?_ (fun lq aD hc => ?_) (fun lq aD => ?_); rotate_left) <;> (try (exfalso; simp at hc; done)) <;> (repeat first | refine nz ?_ | simp only [lBj])) | ((first | refine zo (fun lq aD => ?_) | refine zl ?_ | fail); (repeat first | refine nz ?_ | simp only [lBj])) | refine zq (fun lq tq aD aA => ?_) | refine zf ?_ | refine ZC (fun tq aA => ?_) | ((refine ZD (fun tq aA h => ?_) (fun tq aA h => ?_)) <;> try (exfalso; simp at h; done)) | exact false | fail
    have ih3 := ih (i + 1, N, Gi) ⟨by dsimp only; omega, dH, ?_⟩ (by dsimp only; omega)
    ·dsimp only at ih3
     repeat' first | refine su ?_ | (refine EV.reg ?_; (conv => (arg 2; whnf)); (repeat first | refine nx ?_ | simp only [lCa])) | (refine cX ?_ ?_ <;> intro h <;> try exact Ai h) | fail
     refine JD ih3 ?_
     exact eE
    ·rw [lDp, lAy, lC8, if_pos fg, lAa]
     exact ge
   | false =>
    refine EV.any (t := Az5) [] (lAh _) ?_
    simp only [An, Aq, Al, Au, reduceIte, Nat.reduceEqDiff]
    repeat' first | ((first | refine zo (fun lq aD => ?_) | refine zl ?_ | fail); (repeat first | refine nz ?_ | simp only [lBl])) | refine zq (fun lq tq aD aA => ?_) | ((first | refine lA9 _ (lAd (As9 nl.hw) ?_) | refine lA9 _ (lAd (Ae3 oa out.length oc lE) ?_) | fail); (repeat first | refine nz ?_ | simp only [lBl])) | ((refine ZD (fun tq aA h => ?_) (fun tq aA h => ?_)) <;> try (exfalso; simp at h; done)) | (refine xm ?_; (repeat first | refine nz ?_ | simp only [lBl])) | fail
    simp only [lC6, Cw]
    refine ⟨i, rfl, by omega, Or.inl rfl, ?_⟩
    repeat' first | ((first | refine zo (fun lq aD => ?_) | refine zl ?_ | fail); try refine nz ?_) | refine zq (fun lq tq aD aA => ?_) | exact ⟨⟩ | fail
    simp only [lC6, Cw]
    have aT : IntKind.i64.wrap ((i : Int) + 1) = ((i + 1 : Nat) : Int) := w64 (by omega) (by omega)
    refine ⟨i + 1, by rw [aT], by omega, cW, Or.inr rfl, ?_⟩
    obtain ⟨ro, kH, ero⟩ := Sb (wb := wb1) (wo := wo1) (n := left.length) (c := lc) (i := i + 1) cW
    rw [Bb6, ero]
    have oz : rdS N 1 oa out.length (out.map vi) := by
     have := aj.mono dH
     rwa [Ax] at this
    have pA : rdS N 1 (some ⟨wb1, ro, none⟩) (left.length - (i + 1)) ((left.drop (i + 1)).map vi) := by
     by_cases aS : i + 1 < left.length
     ·rw [kH aS]
      rcases ox with ⟨h0, _⟩ | ⟨b', o', e', be⟩
      ·omega
      ·cases e'
       refine Or.inr ⟨wb1, wo1 + (i + 1), rfl, ?_⟩
       rw [Ax, lAw] at be
       rw [lAw, List.map_drop]
       exact be.suf (by omega)
     ·refine Or.inl ⟨by omega, ?_⟩
      rw [lCs (by omega)]; rfl
    repeat' first | (refine zl ?_; try refine nz ?_) | refine zq (fun lq tq aD aA => ?_) | (refine ZA (fun tq aA => ?_) (fun tq aA => ?_) <;> try refine nz ?_) | exact zn | ((first | with_reducible intro b | refine lAd (Aa.le_refl _) (lAd (Ay ?_) ?_); focus ((repeat' first | exact lA0 _ | exact lAh _ | exact lAj _ _ | refine lAf _ ?_ | refine lAo ?_ _ | refine lAb ?_ | refine lAp _ ?_); done) | fail); try refine nz ?_) | exact ⟨⟩ | fail
    all_goals
     refine ⟨[vi (Ae left i)], Or.inr ⟨_, 0, rfl, B3 (T := 3) (cs := [vi (Ae left i)]) (by simp) rfl (by simp)⟩, by simp [Bp, Cb, Value.oneCell'], Or.inr ⟨oa, out.length, out.length, rfl, out.map vi, Vz oz, by omega, by omega, by simp only [maxLen]; omega, by omega, fun b1 cap sp ae => ?_⟩⟩
     repeat' first | (refine zl ?_; try refine nz ?_) | refine zq (fun lq tq aD aA => ?_) | (refine ZA (fun tq aA => ?_) (fun tq aA => ?_) <;> try refine nz ?_) | exact zn | ((first | with_reducible intro b | refine lAd (Aa.le_refl _) (lAd (Ay ?_) ?_); focus ((repeat' first | exact lA0 _ | exact lAh _ | exact lAj _ _ | refine lAf _ ?_ | refine lAo ?_ _ | refine lAb ?_ | refine lAp _ ?_); done) | fail); try refine nz ?_) | exact ⟨⟩ | fail
     refine Con.callB (G1 := []) (V6 [left.take i, left.drop (i + 1)] _ ⟨_, _, [.slice (some ⟨wb1, wo1, none⟩) i lc, .slice (some ⟨wb1, ro, none⟩) (left.length - (i + 1)) (lc - (i + 1))], rfl, rfl, Or.inr ⟨_, 0, rfl, B3 (T := 34) (cs := [.slice (some ⟨wb1, wo1, none⟩) i lc, .slice (some ⟨wb1, ro, none⟩) (left.length - (i + 1)) (lc - (i + 1))]) (by simp) rfl (by simp)⟩, ?_⟩ ?_ (by simp)) (Aa.le_refl _) (lAe _) ?_
     ·intro k bs bh
      match k, bh with
      | 0, _ => exact bS.mono (JB _ _)
      | 1, _ => exact ⟨some ⟨wb1, ro, none⟩, lc - (i + 1), by simp, by rw [Ax, show ([left.take i, left.drop (i + 1)] : List (List Int))[1].length = left.length - (i + 1) from by simp]; exact Vz pA⟩
     ·simp only [lD9, lF7, lAa, lA4, lC0, lDs]; omega
     rintro v2 M2 G2 ⟨o2, rfl, an, rfl⟩
     have pB : [left.take i, left.drop (i + 1)].flatten = left.eraseIdx i := by simp [lCr]
     rw [pB] at an ⊢
     refine ⟨Aa.le_refl _, fun q hq => absurd hq lB4, ?_⟩
     repeat' first | (refine zl ?_; try refine nz ?_) | refine zq (fun lq tq aD aA => ?_) | (refine ZB (fun tq aA => ?_) (fun tq aA => ?_) <;> try refine nz ?_) | exact zn | exact ⟨⟩ | fail
     refine Dc.keep Gi ?_
     generalize hR : N.add _ = N2
     have ej : N.le N2 := hR ▸ JB _ _
     have tH : SlC N2 1 ei (osv (some (b1, cap, sp)) (out.length + 1)) (out ++ [Ae left i]) := hR ▸ Gf (T := 3) (by simpa using ae) (by simp) (by simp [osg])
     have ah : SlC N2 1 ei (osv o2 (left.eraseIdx i).length) (left.eraseIdx i) := hR ▸ Gf (T := 3) an rfl (fun q hq => by simp [hq])
     clear hR
     refine Con.run (ihn (left.eraseIdx i) (out ++ [Ae left i]) (xs ++ ((List.range i).flatMap fun i => if D8 p left i then [] else (Bw p n (left.eraseIdx i)).map (Ae left i :: ·)).map (out ++ ·)) N2 Gi _ _ (by rw [lD7 aC]; omega) (by simp; omega) (Aa.le_trans hM (Aa.le_trans dH ej)) (nl.mono ej) (fun y dQ => hin y (List.mem_of_mem_eraseIdx dQ)) tH ah ?_ (aE _ _ _ _ ej ge)) ?_
     ·intro m hm
      rw [lAc]
      refine hL _ ?_
      simp only [Bw, lB3, lAn]
      exact ⟨i, by omega, by rw [if_neg (by rw [fg]; simp)]; exact lAi.2 ⟨m, hm, rfl⟩⟩
     rintro v3 M3 G3 el (⟨rfl, pC⟩ | ⟨rfl, pD⟩)
     ·repeat' first | ((refine ZE ?_ (fun lq aD hc => ?_) (fun lq aD => ?_); rotate_left) <;> (try (exfalso; simp at hc; done)) <;> (repeat first | refine nz ?_ | simp only [lBj])) | ((first | refine zo (fun lq aD => ?_) | refine zl ?_ | fail); (repeat first | refine nz ?_ | simp only [lBj])) | refine zq (fun lq tq aD aA => ?_) | refine zf ?_ | with_reducible rfl | fail
      repeat' first | refine su ?_ | (refine EV.reg ?_; (conv => (arg 2; whnf)); (repeat first | refine nx ?_ | simp only [lC1, lF3])) | (refine cX ?_ ?_ <;> intro h <;> try exact Ai h) | fail
      have ih3 := ih (i + 1, M3, G3) ⟨by dsimp only; omega, Aa.le_trans dH (Aa.le_trans ej el), by
       dsimp only
       rw [lDp, lAy, lC8, if_neg (by rw [fg]; simp), lAu, ← lAc, lE2]
       have e : (Bw p n (left.eraseIdx i)).map ((out ++ ·) ∘ (Ae left i :: ·)) = (Bw p n (left.eraseIdx i)).map ((out ++ [Ae left i]) ++ ·) := by
        apply lEq; intro y _; simp
       rw [e]; exact pC⟩ (by dsimp only; omega)
      dsimp only at ih3
      refine JD ih3 ?_
      exact eE
     ·repeat' first | ((refine ZE ?_ (fun lq aD hc => ?_) (fun lq aD => ?_); rotate_left) <;> (try (exfalso; simp at hc; done)) <;> (repeat first | refine nz ?_ | simp only [lBl])) | ((first | refine zo (fun lq aD => ?_) | refine zl ?_ | fail); (repeat first | refine nz ?_ | simp only [lBl])) | refine zq (fun lq tq aD aA => ?_) | refine zf ?_ | with_reducible rfl | fail
      repeat' first | refine st ?_ | (refine EV.reg ?_; (conv => (arg 2; whnf)); (repeat first | refine nx ?_ | simp only [lC1])) | (refine cX ?_ ?_ <;> intro h <;> try exact Ai h) | fail
      (refine rt Q25_ok ?_; try with_reducible exact ⟨⟩)
      exact Or.inr pD
  ·have bO : i = left.length := by omega
   subst bO
   (refine rt Q25_ok ?_; try with_reducible exact ⟨⟩)
   left
   rw [hn] at j5
   exact j5
def ElI (x : List Int) (v : Value) (M : Aa) : Prop := SlC M 1 ei v x
theorem Tx (p : List Ev) (af : p.length < 1000000) {ps ls : Value} {l : List Int} {pb lb : Nat} (hps : Sl M 6 Bh ps p) (b0 : SlC M 1 ei ls l) (hin : Ib p l) (bV : l.length < 1000000)
  (h1 : rd M pb 0 1 [ps]) (h2 : rd M lb 0 1 [ls]) : Ad3 Tryz.prog 115 #[] #[pv pb 0, pv lb 0] M (Cn p l) ElI := by
 intro ly I S M1 G hM aE hy xs hI
 have dF := h1.mono hM
 have gf := h2.mono hM
 have pE := b0.mono hM
 obtain ⟨ea, ec, rfl, aw⟩ := hps
 refine Con.enter Q24_ok (args := [yv ly, pv pb 0, pv lb 0]) (by simp [Q24]) fun w0 => ?_
 simp only [Q24, A9]
 refine EV.seq (EV.reg ?_)
 (repeat first | refine nx ?_ | simp only [Cl0])
 intro yb
 refine EV.seq (EV.reg ?_)
 (repeat first | refine nx ?_ | simp only [Cl1])
 intro wb
 refine EV.seq ?_
 repeat' first | refine rg ?_ | (refine xiA rfl ?_; try refine nx ?_) | (refine xw ?_; refine nx ?_) | exact ⟨⟩ | fail
 obtain ⟨la, lc, rfl, cW, aq⟩ := pE
 refine ⟨_, _, _, As9 gf, ?_⟩
 refine Dc.keep G ?_
 generalize hR : M1.add _ = N
 have aB : M1.le N := hR ▸ JB _ _
 have hw : WalkB p N ly yb pb wb ea ec := by
  refine ⟨hR ▸ B3 (T := 151) (cs := [yv ly]) (by simp) rfl (by simp), dF.mono aB, hR ▸ B3 (T := 50) (cs := [.func (.func 116) #[] #[pv yb 0, pv pb 0, pv wb 0]]) (by simp) rfl (by simp), fun h0 => ?_⟩
  obtain ⟨eb, eo, e, hat⟩ := Sl.at (enc := Bh) (fun _ => rfl) (by decide) aw h0
  exact ⟨eb, eo, e, fun i hi => (JJ hat i hi).mono (Aa.le_trans hM aB)⟩
 clear hR
 refine Con.run (Ae5 p af (L := Cn p l) aE (fun xs x hx M2 G2 v h3 h4 h5 => hy xs x hx M2 G2 v (Aa.le_trans aB h3) h4 h5) l.length l [] xs N G _ _ rfl (by simp; omega) (Aa.le_refl _) hw hin ⟨none, 0, rfl, lA5 _, .inl ⟨rfl, rfl⟩⟩ ⟨la, lc, rfl, cW, aq.mono aB⟩ (fun m hm => by simpa [Cn] using hm) (aE _ _ _ _ aB hI)) ?_
 intro v M' G' ax hv
 refine EV.done Q24_ok ?_
 (repeat first | refine nx ?_ | simp only [Q24])
 rcases hv with ⟨rfl, hv⟩ | ⟨rfl, hv⟩
 ·left; simpa [Cn] using hv
 ·right; exact hv
def Its {α : Type} (L : List α) (El : α → Value → Aa → Prop) (v : Value) (M : Aa) (_ : Own) : Prop := ∃ g caps, v = .func (.func g) #[] caps ∧ Ad3 Tryz.prog g #[] caps M L El
theorem Om (p : List Ev) (af : p.length < 1000000) {ps ls : Value} {l : List Int} (hps : Sl M 6 Bh ps p) (b0 : SlC M 1 ei ls l) (hin : Ib p l) (bV : l.length < 1000000) :
  Con Tryz.prog 82 #[ps, ls] M [] (Its (Cn p l) ElI) := by
 refine Con.enter Q23_ok (args := [ps, ls]) (by simp [Q23]) fun w0 => ?_
 simp only [Q23, A9]
 have cM := hps
 have pF := b0
 obtain ⟨ea, ec, rfl, aw⟩ := hps
 obtain ⟨la, lc, rfl, cW, aq⟩ := b0
 repeat' first | refine st ?_ | refine rg ?_ | (with_reducible intro b; try refine nx ?_) | exact ⟨⟩ | fail
 refine EV.keep [] ?_
 generalize hR : M.add _ = N
 have aB : M.le N := hR ▸ JB _ _
 (refine rt Q23_ok ?_; try with_reducible exact ⟨⟩)
 refine ⟨_, _, rfl, Tx p af (cM.mono aB) (pF.mono aB) hin bV ?_ ?_⟩
 ·exact hR ▸ B3 (T := 74) (cs := [.slice ea p.length ec]) (by simp) rfl (by simp)
 ·exact hR ▸ B3 (T := 34) (cs := [.slice la l.length lc]) (by simp) rfl (by simp)
end
def Bn (p : List Ev) : List Int := Cr p.length fun i => decide ((evAt p i).op.kind = 3) || decide ((evAt p i).op.kind = 4)
def Lg (p : List Ev) : Nat → List Bool
 | 0 => List.replicate p.length false
 | i + 1 => (Lg p i).set i (decide ((evAt p i).op.kind = 1) || decide ((evAt p i).op.kind = 2))
def Kj (p : List Ev) (set : Nat) : Nat → List Bool
 | 0 => Lg p p.length
 | k + 1 => (Kj p set k).set (Ae (Bn p) k).toNat (set.testBit k)
def Ih (p : List Ev) (set : Nat) : List Bool := Kj p set (Bn p).length
def Gu (p : List Ev) : List (List Bool) := (List.range (2 ^ (Bn p).length)).map (Ih p)
theorem Kk (p : List Ev) : ∀ i, (Lg p i).length = p.length
 | 0 => by simp [Lg]
 | i + 1 => by simp [Lg, Kk p i]
theorem Kl (p : List Ev) (set : Nat) : ∀ k, (Kj p set k).length = p.length
 | 0 => Kk p _
 | k + 1 => by simp [Kj, Kl p set k]
theorem Ff (p : List Ev) (set : Nat) : (Ih p set).length = p.length := Kl p set _
theorem Cv8 {x : Nat} : BitVec.ofInt IntKind.i64.bits (x : Int) = (BitVec.ofNat 64 x : BitVec IntKind.i64.bits) := lFc 64 x
theorem Bb8 {x b : Nat} (hx : x < 2 ^ 62) (hb : b < 64) : decide (IntKind.i64.wrap ((BitVec.ofInt IntKind.i64.bits ((x : Int).fdiv (2 ^ min b IntKind.i64.bits)) &&& BitVec.ofInt IntKind.i64.bits 1).toNat : Int) = 1) = x.testBit b := by
 have e0 : min b IntKind.i64.bits = b := lBx (show b ≤ 64 by omega)
 rw [e0]
 have e1 : (x : Int).fdiv (2 ^ b) = ((x / 2 ^ b : Nat) : Int) := by
  rw [lDr _ (by exact_mod_cast lA8 _)]; simp
 have hd : x / 2 ^ b < 2 ^ 64 := lEd (lFh _ _) (Nat.lt_trans hx (by decide))
 rw [e1, Cv8]
 have e : (BitVec.ofNat 64 (x / 2 ^ b) &&& BitVec.ofInt 64 1).toNat = (x / 2 ^ b) % 2 := by
  rw [lF9, lD4, lCg hd]
  show (x / 2 ^ b) &&& 1 = _
  exact lEu _
 show decide (IntKind.i64.wrap ((BitVec.ofNat 64 (x / 2 ^ b) &&& BitVec.ofInt 64 1).toNat : Int) = 1) = _
 rw [e, w64 (by omega) (by omega)]
 rw [lDz]
 simp only [decide_eq_decide]
 omega
theorem Bb9 {b : Nat} (hb : b < 62) : IntKind.i64.wrap (1 * 2 ^ min b IntKind.i64.bits) = ((2 ^ b : Nat) : Int) := by
 have e0 : min b IntKind.i64.bits = b := lBx (show b ≤ 64 by omega)
 rw [e0, Int.one_mul]
 have h : 2 ^ b < 2 ^ 62 := lBe (by decide) hb
 rw [show ((2 : Int) ^ b) = ((2 ^ b : Nat) : Int) from by simp]
 generalize 2 ^ b = y at *
 exact w64 (by omega) (by omega)
def ElB (x : List Bool) (v : Value) (M : Aa) : Prop := SlC M 1 eb v x
section
variable {M : Aa}
theorem Sg (p : List Ev) {pb po pc b1 : Nat} (h1 : rd M b1 0 1 [.slice (some ⟨pb, po, none⟩) p.length pc]) (i : Nat) (hi : i < p.length) (hp : rd M pb (po + i * 6) 6 (Bh (evAt p i))) :
  As Tryz.prog 108 #[vi i, pv b1 0] M (vb (decide ((evAt p i).op.kind = 3) || decide ((evAt p i).op.kind = 4))) := by
 have gY := hp.pt 0 1 (by omega) rfl
 have aC : (i : Int) < p.length := by omega
 refine Con.enter Q14_ok (args := [vi i, pv b1 0]) (by simp [Q14]) fun w0 => ?_
 simp only [Q14, A9]
 repeat' first | refine st ?_ | refine rg ?_ | with_reducible assumption | (refine JE ?_ (fun hc K' hK => ?_) ?_; rotate_left) | refine rt Q14_ok ?_ | refine ZF ?_ | ((first | refine xm ?_ | refine xn ?_ | fail); try refine nx ?_) | exact ⟨⟩ | fail
 all_goals simp_all
theorem V7 (p : List Ev) (af : p.length ≤ 32) {ps : Value} {pb : Nat} (hps : Sl M 6 Bh ps p) (h1 : rd M pb 0 1 [ps]) : Ad3 Tryz.prog 107 #[] #[pv pb 0] M (Gu p) ElB := by
 intro ly I S M1 G hM aE hy xs hI
 have dF := h1.mono hM
 have du := hps.mono hM
 obtain ⟨ea, ec, rfl, aw⟩ := du
 refine Con.enter Q13_ok (args := [yv ly, pv pb 0]) (by simp [Q13]) fun w0 => ?_
 simp only [Q13, A9]
 repeat' first | refine st ?_ | refine rg ?_ | (refine xn ?_; try refine nx ?_) | exact ⟨⟩ | fail
 refine Con.callB (G1 := []) (Oc p _ ⟨ea, ec, rfl, aw.mono (JB _ _)⟩ (by omega) _ _ (fun i => decide ((evAt p i).op.kind = 3) || decide ((evAt p i).op.kind = 4)) ?_) (Aa.le_refl _) (lAe _) ?_
 ·intro M' ax i hi
  obtain ⟨eb1, eo, rfl, hat⟩ := Sl.at (enc := Bh) (fun _ => rfl) (by decide) aw (by omega)
  have a8 := Aa.le_trans (JB M1 G) ax
  exact Sg p (dF.mono a8) i hi ((JJ hat i hi).mono a8)
 rintro v M' G' ⟨of, rfl, fL, rfl⟩
 change Eo 1 of (Bn p).length ((Bn p).map vi) at fL
 have jo : Ib p (Bn p) := fun x hx => by
  obtain ⟨i, h1, _, rfl⟩ := B5.1 hx; omega
 have bA : (Bn p).length ≤ p.length := Bj _ _
 rw [show Cr p.length (fun i => decide ((evAt p i).op.kind = 3) || decide ((evAt p i).op.kind = 4)) = Bn p from rfl]
 have gg : ¬ (((Bn p).length : Int) < 0) := by omega
 have bH := Bb9 (b := (Bn p).length) (by omega)
 have ub : 2 ^ (Bn p).length ≤ 2 ^ 32 := lCf (by decide) (by omega)
 repeat' first | fail
 refine EV.keep G ?_
 generalize hR : M1.add _ = N
 have aB : M1.le N := hR ▸ JB _ _
 have cK : rdS N 1 (oad of) (Bn p).length ((Bn p).map vi) := hR ▸ Ew (T := 3) fL (fun q hq => by simpa using hq)
 have kL := dF.mono aB
 have ge := aE _ _ _ _ aB hI
 clear hR
 repeat' first | refine st ?_ | (refine EV.reg ?_; (conv => (arg 2; whnf)); (repeat first | refine nx ?_ | simp only [gg, bH])) | fail
 have lx : (2 : Int) ^ (Bn p).length = ((2 ^ (Bn p).length : Nat) : Int) := by simp
 generalize pG : 2 ^ (Bn p).length = n2 at *
 refine JC (fun x : Nat × Aa × Own => ([(0, yv ly), (1, pv pb 0), (3, osv of (Bn p).length), (15, vi n2), (16, vi x.1)], x.2.1, x.2.2))
  (fun x => x.1 ≤ n2 ∧ N.le x.2.1 ∧ I (xs ++ (List.range x.1).map (Ih p)) x.2.1 x.2.2) (fun x => n2 - x.1) (0, N, G) rfl ⟨lA8 _, Aa.le_refl _, by simpa using ge⟩ ?env1 (lA0 _) ?_
 case env1 =>
  simp only [lx]
  exact eE
 rintro ⟨set, Mi, Gi⟩ ⟨bn, ci, j5⟩ ih
 dsimp only at bn ci j5 ih ⊢
 repeat' first | refine st ?_ | refine rg ?_ | (refine cX ?_ ?_ <;> intro h <;> try exact Ai h) | exact ⟨⟩ | fail
 ·have ud := kL.mono ci
  repeat' first | refine st ?_ | (refine EV.reg ?_; (conv => (arg 2; whnf)); (repeat first | refine nx ?_ | simp only [A6])) | (with_reducible intro b; (repeat first | refine nx ?_ | simp only [A6])) | refine ZF ?_ | (refine xn ?_; (repeat first | refine nx ?_ | simp only [A6])) | fail
  rename Nat => db
  refine JC (fun i : Nat => ([(0, yv ly), (1, pv pb 0), (3, osv of (Bn p).length), (4, vi set), (5, Av db p.length p.length), (15, vi n2), (16, vi set), (22, .slice ea p.length ec), (23, vi p.length), (24, vi i)], Mi, (db, Cl 4 ((Lg p i).map vb)) :: Gi))
   (fun i => i ≤ p.length) (fun i => p.length - i) 0 rfl (lA8 _) ?env2 ?sub2 ?_
  case env2 =>
   exact eE
  case sub2 =>
   simp only [Lg, lEc]
   exact lA0 _
  intro i hi ih2
  dsimp only at hi ih2 ⊢
  repeat' first | refine st ?_ | refine rg ?_ | (refine cX ?_ ?_ <;> intro h <;> try exact Ai h) | exact ⟨⟩ | fail
  ·have aC : i < p.length := by omega
   obtain ⟨pb1, po, rfl, hat⟩ := Sl.at (enc := Bh) (fun _ => rfl) (by decide) aw (by omega)
   have i8 := (JJ hat i aC).mono (Aa.le_trans aB ci)
   have bF := Kk p i
   have ih3 := ih2 (i + 1) (by omega) (by omega)
   rw [show Lg p (i + 1) = (Lg p i).set i (decide ((evAt p i).op.kind = 1) || decide ((evAt p i).op.kind = 2)) from rfl] at ih3
   generalize Lg p i = q at *
   clear ih ih2 hat
   repeat' first | refine su ?_ | (refine EV.reg ?_; (conv => (arg 2; whnf)); (repeat first | refine nx ?_ | simp only [Ao, lA1, bF, aC])) | with_reducible assumption | (refine JE ?_ (fun hc K' hK => ?_) ?_; rotate_left) | (with_reducible intro b; (repeat first | refine nx ?_ | simp only [Ao, lA1, bF, aC])) | refine ZF ?_ | ((first | refine xm ?_ | refine xiA rfl ?_ | fail); (repeat first | refine nx ?_ | simp only [Ao, lA1, bF, aC])) | (refine xw ?_; (repeat first | refine nx ?_ | simp only [Ao, lA1, bF, aC])) | fail
   refine JD ih3 ?_
   exact eE
  ·have bO : i = p.length := by omega
   subst bO
   clear ih2
   repeat' first | fail
   refine JC (fun k : Nat => ([(0, yv ly), (1, pv pb 0), (3, osv of (Bn p).length), (4, vi set), (5, Av db p.length p.length), (15, vi n2), (16, vi set), (43, osv of (Bn p).length), (44, vi (Bn p).length), (45, vi k)], Mi, (db, Cl 4 ((Kj p set k).map vb)) :: Gi))
    (fun k => k ≤ (Bn p).length) (fun k => (Bn p).length - k) 0 rfl (lA8 _) ?env3 (lA0 _) ?_
   case env3 =>
    exact eE
   intro k hk ih2
   dsimp only at hk ih2 ⊢
   repeat' first | refine st ?_ | refine rg ?_ | (refine cX ?_ ?_ <;> intro h <;> try exact Ai h) | exact ⟨⟩ | fail
   ·have ak : k < (Bn p).length := by omega
    have pH : rdS Mi 1 (oad of) (Bn p).length ((Bn p).flatMap ei) := by rw [Ax]; exact cK.mono ci
    obtain ⟨wb, wo, tI, g6⟩ := Sl.at (sz := 1) (enc := ei) (fun _ => rfl) (by decide) pH (by omega)
    have r8 := C2 g6 k ak
    have tJ := Er jo ak
    have bF := Kl p set k
    have aS : (Ae (Bn p) k).toNat < p.length := by omega
    have ar := Bb8 (x := set) (b := k) (by omega) (by omega)
    have hkn : ¬ ((k : Int) < 0) := by omega
    have ih3 := ih2 (k + 1) (by omega) (by omega)
    rw [show Kj p set (k + 1) = (Kj p set k).set (Ae (Bn p) k).toNat (set.testBit k) from rfl] at ih3
    generalize Kj p set k = q at *
    clear ih ih2 g6
    rw [tI]
    repeat' first | refine su ?_ | (refine EV.reg ?_; (conv => (arg 2; whnf)); (repeat first | refine nx ?_ | simp only [Ao, lA1, bF, aS, ar, hkn])) | refine ZF ?_ | (refine xm ?_; (repeat first | refine nx ?_ | simp only [Ao, lA1, bF, aS, ar, hkn])) | (refine xw ?_; (repeat first | refine nx ?_ | simp only [Ao, lA1, bF, aS, ar, hkn])) | fail
    refine JD ih3 ?_
    exact eE
   ·have dY : k = (Bn p).length := by omega
    subst dY
    clear ih2
    rw [show Kj p set (Bn p).length = Ih p set from rfl]
    have bF := Ff p set
    repeat' first | fail
    refine Fh.keep Gi ?_
    have d4 : ElB (Ih p set) (Av db p.length p.length) (Mi.add [(db, Cl 4 ((Ih p set).map vb))]) := by
     refine ⟨some ⟨db, 0, none⟩, p.length, by rw [bF], by omega, Or.inr ⟨db, 0, rfl, ?_⟩⟩
     rw [Eh, bF, lAw]
     exact Fu bF
    refine N7.run (hy (xs ++ (List.range set).map (Ih p)) (Ih p set) (lAi.2 ⟨set, lAn.2 (by omega), rfl⟩) _ Gi _ (Aa.le_trans aB (Aa.le_trans ci (JB _ _))) (aE _ _ _ _ (JB _ _) j5) (by simpa using d4)) ?_
    rintro v3 M3 G3 el (⟨rfl, pC⟩ | ⟨rfl, pD⟩)
    ·simp only [wpS, wpA, J2, push_cast, lBd, reduceIte, Nat.reduceEqDiff, reduceCtorEq, Nat.reduceAdd, Nat.reduceSub, Nat.reduceMul, Int.reduceToNat, Nat.reduceLeDiff]
     repeat' first | refine su ?_ | (refine EV.reg ?_; (conv => (arg 2; whnf)); (repeat first | refine nx ?_ | simp only [lBj])) | (refine cX ?_ ?_ <;> intro h <;> try exact Ai h) | fail
     have ih3 := ih (set + 1, M3, G3) ⟨by dsimp only; omega, Aa.le_trans ci (Aa.le_trans (JB _ _) el), by
      dsimp only
      rw [lDp, lAu, lDx, ← lAc]; exact pC⟩ (by dsimp only; omega)
     dsimp only at ih3
     refine JD ih3 ?_
     exact eE
    ·simp only [wpS, wpA, J2, push_cast, lBd, reduceIte, Nat.reduceEqDiff, reduceCtorEq, Nat.reduceAdd, Nat.reduceSub, Nat.reduceMul, Int.reduceToNat, Nat.reduceLeDiff]
     repeat' first | (refine cX ?_ ?_ <;> intro h <;> try exact Ai h) | fail
     (refine rt Q13_ok ?_; try with_reducible exact ⟨⟩)
     exact Or.inr pD
 ·have f7 : set = n2 := by omega
  refine EV.done Q13_ok ?_
  (repeat first | refine nx ?_ | simp only [Q13])
  left
  subst f7
  rw [Gu, pG]; exact j5
theorem Yx (p : List Ev) (af : p.length ≤ 32) {ps : Value} (hps : Sl M 6 Bh ps p) : Con Tryz.prog 78 #[ps] M [] (Its (Gu p) ElB) := by
 refine Con.enter Q12_ok (args := [ps]) (by simp [Q12]) fun w0 => ?_
 simp only [Q12, A9]
 have cM := hps
 obtain ⟨ea, ec, rfl, aw⟩ := hps
 repeat' first | refine st ?_ | refine rg ?_ | (with_reducible intro b; try refine nx ?_) | exact ⟨⟩ | fail
 refine EV.keep [] ?_
 generalize hR : M.add _ = N
 have aB : M.le N := hR ▸ JB _ _
 (refine rt Q12_ok ?_; try with_reducible exact ⟨⟩)
 exact ⟨_, _, rfl, V7 p af (cM.mono aB) (hR ▸ B3 (T := 74) (cs := [.slice ea p.length ec]) (by simp) rfl (by simp))⟩
end
def H4 (p : List Ev) (ord : List (List Int)) (i : Nat) : List Int := -1 :: (ord[(evAt p i).op.loc.toNat]?.getD [])
def Gg (l : List Int) (i : Nat) : Int := Ae l (l.findIdx (fun y => decide ((i : Int) = y)) - 1)
def Bd (p : List Ev) (dn : List Bool) (ord : List (List Int)) (i : Nat) : List Int :=
 if (evAt p i).reads = false then [-2] else if dn[i]?.getD false then [Gg (H4 p ord i) i] else H4 p ord i
def B9 (p : List Ev) (dn : List Bool) (ord : List (List Int)) : Nat → Nat → List (List Int)
 | 0, _ => [[]]
 | k + 1, i => (Bd p dn ord i).flatMap fun w => (B9 p dn ord k (i + 1)).map (w :: ·)
def L5 (p : List Ev) (dn : List Bool) (ord : List (List Int)) : List (List Int) := B9 p dn ord p.length 0
structure OrdsOk (p : List Ev) (dn : List Bool) (ord : List (List Int)) : Prop where
 len : ord.length = 3
 bnd : ∀ l ∈ ord, l.length ≤ p.length
 mem : ∀ i, i < p.length → (evAt p i).reads = true → dn[i]?.getD false = true → (i : Int) ∈ ord[(evAt p i).op.loc.toNat]?.getD []
structure FromB (p : List Ev) (dn : List Bool) (ord : List (List Int)) (M : Aa) (l pb yb rb wb ob db fb : Nat) (ea da oa : Option Addr) (ec dc oc : Nat) (ovs : List Value) : Prop where
 hp : rd M pb 0 1 [.slice ea p.length ec]
 hy : rd M yb 0 1 [yv l]
 hr : rd M rb 0 1 [Av fb p.length p.length]
 hw : rd M wb 0 1 [.func (.func 112) #[] #[pv pb 0, pv yb 0, pv rb 0, pv wb 0, pv ob 0, pv db 0]]
 ho : rd M ob 0 1 [.slice oa ord.length oc]
 hd : rd M db 0 1 [.slice da dn.length dc]
 pr : rdS M 6 ea p.length (p.flatMap Bh)
 dr : rdS M 1 da dn.length (dn.flatMap eb)
 ol : ovs.length = ord.length
 orr : rdS M 1 oa ord.length ovs
 ok : ∀ i (h : i < ovs.length) (h' : i < ord.length), SlC M 1 ei ovs[i] ord[i]
section
variable {p : List Ev} {dn : List Bool} {ord : List (List Int)} {l pb yb rb wb ob db fb : Nat} {ea da oa : Option Addr} {ec dc oc : Nat} {ovs : List Value}
theorem FromB.mono {M M' : Aa} (h : FromB p dn ord M l pb yb rb wb ob db fb ea da oa ec dc oc ovs) (hM : M.le M') : FromB p dn ord M' l pb yb rb wb ob db fb ea da oa ec dc oc ovs :=
 ⟨h.hp.mono hM, h.hy.mono hM, h.hr.mono hM, h.hw.mono hM, h.ho.mono hM, h.hd.mono hM, h.pr.mono hM, h.dr.mono hM, h.ol, h.orr.mono hM, fun i a b => (h.ok i a b).mono hM⟩
theorem Al8 {ord0 : List Int} {i : Nat} (hm : (i : Int) ∈ ord0) : ∃ k, (-1 :: ord0).findIdx (fun y => decide ((i : Int) = y)) = k + 1 ∧ k + 1 < (-1 :: ord0 : List Int).length := by
 have h1 : ((-1 :: ord0 : List Int)).findIdx (fun y => decide ((i : Int) = y)) = ord0.findIdx (fun y => decide ((i : Int) = y)) + 1 := by
  rw [List.findIdx_cons]
  have : decide ((i : Int) = -1) = false := decide_eq_false (by omega)
  rw [this]; rfl
 refine ⟨_, h1, ?_⟩
 have := lEy (p := fun y => decide ((i : Int) = y)).2 ⟨(i : Int), hm, decide_eq_true rfl⟩
 simp only [lB5]; omega
theorem take_set {cur : List Int} {i : Nat} (hi : i < cur.length) (w : Int) : (cur.set i w).take (i + 1) = cur.take i ++ [w] := by
 rw [lA7 (by simpa using hi), lCx (lA5 i)]
 simp
theorem Yy (hp : POk p) (bF : dn.length = p.length) (fj : OrdsOk p dn ord) {L : List (List Int)} {I : List (List Int) → Aa → Own → Prop} {S : Aa → Own → Prop} {M0 : Aa}
  (aE : ∀ xs M2 M3 G2, M2.le M3 → I xs M2 G2 → I xs M3 G2)
  (hy : ∀ xs x, x ∈ L → ∀ M2 G2 v, M0.le M2 → I xs M2 G2 → SlC M2 1 ei v x → N7 Tryz.prog l #[v] M2 G2 fun b M3 G3 => (b = .bool true ∧ I (xs ++ [x]) M3 G3) ∨ (b = .bool false ∧ S M3 G3)) :
  ∀ (k i : Nat) (cur : List Int) (xs : List (List Int)) (M : Aa) (G : Own), i + k = p.length → cur.length = p.length → M0.le M → FromB p dn ord M l pb yb rb wb ob db fb ea da oa ec dc oc ovs →
   (∀ m ∈ B9 p dn ord k i, cur.take i ++ m ∈ L) → I xs M G →
   Con Tryz.prog 112 #[vi i, pv pb 0, pv yb 0, pv rb 0, pv wb 0, pv ob 0, pv db 0] M ((fb, Cl 3 (cur.map vi)) :: G) fun v M' G' =>
    ∃ (cur' : List Int) (G1 : Own), G'.Perm ((fb, Cl 3 (cur'.map vi)) :: G1) ∧ cur'.length = p.length ∧ cur'.take i = cur.take i ∧
     ((v = .bool true ∧ I (xs ++ (B9 p dn ord k i).map (cur.take i ++ ·)) M' G1) ∨ (v = .bool false ∧ S M' G1)) := by
 have hb := hp.len
 intro k
 induction k with
 | zero =>
  intro i cur xs M G d7 aO hM hB hL hI
  have hi : i = p.length := by omega
  subst hi
  have h1 := hB.hp
  have h2 := hB.hy
  have h3 := hB.hr
  refine Con.enter Q22_ok (args := [vi p.length, pv pb 0, pv yb 0, pv rb 0, pv wb 0, pv ob 0, pv db 0]) (by simp [Q22]) fun w0 => ?_
  simp only [Q22, A9]
  repeat' first | refine st ?_ | (refine EV.reg ?_; (conv => (arg 2; whnf)); (repeat first | refine nx ?_ | simp only [decide_true])) | (refine cX ?_ ?_ <;> intro h <;> try exact Ai h) | (refine xn ?_; (repeat first | refine nx ?_ | simp only [decide_true])) | fail
  refine EV.any (t := Ci8) [] (lAh _) ?_
  simp only [An, Aq, Al, Au, reduceIte, Nat.reduceEqDiff]
  repeat' first | ((first | refine zo (fun lq aD => ?_) | refine zl ?_ | fail); try refine nz ?_) | (refine ZA (fun tq aA => ?_) (fun tq aA => ?_) <;> try refine nz ?_) | exact zn | ((first | refine xm ?_ | refine xn ?_ | fail); try refine nz ?_) | exact ⟨⟩ | fail
  have bz : Sl (M.add ((fb, Cl 3 (cur.map vi)) :: G)) 1 ei (Av fb p.length p.length) cur := ⟨some ⟨fb, 0, none⟩, p.length, by rw [aO], Or.inr ⟨fb, 0, rfl, by rw [Ax, lAw, aO]; exact Fu aO⟩⟩
  refine Con.callB (G1 := []) (Gt cur _ bz (by omega)) (Aa.le_refl _) (lAe _) ?_
  rintro v1 M1 G1 ⟨o1, rfl, bQ, rfl⟩
  refine ⟨Aa.le_refl _, fun q hq => absurd hq lB4, ?_⟩
  repeat' first | (refine zl ?_; try refine nz ?_) | refine zq (fun lq tq aD aA => ?_) | (refine ZB (fun tq aA => ?_) (fun tq aA => ?_) <;> try refine nz ?_) | exact zn | exact ⟨⟩ | fail
  refine Fh.frzS (osg 3 o1 (cur.map vi)) ?_
  have aI : cur ∈ L := by
   have := hL [] (by simp [B9])
   rwa [lAa, lAx (by omega)] at this
  have ah : SlC (M.add (osg 3 o1 (cur.map vi))) 1 ei (osv o1 cur.length) cur := Gf bQ rfl (fun q hq => hq)
  refine N7.callS (hy xs cur aI _ G _ (Aa.le_trans hM (JB _ _)) (aE _ _ _ _ (JB _ _) hI) ah) ?_
  rintro b M2 G2 bZ eQ
  repeat' first | ((first | refine zo (fun lq aD => ?_) | refine zl ?_ | fail); try refine nz ?_) | refine zq (fun lq tq aD aA => ?_) | refine zf ?_ | exact ⟨⟩ | fail
  (refine rt Q22_ok ?_; try with_reducible exact ⟨⟩)
  refine ⟨cur, G2, lAe _, aO, rfl, ?_⟩
  simpa [B9, lAx (Nat.le_of_eq aO)] using eQ
 | succ k ihk =>
  intro i cur xs M G d7 aO hM hB hL hI
  have hi : i < p.length := by omega
  have h1 := hB.hp
  have h2 := hB.hy
  have h3 := hB.hr
  have h4 := hB.hw
  have h5 := hB.ho
  have h6 := hB.hd
  obtain ⟨eb1, eo, rfl, hat⟩ := Sl.at (enc := Bh) (fun _ => rfl) (by decide) hB.pr (by omega)
  have i8 := JJ hat i hi
  have pI := i8.pt 1 1 (by omega) rfl
  have ue : (i : Int) < p.length := by omega
  have hne : decide ((i : Int) = p.length) = false := decide_eq_false (by omega)
  have tK : i < cur.length := by omega
  have aT : IntKind.i64.wrap ((i : Int) + 1) = ((i + 1 : Nat) : Int) := w64 (by omega) (by omega)
  refine Con.enter Q22_ok (args := [vi i, pv pb 0, pv yb 0, pv rb 0, pv wb 0, pv ob 0, pv db 0]) (by simp [Q22]) fun w0 => ?_
  simp only [Q22, A9]
  cases hre : (evAt p i).reads with
  | false =>
   have fk : Bd p dn ord i = [-2] := by simp [Bd, hre]
   repeat' first | refine st ?_ | (refine EV.reg ?_; (conv => (arg 2; whnf)); (repeat first | refine nx ?_ | simp only [hne, hre, aT, Ao, lA1, aO, hi])) | (refine As.call (Cc (evAt p i)) ?_; (repeat first | refine nx ?_ | simp only [hne, hre, aT, Ao, lA1, aO, hi])) | (refine cX ?_ ?_ <;> intro h <;> try exact Ai h) | refine ZF ?_ | ((first | refine xm ?_ | refine xn ?_ | fail); (repeat first | refine nx ?_ | simp only [hne, hre, aT, Ao, lA1, aO, hi])) | (refine xw ?_; (repeat first | refine nx ?_ | simp only [hne, hre, aT, Ao, lA1, aO, hi])) | fail
   have ik := take_set tK (-2)
   refine Con.run (ihk (i + 1) (cur.set i (-2)) xs M G (by omega) (by rw [lBh]; exact aO) hM hB (fun m hm => ?_) hI) ?_
   ·rw [ik, lAc]
    refine hL _ ?_
    simp only [B9, fk, lC8]
    exact lAi.2 ⟨m, hm, rfl⟩
   rintro v M' G' ax ⟨cur', G1, i7, b8, eO, aF⟩
   repeat' first | fail
   (refine rt Q22_ok ?_; try with_reducible exact ⟨⟩)
   rw [ik] at eO aF
   refine ⟨cur', G1, i7, b8, ?_, ?_⟩
   ·have := congrArg (List.take i) eO
    rw [lDb, lBx (by omega)] at this
    rw [this, lCv (by rw [lC0]; omega), lDb, Nat.min_self]
   ·have e : (B9 p dn ord (k + 1) i).map (cur.take i ++ ·) = (B9 p dn ord k (i + 1)).map ((cur.take i ++ [-2]) ++ ·) := by
     simp only [B9, fk, lC8, lE2]
     apply lEq; intro y _; simp
    rw [e]; exact aF
  | true =>
   have fk : Bd p dn ord i = if dn[i]?.getD false then [Gg (H4 p ord i) i] else H4 p ord i := by simp [Bd, hre]
   have bY := hp.loc i hi
   have g8 := fj.len
   have hlo : (evAt p i).op.loc.toNat < ord.length := by omega
   obtain ⟨ob1, oo, rfl, bU⟩ := D4.at hB.orr hB.ol hB.ok (by omega)
   obtain ⟨db1, do1, rfl, gd⟩ := Sl.at (sz := 1) (enc := eb) (fun _ => rfl) (by decide) hB.dr (by omega)
   obtain ⟨la, lc, aR, cW, aW⟩ := bU _ hlo
   rw [lAw] at aR
   rw [Ax] at aW
   have rZ : rd M db1 (do1 + i) 1 [vb (dn[i]?.getD false)] := by
    have := gd i (by omega)
    rw [lAw] at this
    rwa [lA2 (by omega : i < dn.length)]
   have tL : (evAt p i).op.loc < (ord.length : Int) := by omega
   have tD : (i : Int) < dn.length := by omega
   have cN : H4 p ord i = -1 :: ord[(evAt p i).op.loc.toNat] := by simp only [H4]; rw [lA2 hlo]; rfl
   have fg := fj.bnd _ (lAm hlo)
   have nm := fj.mem i hi hre
   rw [show ord[(evAt p i).op.loc.toNat]?.getD [] = ord[(evAt p i).op.loc.toNat] from by rw [lA2 hlo]; rfl] at nm
   generalize ord[(evAt p i).op.loc.toNat] = o0 at *
   repeat' first | refine st ?_ | (refine EV.reg ?_; (conv => (arg 2; whnf)); (repeat first | refine nx ?_ | simp only [hne, hre])) | (refine As.call (Cc (evAt p i)) ?_; (repeat first | refine nx ?_ | simp only [hne, hre])) | (refine cX ?_ ?_ <;> intro h <;> try exact Ai h) | refine ZF ?_ | ((first | refine xm ?_ | refine xn ?_ | fail); (repeat first | refine nx ?_ | simp only [hne, hre])) | fail
   refine EV.any (t := Ci9) [] (lAh _) ?_
   simp only [An, Aq, Al, Au, reduceIte, Nat.reduceEqDiff]
   repeat' first | ((first | refine zo (fun lq aD => ?_) | refine zl ?_ | fail); try refine nz ?_) | refine zq (fun lq tq aD aA => ?_) | (refine ZA (fun tq aA => ?_) (fun tq aA => ?_) <;> try refine nz ?_) | (refine ZB (fun tq aA => ?_) (fun tq aA => ?_) <;> try refine nz ?_) | exact zn | refine ZF ?_ | ((first | with_reducible intro b | refine xm ?_ | refine xn ?_ | refine lAd (Aa.le_refl _) (lAd (Ay ?_) ?_); focus ((repeat' first | exact lA0 _ | exact lAh _ | exact lAj _ _ | refine lAf _ ?_ | refine lAo ?_ _ | refine lAb ?_ | refine lAp _ ?_); done) | fail); try refine nz ?_) | exact ⟨⟩ | fail
   refine ⟨o0.map vi, Vz aW, Xf _, Or.inl ⟨some (b, 1, []), 1, rfl, [vi (-1)], ⟨rfl, rfl, lA5 _, by decide⟩, (fb, Cl 3 (cur.map vi)) :: G, by simp [osg], by simp only [maxLen]; omega, by omega, fun o2 an _ => ?_⟩⟩
   repeat' first | ((first | refine zo (fun lq aD => ?_) | refine zl ?_ | fail); try refine nz ?_) | refine zq (fun lq tq aD aA => ?_) | refine zf ?_ | exact ⟨⟩ | fail
   have il : Eo 1 o2 (1 + o0.length) ((H4 p ord i).map vi) := by rw [cN]; simpa using an
   rw [show vi (-1) :: o0.map vi = (H4 p ord i).map vi from by rw [cN]; rfl]
   refine EV.frz (osg 3 o2 ((H4 p ord i).map vi)) ?_
   have lz : (H4 p ord i).length = 1 + o0.length := by rw [cN, lB5]; omega
   have ah : SlC (M.add (osg 3 o2 ((H4 p ord i).map vi))) 1 ei (osv o2 (1 + o0.length)) (H4 p ord i) := Gf il lz.symm (fun q hq => hq)
   generalize hN : M.add (osg 3 o2 ((H4 p ord i).map vi)) = N at *
   have aB : M.le N := hN ▸ JB _ _
   have pJ := hB.mono aB
   have ge := aE _ _ _ _ aB hI
   have r9 := rZ.mono aB
   have uf := h6.mono aB
   clear hN aR aW i8 pI h1 h2 h5 hat gd bU
   refine EV.seq (JH (fun ρ' M' G' => ∃ ca cc, M' = N ∧ rdS N 1 ca (Bd p dn ord i).length ((Bd p dn ord i).map vi) ∧ (∀ q ∈ [(0, vi i), (1, pv pb 0), (2, pv yb 0), (3, pv rb 0), (4, pv wb 0), (5, pv ob 0), (6, pv db 0), (9, .slice ca (Bd p dn ord i).length cc)], get ρ' q.1 = some q.2) ∧ G' = (fb, Cl 3 (cur.map vi)) :: G) ?_ ?_)
   ·intro k' key
    cases hdn : dn[i]?.getD false with
    | false =>
     rw [hdn] at r9 fk
     rw [if_neg (by simp)] at fk
     repeat' first | refine st ?_ | refine rg ?_ | (refine cX ?_ ?_ <;> intro h <;> try exact Ai h) | refine ZF ?_ | ((first | refine xm ?_ | refine xn ?_ | fail); try refine nx ?_) | exact ⟨⟩ | fail
     obtain ⟨a9, c9, e9, _, pK⟩ := ah
     rw [e9]
     refine JI (key _ _ _ ⟨a9, c9, rfl, ?_, ?_, rfl⟩)
     ·rw [fk]; rwa [Ax] at pK
     ·rw [fk]
      exact eE
    | true =>
     rw [hdn] at r9 fk
     rw [if_pos rfl] at fk
     obtain ⟨k0, jy, bs⟩ := Al8 (nm hdn)
     rw [← cN] at jy bs
     have pL : Ge (fun y => decide ((i : Int) = y)) (H4 p ord i) = ((k0 + 1 : Nat) : Int) := by
      rw [Ge, dif_pos (by omega), jy]
     have bN : Gg (H4 p ord i) i = Ae (H4 p ord i) k0 := by rw [Gg, jy]; rfl
     repeat' first | refine st ?_ | refine rg ?_ | (refine As.call (Yv (H4 p ord i) _ (ah.sl.mono (JB _ _)) (by omega) i) ?_; try refine nx ?_) | (refine cX ?_ ?_ <;> intro h <;> try exact Ai h) | refine ZF ?_ | ((first | refine xm ?_ | refine xn ?_ | fail); try refine nx ?_) | exact ⟨⟩ | fail
     obtain ⟨a9, c9, e9, ug, pK⟩ := ah
     cases o2 with
     | none => exact absurd il.1 (by omega)
     | some ob2 =>
      obtain ⟨b2, cap2, sp2⟩ := ob2
      simp only [Value.slice.injEq, Ft, Et] at e9
      obtain ⟨ea9, en9, ec9⟩ := e9
      subst ea9 ec9
      simp only [lC6, Cw, pL, Et, Ft]
      have dD : IntKind.i64.wrap (((k0 + 1 : Nat) : Int) - 1) = k0 := (w64 (by omega) (by omega)).trans (by omega)
      refine ⟨k0, by rw [dD], k0 + 1, rfl, by omega, by omega, Or.inl rfl, ?_⟩
      have eadd : (⟨b2, 0, none⟩ : Addr).add k0 = ⟨b2, 0 + k0, none⟩ := by
       unfold Addr.add; split
       ·rename_i h0; rw [h0]
       ·rfl
      rw [Nat.add_sub_cancel_left, eadd]
      have pM : ¬ cap2 = k0 := by omega
      simp only [pM, if_false]
      refine JI (key _ _ _ ⟨some ⟨b2, 0 + k0, none⟩, cap2 - k0, rfl, ?_, ?_, rfl⟩)
      ·rw [fk, bN]
       rcases pK with ⟨h0, _⟩ | ⟨b', o', e', be⟩
       ·omega
       ·cases e'
        refine Or.inr ⟨b2, 0 + k0, rfl, ?_⟩
        have bh : k0 < (H4 p ord i).length := by omega
        have := be.pt (out := [vi (H4 p ord i)[k0]]) k0 1 (by omega) (by rw [Ax]; exact Kg vi _ bh)
        simp only [Ae, lA2 (by omega : k0 < (H4 p ord i).length), lAr]
        exact this
      ·rw [fk]
       exact eE
   rintro ρ2 M2 G2 ⟨ca, cc, rfl, tM, hq, rfl⟩
   refine JA ?_ hq (lA0 _)
   clear hq ah
   have tN : (Bd p dn ord i).length ≤ 33 := by
    rw [fk]; split
    ·simp
    ·rw [lz]; omega
   have mA : B9 p dn ord (k + 1) i = (Bd p dn ord i).flatMap fun w => (B9 p dn ord k (i + 1)).map (w :: ·) := rfl
   generalize Bd p dn ord i = ch at *
   repeat' first | refine st ?_ | refine rg ?_ | exact ⟨⟩ | fail
   refine JC (fun x : Nat × Aa × Own × List Int => ([(0, vi i), (1, pv pb 0), (2, pv yb 0), (3, pv rb 0), (4, pv wb 0), (5, pv ob 0), (6, pv db 0), (57, .slice ca ch.length cc), (58, vi ch.length), (59, vi x.1)], x.2.1, (fb, Cl 3 (x.2.2.2.map vi)) :: x.2.2.1))
    (fun x => x.1 ≤ ch.length ∧ M2.le x.2.1 ∧ x.2.2.2.length = p.length ∧ x.2.2.2.take i = cur.take i ∧ I (xs ++ ((ch.take x.1).flatMap fun w => (B9 p dn ord k (i + 1)).map (w :: ·)).map (cur.take i ++ ·)) x.2.1 x.2.2.1) (fun x => ch.length - x.1) (0, M2, G, cur) rfl ⟨lA8 _, Aa.le_refl _, aO, rfl, by simpa using ge⟩ ?env1 (lA0 _) ?_
   case env1 =>
    exact eE
   rintro ⟨j, Mj, Gj, cj⟩ ⟨hj, kM, fm, kN, nn⟩ ih
   dsimp only at hj kM fm kN nn ih ⊢
   repeat' first | refine st ?_ | refine rg ?_ | (refine cX ?_ ?_ <;> intro h <;> try exact Ai h) | exact ⟨⟩ | fail
   ·have aN : j < ch.length := by omega
    obtain ⟨cb, co, rfl, mB⟩ := Sl.at (sz := 1) (enc := ei) (fun _ => rfl) (by decide) (by rw [Ax]; exact tM) (by omega)
    have uh := (C2 mB j aN).mono kM
    have ui := (pJ.mono kM).hr
    have uj := (pJ.mono kM).hw
    have pN : i < cj.length := by omega
    have j6 : Ae ch j = ch[j] := by simp only [Ae, lA2 aN, lAr]
    clear mB
    repeat' first | refine st ?_ | (refine EV.reg ?_; (conv => (arg 2; whnf)); (repeat first | refine nx ?_ | simp only [aT, Ao, lA1, fm, hi])) | refine ZF ?_ | ((first | refine xm ?_ | refine xn ?_ | fail); (repeat first | refine nx ?_ | simp only [aT, Ao, lA1, fm, hi])) | (refine xw ?_; (repeat first | refine nx ?_ | simp only [aT, Ao, lA1, fm, hi])) | fail
    have ik := take_set pN (Ae ch j)
    rw [kN] at ik
    refine Con.run (ihk (i + 1) (cj.set i (Ae ch j)) (xs ++ ((ch.take j).flatMap fun w => (B9 p dn ord k (i + 1)).map (w :: ·)).map (cur.take i ++ ·)) Mj Gj (by omega) (by rw [lBh]; exact fm) (Aa.le_trans hM (Aa.le_trans aB kM)) (pJ.mono kM) (fun m hm => ?_) nn) ?_
    ·rw [ik, lAc]
     refine hL _ ?_
     rw [mA]
     exact lB3.2 ⟨ch[j], lAm aN, lAi.2 ⟨m, hm, by rw [j6]; rfl⟩⟩
    rintro v M' G' ax ⟨cur', G1, i7, b8, eO, aF⟩
    rw [ik] at eO aF
    have np : cur'.take i = cur.take i := by
     have := congrArg (List.take i) eO
     rw [lDb, lBx (by omega)] at this
     rw [this, lCv (by rw [lC0]; omega), lDb, Nat.min_self]
    have esum : xs ++ ((ch.take (j + 1)).flatMap fun w => (B9 p dn ord k (i + 1)).map (w :: ·)).map (cur.take i ++ ·) = (xs ++ ((ch.take j).flatMap fun w => (B9 p dn ord k (i + 1)).map (w :: ·)).map (cur.take i ++ ·)) ++ (B9 p dn ord k (i + 1)).map ((cur.take i ++ [Ae ch j]) ++ ·) := by
     rw [lA7 aN, lAy, lAu, ← lAc, lC8, lE2, j6]
     congr 1
     apply lEq; intro y _; simp
    rcases aF with ⟨rfl, aF⟩ | ⟨rfl, aF⟩
    ·repeat' first | refine su ?_ | (refine EV.reg ?_; (conv => (arg 2; whnf)); (repeat first | refine nx ?_ | simp only [lBj])) | (refine cX ?_ ?_ <;> intro h <;> try exact Ai h) | fail
     have ih3 := ih (j + 1, M', G1, cur') ⟨by dsimp only; omega, Aa.le_trans kM ax, b8, np, by rw [esum]; exact aF⟩ (by dsimp only; omega)
     dsimp only at ih3
     refine JF ?_ i7
     refine JD ih3 ?_
     exact eE
    ·repeat' first | refine st ?_ | (refine EV.reg ?_; (conv => (arg 2; whnf)); (repeat first | refine nx ?_ | simp only [lBl])) | (refine cX ?_ ?_ <;> intro h <;> try exact Ai h) | fail
     (refine rt Q22_ok ?_; try with_reducible exact ⟨⟩)
     exact ⟨cur', G1, i7, b8, np, Or.inr aF⟩
   ·have jZ : j = ch.length := by omega
    subst jZ
    rw [lB1] at nn
    (refine rt Q22_ok ?_; try with_reducible exact ⟨⟩)
    exact ⟨cj, Gj, lAe _, fm, kN, Or.inl (mA ▸ nn)⟩
theorem V8 {M : Aa} (hp : POk p) (bF : dn.length = p.length) (fj : OrdsOk p dn ord) {ps ds os : Value} (hps : Sl M 6 Bh ps p) (dM : Sl M 1 eb ds dn) (iK : D4 M 1 ei os ord)
  (h1 : rd M pb 0 1 [ps]) (h2 : rd M ob 0 1 [os]) (h3 : rd M db 0 1 [ds]) : Ad3 Tryz.prog 111 #[] #[pv pb 0, pv ob 0, pv db 0] M (L5 p dn ord) ElI := by
 intro ly I S M1 G hM aE hy xs hI
 have hb := hp.len
 have dF := h1.mono hM
 have gf := h2.mono hM
 have lI := h3.mono hM
 obtain ⟨ea, ec, rfl, aw⟩ := hps
 obtain ⟨da, dc, rfl, iL⟩ := dM
 obtain ⟨oa, oc, ovs, rfl, bC, aj, ae⟩ := iK
 refine Con.enter Q21_ok (args := [yv ly, pv pb 0, pv ob 0, pv db 0]) (by simp [Q21]) fun w0 => ?_
 simp only [Q21, A9]
 refine EV.seq (EV.reg ?_)
 (repeat first | refine nx ?_ | simp only [Ci7])
 intro yb
 repeat' first | fail
 refine EV.seq ?_
 repeat' first | (refine EV.reg ?_; (conv => (arg 2; whnf)); (repeat first | refine nx ?_ | simp only [A6])) | (with_reducible intro b; (repeat first | refine nx ?_ | simp only [A6])) | refine ZF ?_ | (refine xn ?_; (repeat first | refine nx ?_ | simp only [A6])) | (refine xw ?_; (repeat first | refine nx ?_ | simp only [A6])) | fail
 rename Nat => rb
 rename Nat => fb
 refine EV.seq ?_
 repeat' first | refine rg ?_ | (with_reducible intro b; try refine nx ?_) | exact ⟨⟩ | fail
 rename Nat => wb
 refine EV.seq ?_
 repeat' first | refine rg ?_ | (refine xiA rfl ?_; try refine nx ?_) | (refine xw ?_; refine nx ?_) | exact ⟨⟩ | fail
 have rf : b = b := rfl
 generalize b = rowb at *
 refine Dc.frzS [(wb, Cl 123 [.func (.func 112) #[] #[pv pb 0, pv yb 0, pv fb 0, pv wb 0, pv ob 0, pv db 0]]), (fb, Cl 34 [Av rowb p.length p.length]), (yb, Cl 151 [yv ly])] ?_
 generalize hR : M1.add _ = N
 have aB : M1.le N := hR ▸ JB _ _
 have dH := Aa.le_trans hM aB
 have hB : FromB p dn ord N ly pb yb fb wb ob db rowb ea da oa ec dc oc ovs :=
  ⟨dF.mono aB, hR ▸ Ap 2 rfl rfl (by simp), hR ▸ Ap 1 rfl rfl (by simp), hR ▸ Ap 0 rfl rfl (by simp), gf.mono aB, lI.mono aB, aw.mono dH, iL.mono dH, bC, aj.mono dH, fun i a b => (ae i a b).mono dH⟩
 clear hR
 rw [show (List.replicate p.length (Value.int IntKind.i64 0)) = (List.replicate p.length (0 : Int)).map vi from by simp]
 refine Con.callS (Yy hp bF fj (L := L5 p dn ord) aE (fun xs x hx M2 G2 v h4 h5 h6 => hy xs x hx M2 G2 v (Aa.le_trans aB h4) h5 h6) p.length 0 (List.replicate p.length 0) xs N G (by omega) (by simp) (Aa.le_refl _) hB (fun m hm => by simpa [L5] using hm) (aE _ _ _ _ aB hI)) ?_
 rintro v M' G' ax ⟨cur', G1, i7, b8, eO, aF⟩
 refine JF (G' := (rowb, Cl 3 (cur'.map vi)) :: G1) ?_ (by simpa using i7)
 refine JA (ρ' := []) (G' := G1) ?_ (fun _ h => absurd h lB4) (lD8 _ _)
 refine EV.done Q21_ok ?_
 (repeat first | refine nx ?_ | simp only [Q21])
 rcases aF with ⟨_, aF⟩ | ⟨_, aF⟩
 ·left; simpa [L5] using aF
 ·right; exact aF
theorem Yz {M : Aa} (hp : POk p) (bF : dn.length = p.length) (fj : OrdsOk p dn ord) {ps ds os : Value} (hps : Sl M 6 Bh ps p) (dM : Sl M 1 eb ds dn) (iK : D4 M 1 ei os ord) :
  Con Tryz.prog 80 #[ps, ds, os] M [] (Its (L5 p dn ord) ElI) := by
 have cM := hps
 have gh := dM
 have pO := iK
 obtain ⟨ea, ec, rfl, aw⟩ := hps
 obtain ⟨da, dc, rfl, iL⟩ := dM
 obtain ⟨oa, oc, ovs, rfl, bC, aj, ae⟩ := iK
 refine Con.enter Q20_ok (args := [.slice ea p.length ec, .slice da dn.length dc, .slice oa ord.length oc]) (by simp [Q20]) fun w0 => ?_
 simp only [Q20, A9]
 repeat' first | refine st ?_ | refine rg ?_ | (with_reducible intro b; try refine nx ?_) | exact ⟨⟩ | fail
 refine EV.keep [] ?_
 generalize hR : M.add _ = N
 have aB : M.le N := hR ▸ JB _ _
 (refine rt Q20_ok ?_; try with_reducible exact ⟨⟩)
 refine ⟨_, _, rfl, V8 hp bF fj (cM.mono aB) (gh.mono aB) (pO.mono aB) ?_ ?_ ?_⟩
 ·exact hR ▸ B3 (T := 74) (cs := [.slice ea p.length ec]) (by simp) rfl (by simp)
 ·exact hR ▸ B3 (T := 26) (cs := [.slice oa ord.length oc]) (by simp) rfl (by simp)
 ·exact hR ▸ B3 (T := 35) (cs := [.slice da dn.length dc]) (by simp) rfl (by simp)
end
def Bs (p : List Ev) (dn : List Bool) : Nat → Int → List (List (List Int))
 | 0, _ => [[]]
 | k + 1, loc => (Cn p (A7 p dn loc)).flatMap fun l => (Bs p dn k (loc + 1)).map (l :: ·)
def On (p : List Ev) (dn : List Bool) : List (List (List Int)) := Bs p dn 3 0
def ElO (x : List (List Int)) (v : Value) (M : Aa) : Prop := D4 M 1 ei v x
theorem D4.ok1 {H : Aa} {vs : List Value} {xss : List (List Int)} (hl : vs.length = xss.length) (hk : ∀ i (h : i < vs.length) (h' : i < xss.length), SlC H 1 ei vs[i] xss[i]) : ok1 vs := by
 intro v hv
 obtain ⟨i, hi, rfl⟩ := lBf hv
 obtain ⟨a, c, e, _⟩ := hk i hi (by omega)
 rw [e]; rfl
theorem Jp {p : List Ev} {dn : List Bool} : ∀ (k : Nat) (loc : Int) (x : List (List Int)), x ∈ Bs p dn k loc → x.length = k
 | 0, _, x, h => by simp [Bs] at h; subst h; rfl
 | k + 1, loc, x, h => by
  simp only [Bs, lB3, lAi] at h
  obtain ⟨l, _, y, hy, rfl⟩ := h
  simp [Jp k _ y hy]
theorem Lh (p : List Ev) (dn : List Bool) (loc : Int) : Ib p (A7 p dn loc) := fun x hx => by
 obtain ⟨i, h1, _, rfl⟩ := B5.1 hx; omega
section
variable {M : Aa}
theorem L6 (p : List Ev) (dn : List Bool) (af : p.length ≤ 32) (bF : dn.length = p.length) (k : Nat) (loc : Int) (hk : loc + k = 3) (h0 : 0 ≤ loc)
  (bf : ∀ k', k = k' + 1 → ∀ M' (ps ds : Value), Sl M' 6 Bh ps p → Sl M' 1 eb ds dn → Con Tryz.prog 79 #[ps, ds, vi (loc + 1)] M' [] (Its (Bs p dn k' (loc + 1)) ElO))
  {ps ds : Value} {lb pb db : Nat} (hps : Sl M 6 Bh ps p) (dM : Sl M 1 eb ds dn) (h1 : rd M lb 0 1 [vi loc]) (h2 : rd M pb 0 1 [ps]) (h3 : rd M db 0 1 [ds]) :
  Ad3 Tryz.prog 109 #[] #[pv lb 0, pv pb 0, pv db 0] M (Bs p dn k loc) ElO := by
 intro ly I S M1 G hM aE hy xs hI
 have dF := h1.mono hM
 have gf := h2.mono hM
 have lI := h3.mono hM
 have du := hps.mono hM
 have fZ := dM.mono hM
 obtain ⟨ea, ec, rfl, aw⟩ := hps
 obtain ⟨da, dc, rfl, iL⟩ := dM
 refine Con.enter Q28_ok (args := [yv ly, pv lb 0, pv pb 0, pv db 0]) (by simp [Q28]) fun w0 => ?_
 simp only [Q28, A9]
 refine EV.seq (EV.reg ?_)
 (repeat first | refine nx ?_ | simp only [Ci4])
 intro yb
 refine EV.frz [(yb, Cl 149 [yv ly])] ?_
 generalize hR : M1.add _ = N
 have aB : M1.le N := hR ▸ JB _ _
 have mC : rd N yb 0 1 [yv ly] := hR ▸ Ap 0 rfl rfl (by simp)
 clear hR
 have kL := dF.mono aB
 have mD := gf.mono aB
 have rh := lI.mono aB
 have ge := aE _ _ _ _ aB hI
 cases k with
 | zero =>
  have mE : decide (loc = 3) = true := decide_eq_true (by omega)
  repeat' first | refine st ?_ | (refine EV.reg ?_; (conv => (arg 2; whnf)); (repeat first | refine nx ?_ | simp only [mE])) | (refine cX ?_ ?_ <;> intro h <;> try exact Ai h) | (refine xm ?_; (repeat first | refine nx ?_ | simp only [mE])) | fail
  refine N7.run (hy xs [] (by simp [Bs]) N G _ aB ge ⟨none, 0, [], rfl, rfl, .inl ⟨rfl, rfl⟩, fun i h => absurd h (lBy _)⟩) ?_
  intro v M' G' ax hv
  repeat' first | fail
  (refine rt Q28_ok ?_; try with_reducible exact ⟨⟩)
  rcases hv with ⟨_, hv⟩ | ⟨_, hv⟩
  ·left; exact hv
  ·right; exact hv
 | succ k =>
  have mE : decide (loc = 3) = false := decide_eq_false (by omega)
  repeat' first | refine st ?_ | (refine EV.reg ?_; (conv => (arg 2; whnf)); (repeat first | refine nx ?_ | simp only [mE])) | (refine cX ?_ ?_ <;> intro h <;> try exact Ai h) | (refine xm ?_; (repeat first | refine nx ?_ | simp only [mE])) | fail
  refine EV.any (t := Ci5) [] (lAh _) ?_
  simp only [An, Aq, Al, Au, reduceIte, Nat.reduceEqDiff]
  repeat' first | ((first | refine zo (fun lq aD => ?_) | refine zl ?_ | fail); try refine nz ?_) | (refine ZA (fun tq aA => ?_) (fun tq aA => ?_) <;> try refine nz ?_) | exact zn | ((first | refine xm ?_ | refine xn ?_ | fail); try refine nz ?_) | exact ⟨⟩ | fail
  refine Con.callS (G1 := []) (Tt p _ (du.mono aB) (by omega) dn _ (fZ.mono aB) bF loc) ?_
  rintro v M2 G2 bZ ⟨_, ⟨ow, rfl, tO, rfl⟩, rfl⟩
  refine ⟨bZ, fun q hq => absurd hq lB4, ?_⟩
  repeat' first | (refine zl ?_; try refine nz ?_) | refine zq (fun lq tq aD aA => ?_) | (refine ZB (fun tq aA => ?_) (fun tq aA => ?_) <;> try refine nz ?_) | exact zn | exact ⟨⟩ | fail
  refine Dc.keep G ?_
  generalize hR : M2.add _ = N2
  have im : M2.le N2 := hR ▸ JB _ _
  have tP : SlC N2 1 ei (osv ow (A7 p dn loc).length) (A7 p dn loc) := hR ▸ Gf (T := 3) tO rfl (fun q hq => by simp [hq])
  clear hR
  have ej := Aa.le_trans bZ im
  have cF : (A7 p dn loc).length ≤ p.length := Bj _ _
  refine Con.callS (G1 := []) (Om p (by omega) (du.mono (Aa.le_trans aB ej)) tP (Lh p dn loc) (by omega)) ?_
  rintro v M3 G3 el ⟨g, caps, rfl, cy⟩
  repeat' first | (refine zl ?_; try refine nz ?_) | refine zq (fun lq tq aD aA => ?_) | refine zf ?_ | exact ⟨⟩ | fail
  have mF := Aa.le_trans ej el
  refine JD (ρ' := [(0, yv ly), (1, pv lb 0), (2, pv pb 0), (3, pv db 0), (4, pv yb 0), (16, .func (.func g) #[] caps)]) (G' := G) ?_ ?env1
  case env1 =>
   exact eE
  refine EV.block ?_
  have e8 := bf k rfl
  have nq : Bs p dn (k + 1) loc = (Cn p (A7 p dn loc)).flatMap fun l => (Bs p dn k (loc + 1)).map (l :: ·) := rfl
  have mG : IntKind.i64.wrap (loc + 1) = loc + 1 := w64 (by omega) (by omega)
  generalize Cn p (A7 p dn loc) = ms at *
  generalize mH : Bs p dn k (loc + 1) = rs at *
  refine EV.over rfl rfl rfl cy (fun d ls M G' => ∃ G0, G'.Perm ((d, Obj.deferred (some [])) :: G0) ∧ I (xs ++ ls.flatMap fun l => rs.map (l :: ·)) M G0)
   (fun d c M G' => c = .ret ∧ ∃ G0, G'.Perm ((d, Obj.deferred (some [])) :: G0) ∧ S M G0) ?_ ?_ ?_ ?_ ?_
  ·rintro d ls M4 M5 G4 a8 ⟨G0, hp, gl⟩
   exact ⟨G0, hp, aE _ _ _ _ a8 gl⟩
  ·intro d
   exact ⟨G, lAe _, by simpa using aE _ _ _ _ mF ge⟩
  ·intro l d r aR aW ls x v M4 G4 w1 F hx cO ⟨G0, dI, kO⟩ d4
   refine JF ?_ (lCh _ dI)
   have gm := d4
   obtain ⟨xa, xc, rfl, kK, uk⟩ := d4
   refine EV.reg (sts := Az0) ?_
   (repeat first | refine nx ?_ | simp only [Az0])
   intro xb
   repeat' first | (refine xw ?_; refine nx ?_) | exact ⟨⟩ | fail
   refine EV.frz [(xb, Cl 34 [.slice xa x.length xc])] ?_
   generalize hR : M4.add _ = N4
   have cY : M4.le N4 := hR ▸ JB _ _
   have c7 : rd N4 xb 0 1 [.slice xa x.length xc] := hR ▸ Ap 0 rfl rfl (by simp)
   clear hR
   refine JP aR ?_
   have fM := Aa.le_trans mF (Aa.le_trans cO cY)
   have pP := kL.mono fM
   have pQ := mD.mono fM
   have ul := rh.mono fM
   have nr := mC.mono fM
   have pR := aE _ _ _ _ cY kO
   clear kL mD rh mC
   refine EV.block ?_
   repeat' first | refine st ?_ | (refine EV.reg ?_; (conv => (arg 2; whnf)); (repeat first | refine nx ?_ | simp only [mG])) | ((first | refine xm ?_ | refine xn ?_ | fail); (repeat first | refine nx ?_ | simp only [mG])) | fail
   refine Con.callS (G1 := []) (e8 N4 _ _ (du.mono (Aa.le_trans aB fM)) (fZ.mono (Aa.le_trans aB fM))) ?_
   rintro v5 M5 G5 gG ⟨g5, caps5, rfl, kP⟩
   repeat' first | refine su ?_ | fail
   refine JD (ρ' := [(0, yv ly), (1, pv lb 0), (2, pv pb 0), (3, pv db 0), (4, pv yb 0), (5, pv xb 0), (22, .func (.func g5) #[] caps5)]) (G' := (l, Obj.loop { r with state := .busy }) :: (d, Obj.deferred (some [])) :: G0) ?_ ?env2
   case env2 =>
    exact eE
   refine JW (l0 := l) (r0 := { r with state := .busy }) rfl (by simp) rfl rfl kP (fun zs M G' => ∃ G1, G'.Perm ((l, Obj.loop { r with state := .busy }) :: (d, Obj.deferred (some [])) :: G1) ∧ I ((xs ++ ls.flatMap fun l => rs.map (l :: ·)) ++ zs.map (x :: ·)) M G1)
    (fun c M G' => c = .ret ∧ ∃ G1, G'.Perm ((l, Obj.loop { r with state := .busy }) :: (d, Obj.deferred (some [])) :: G1) ∧ S M G1) ?_ ?_ ?_ ?_ ?_
   ·rintro zs M6 M7 G6 a8 ⟨G1, hp, gl⟩
    exact ⟨G1, hp, aE _ _ _ _ a8 gl⟩
   ·exact ⟨G0, lAe _, by simpa using aE _ _ _ _ gG pR⟩
   ·intro l2 r2 cw iM zs z vz M6 G6 w2 F2 hz fN ⟨G1, gn, kQ⟩ pS
    refine JF ?_ (lCh _ gn)
    have tQ := nr.mono (Aa.le_trans gG fN)
    have um := c7.mono (Aa.le_trans gG fN)
    have pT := (gm.mono (Aa.le_trans cY (Aa.le_trans gG fN)))
    have un := Jp k (loc + 1) z (mH ▸ hz)
    obtain ⟨za, zc, zvs, rfl, ri, tR, hzs⟩ := pS
    refine EV.reg (sts := Az1) ?_
    (repeat first | refine nx ?_ | simp only [Az1])
    refine JP cw ?_
    refine EV.block (EV.seq ?_)
    refine EV.any (t := Ci6) [] (lAh _) ?_
    simp only [An, Aq, Al, Au, reduceIte, Nat.reduceEqDiff]
    repeat' first | ((first | refine zo (fun lq aD => ?_) | refine zl ?_ | fail); try refine nz ?_) | refine zq (fun lq tq aD aA => ?_) | (refine ZA (fun tq aA => ?_) (fun tq aA => ?_) <;> try refine nz ?_) | exact zn | ((first | with_reducible intro b | refine xm ?_ | refine xn ?_ | refine lAd (Aa.le_refl _) (lAd (Ay ?_) ?_); focus ((repeat' first | exact lA0 _ | exact lAh _ | exact lAj _ _ | refine lAf _ ?_ | refine lAo ?_ _ | refine lAb ?_ | refine lAp _ ?_); done) | fail); try refine nz ?_) | exact ⟨⟩ | fail
    refine ⟨zvs, Vz tR, D4.ok1 ri hzs, Or.inl ⟨some (b, 1, []), 1, rfl, [.slice xa x.length xc], ⟨rfl, rfl, lA5 _, by decide⟩, (l2, Obj.loop { r2 with state := .busy }) :: (l, Obj.loop { r with state := .busy }) :: (d, Obj.deferred (some [])) :: G1, by simp [osg], by simp only [maxLen]; omega, by omega, fun o2 an _ => ?_⟩⟩
    repeat' first | (refine zl ?_; try refine nz ?_) | refine zq (fun lq tq aD aA => ?_) | (refine ZB (fun tq aA => ?_) (fun tq aA => ?_) <;> try refine nz ?_) | exact zn | (refine lAd (Aa.le_refl _) (lAd (Ay ?_) ?_); focus ((repeat' first | exact lA0 _ | exact lAh _ | exact lAj _ _ | refine lAf _ ?_ | refine lAo ?_ _ | refine lAb ?_ | refine lAp _ ?_); done); try refine nz ?_) | exact ⟨⟩ | fail
    have il : Eo 1 o2 (1 + z.length) (.slice xa x.length xc :: zvs) := by simpa using an
    refine Fh.frzS (osg 34 o2 (.slice xa x.length xc :: zvs)) ?_
    have aI : x :: z ∈ Bs p dn (k + 1) loc := by rw [nq]; exact lB3.2 ⟨x, hx, lAi.2 ⟨z, hz, rfl⟩⟩
    have pU : ElO (x :: z) (osv o2 (1 + z.length)) (M6.add (osg 34 o2 (.slice xa x.length xc :: zvs))) := by
     refine ⟨oad o2, Qj o2, .slice xa x.length xc :: zvs, by rw [lB5, lE3], by simp [ri], ?_, ?_⟩
     ·rw [lB5, lE3]; exact Ew il (fun q hq => hq)
     ·intro i hi bT
      cases i with
      | zero => exact pT.mono (JB _ _)
      | succ i => exact (hzs i (by simpa using hi) (by simpa using bT)).mono (JB _ _)
    refine N7.callS (hy _ (x :: z) aI _ G1 _ (Aa.le_trans aB (Aa.le_trans fM (Aa.le_trans gG (Aa.le_trans fN (JB _ _))))) (aE _ _ _ _ (JB _ _) kQ) pU) ?_
    rintro v8 M8 G8 nu (⟨rfl, lM⟩ | ⟨rfl, pV⟩)
    ·repeat' first | ((first | refine zo (fun lq aD => ?_) | refine zl ?_ | fail); (repeat first | refine nz ?_ | simp only [lBj])) | refine zq (fun lq tq aD aA => ?_) | refine zf ?_ | fail
     repeat' first | refine su ?_ | (refine cX ?_ ?_ <;> intro h <;> try exact Ai h) | fail
     refine JL cw iM (lAe _) ⟨G8, lAe _, ?_⟩
     simpa only [lAu, lDx, lAc] using lM
    ·repeat' first | ((first | refine zo (fun lq aD => ?_) | refine zl ?_ | fail); (repeat first | refine nz ?_ | simp only [lBl])) | refine zq (fun lq tq aD aA => ?_) | refine zf ?_ | fail
     repeat' first | (refine cX ?_ ?_ <;> intro h <;> try exact Ai h) | fail
     exact JS (lAe _) ⟨rfl, G8, lAe _, pV⟩
   ·rintro M6 G6 fN ⟨G1, gn, kQ⟩
    repeat' first | refine su ?_ | fail
    refine JL aR aW gn ⟨G1, lAe _, ?_⟩
    rw [lAy, lC8, ← lAc]; exact kQ
   ·rintro c M6 G6 fN ⟨rfl, G1, gn, pW⟩
    exact JS gn ⟨rfl, G1, lAe _, pW⟩
  ·rintro d M4 G4 cO ⟨G0, dI, kO⟩
   refine EV.inBlock ?_
   refine EV.doneM Q28_ok (ms := [d]) (by simpa [N8] using dI) ?_
   (repeat first | refine nx ?_ | simp only [Q28])
   left; rw [nq]; exact kO
  ·rintro d c M4 G4 cO ⟨rfl, G0, dI, pX⟩
   refine JU Q28_ok (ms := [d]) (by simpa [N8] using dI) ?_
   (repeat first | refine nx ?_ | simp only [Q28])
   right; exact pX
theorem V9 (p : List Ev) (dn : List Bool) (af : p.length ≤ 32) (bF : dn.length = p.length) : ∀ (k : Nat) (loc : Int), loc + k = 3 → 0 ≤ loc → ∀ M (ps ds : Value), Sl M 6 Bh ps p → Sl M 1 eb ds dn →
  Con Tryz.prog 79 #[ps, ds, vi loc] M [] (Its (Bs p dn k loc) ElO) := by
 intro k
 induction k with
 | zero =>
  intro loc hk h0 M ps ds hps dM
  have cM := hps
  have gh := dM
  obtain ⟨ea, ec, rfl, aw⟩ := hps
  obtain ⟨da, dc, rfl, iL⟩ := dM
  refine Con.enter Q27_ok (args := [.slice ea p.length ec, .slice da dn.length dc, vi loc]) (by simp [Q27]) fun w0 => ?_
  simp only [Q27, A9]
  repeat' first | refine st ?_ | refine rg ?_ | (with_reducible intro b; try refine nx ?_) | exact ⟨⟩ | fail
  refine EV.keep [] ?_
  generalize hR : M.add _ = N
  have aB : M.le N := hR ▸ JB _ _
  (refine rt Q27_ok ?_; try with_reducible exact ⟨⟩)
  refine ⟨_, _, rfl, L6 p dn af bF 0 loc hk h0 (fun k' e => by cases e) (cM.mono aB) (gh.mono aB) ?_ ?_ ?_⟩
  ·exact hR ▸ B3 (T := 3) (cs := [vi loc]) (by simp) rfl (by simp)
  ·exact hR ▸ B3 (T := 74) (cs := [.slice ea p.length ec]) (by simp) rfl (by simp)
  ·exact hR ▸ B3 (T := 35) (cs := [.slice da dn.length dc]) (by simp) rfl (by simp)
 | succ k ih =>
  intro loc hk h0 M ps ds hps dM
  have cM := hps
  have gh := dM
  obtain ⟨ea, ec, rfl, aw⟩ := hps
  obtain ⟨da, dc, rfl, iL⟩ := dM
  refine Con.enter Q27_ok (args := [.slice ea p.length ec, .slice da dn.length dc, vi loc]) (by simp [Q27]) fun w0 => ?_
  simp only [Q27, A9]
  repeat' first | refine st ?_ | refine rg ?_ | (with_reducible intro b; try refine nx ?_) | exact ⟨⟩ | fail
  refine EV.keep [] ?_
  generalize hR : M.add _ = N
  have aB : M.le N := hR ▸ JB _ _
  (refine rt Q27_ok ?_; try with_reducible exact ⟨⟩)
  refine ⟨_, _, rfl, L6 p dn af bF (k + 1) loc hk h0 (fun k' e M' ps' ds' h1 h2 => by cases e; exact ih (loc + 1) (by omega) (by omega) M' ps' ds' h1 h2) (cM.mono aB) (gh.mono aB) ?_ ?_ ?_⟩
  ·exact hR ▸ B3 (T := 3) (cs := [vi loc]) (by simp) rfl (by simp)
  ·exact hR ▸ B3 (T := 74) (cs := [.slice ea p.length ec]) (by simp) rfl (by simp)
  ·exact hR ▸ B3 (T := 35) (cs := [.slice da dn.length dc]) (by simp) rfl (by simp)
end
def Ba (p : List Ev) : List Int := Cr p.length fun i => (evAt p i).strong
def Fm (p : List Ev) (dn : List Bool) (ord : List (List Int)) (frm : List Int) : List Exec :=
 if D7 p ⟨frm, dn, ord, []⟩ then ((Cn p (Ba p)).map fun f => (⟨frm, dn, ord, f⟩ : Exec)).filter fun e => decide (Dg p e = 0) else []
def L7 (p : List Ev) (dn : List Bool) (ord : List (List Int)) : List Exec := (L5 p dn ord).flatMap (Fm p dn ord)
def Jh (p : List Ev) (dn : List Bool) : List Exec := (On p dn).flatMap (L7 p dn)
def Ca (p : List Ev) : List Exec := (Gu p).flatMap (Jh p)
theorem L8 {p : List Ev} : ∀ (n : Nat) (l m : List Int), l.length = n → m ∈ Bw p n l → m.Perm l
 | 0, l, m, hl, hm => by
  simp only [Bw, lAk] at hm
  rw [hm, lC2.1 hl]
 | n + 1, l, m, hl, hm => by
  simp only [Bw, lB3, lAn] at hm
  obtain ⟨i, hi, hm⟩ := hm
  split at hm
  ·exact absurd hm lB4
  ·obtain ⟨m', lH, rfl⟩ := lAi.1 hm
   have cG : i < l.length := by omega
   have ih := L8 n (l.eraseIdx i) m' (by rw [lD7 cG]; omega) lH
   have e : Ae l i = l[i] := by simp only [Ae, lA2 cG, lAr]
   rw [e]
   refine (lCh _ ih).trans ?_
   have h1 : l.Perm (l[i] :: l.eraseIdx i) := by
    have h2 : l = l.take i ++ l[i] :: l.drop (i + 1) := by rw [List.getElem_cons_drop, lEg]
    rw [lCr]
    conv => lhs; rw [h2]
    exact lEo
   exact h1.symm
theorem Ey {p : List Ev} {l m : List Int} (h : m ∈ Cn p l) : m.Perm l := L8 _ l m rfl h
theorem Ib.perm {p : List Ev} {l m : List Int} (h : Ib p l) (hp : m.Perm l) : Ib p m := fun x hx => h x (hp.mem_iff.1 hx)
theorem Oo (p : List Ev) : Ib p (Ba p) := fun x hx => by
 obtain ⟨i, h1, _, rfl⟩ := B5.1 hx; omega
theorem Jq {p : List Ev} {dn : List Bool} : ∀ (k : Nat) (loc : Int) (x : List (List Int)), x ∈ Bs p dn k loc → ∀ j (h : j < x.length), x[j].Perm (A7 p dn (loc + j))
 | 0, _, x, h => by simp [Bs] at h; subst h; intro j hj; simp at hj
 | k + 1, loc, x, h => by
  simp only [Bs, lB3, lAi] at h
  obtain ⟨l, hl, y, hy, rfl⟩ := h
  intro j hj
  cases j with
  | zero => simpa using Ey hl
  | succ j =>
   have := Jq k (loc + 1) y hy j (by simpa using hj)
   simpa [Int.add_assoc, Int.add_comm 1] using this
theorem ordersP_ok {p : List Ev} {dn : List Bool} {ord : List (List Int)} (hp : POk p) (bF : dn.length = p.length) (h : ord ∈ On p dn) : OrdsOk p dn ord ∧ ∀ l ∈ ord, Ib p l ∧ l.length ≤ p.length := by
 have hl := Jp 3 0 ord h
 have hm := Jq 3 0 ord h
 have hall : ∀ l ∈ ord, Ib p l ∧ l.length ≤ p.length := by
  intro l mI
  obtain ⟨j, hj, rfl⟩ := lBf mI
  have := hm j hj
  exact ⟨(Lh p dn _).perm this, by rw [this.length_eq]; exact Bj _ _⟩
 refine ⟨⟨hl, fun l mI => (hall l mI).2, ?_⟩, hall⟩
 intro i hi hr hd
 have bY := hp.loc i hi
 have hj : (evAt p i).op.loc.toNat < ord.length := by omega
 rw [lA2 hj, lAr]
 have := hm _ hj
 rw [this.mem_iff, A7, B5]
 refine ⟨i, hi, ?_, rfl⟩
 have tS : (evAt p i).op.kind ≠ 5 := by
  simp only [Ev.reads, lA6, decide_eq_true_eq] at hr; exact hr.2
 simp only [lA6, decide_eq_true_eq]
 exact ⟨⟨tS, hd⟩, by omega⟩
theorem Qy {p : List Ev} {dn : List Bool} {ord : List (List Int)} : ∀ (k i : Nat) (x : List Int), x ∈ B9 p dn ord k i → x.length = k ∧ ∀ j (h : j < x.length), x[j] ∈ Bd p dn ord (i + j)
 | 0, _, x, h => by simp [B9] at h; subst h; exact ⟨rfl, fun j hj => by simp at hj⟩
 | k + 1, i, x, h => by
  simp only [B9, lB3, lAi] at h
  obtain ⟨w, hw, y, hy, rfl⟩ := h
  obtain ⟨h1, h2⟩ := Qy k (i + 1) y hy
  refine ⟨by simp [h1], fun j hj => ?_⟩
  cases j with
  | zero => simpa using hw
  | succ j =>
   have := h2 j (by simpa using hj)
   simpa [lDa, lE3 1] using this
theorem choices_ok {p : List Ev} {dn : List Bool} {ord : List (List Int)} (hin : ∀ l ∈ ord, Ib p l) {i : Nat} {w : Int} (h0 : 0 < p.length) (h : w ∈ Bd p dn ord i) : w < p.length ∧ ((evAt p i).reads = true → -1 ≤ w) := by
 have cN : ∀ y ∈ H4 p ord i, -1 ≤ y ∧ y < p.length := by
  intro y hy
  rcases lBo.1 hy with rfl | hy
  ·omega
  ·rcases hq : ord[(evAt p i).op.loc.toNat]? with _ | l
   ·rw [hq] at hy; exact absurd hy lB4
   ·rw [hq] at hy
    have := hin l (lC9 hq) y hy
    omega
 unfold Bd at h
 split at h
 ·rename_i hr
  simp only [lAk] at h
  subst h
  exact ⟨by omega, fun h2 => by rw [hr] at h2; cases h2⟩
 ·split at h
  ·simp only [lAk] at h
   subst h
   have : -1 ≤ Gg (H4 p ord i) i ∧ Gg (H4 p ord i) i < p.length := by
    unfold Gg Ae
    rcases hq : (H4 p ord i)[(H4 p ord i).findIdx (fun y => decide ((i : Int) = y)) - 1]? with _ | y
    ·simp only [Option.getD_none]; omega
    ·simp only [lAr]; exact cN y (lC9 hq)
   exact ⟨this.2, fun _ => this.1⟩
  ·exact ⟨(cN w h).2, fun _ => (cN w h).1⟩
theorem exec_ok {p : List Ev} {dn : List Bool} {ord : List (List Int)} {frm fen : List Int} (hp : POk p) (hd : dn ∈ Gu p) (ho : ord ∈ On p dn) (hf : frm ∈ L5 p dn ord) (hn : Ib p fen ∧ fen.length ≤ p.length) : XOk p ⟨frm, dn, ord, fen⟩ := by
 have bF : dn.length = p.length := by
  obtain ⟨set, _, rfl⟩ := lAi.1 hd; exact Ff p set
 obtain ⟨bQ, an⟩ := ordersP_ok hp bF ho
 obtain ⟨iY, fp⟩ := Qy _ _ _ hf
 refine ⟨iY, bF, bQ.len, ?_, an, hn⟩
 intro i hi
 have kR : i < frm.length := by rw [iY]; exact hi
 have := fp i kR
 rw [lBg] at this
 rw [show (⟨frm, dn, ord, fen⟩ : Exec).frm[i]?.getD 0 = frm[i] from by simp [kR]]
 exact choices_ok (fun l hl => (an l hl).1) (by omega) this
theorem Li {p : List Ev} {f : List Int} (h : f ∈ Cn p (Ba p)) : Ib p f ∧ f.length ≤ p.length := by
 have := Ey h
 exact ⟨(Oo p).perm this, by rw [this.length_eq]; exact Bj _ _⟩
inductive TG (R : Nat → Nat → Prop) : Nat → Nat → Prop
 | one {a b : Nat} (h : R a b) : TG R a b
 | more {a b c : Nat} (h : R a b) (t : TG R b c) : TG R a c
namespace TG
theorem trans {R : Nat → Nat → Prop} {a b c : Nat} (h : TG R a b) (k : TG R b c) : TG R a c := by
 induction h with
 | one h => exact .more h k
 | more h _ ih => exact .more h (ih k)
theorem mono {R S : Nat → Nat → Prop} {a b : Nat} (h : TG R a b) (hk : ∀ a b, R a b → S a b) : TG S a b := by
 induction h with
 | one h => exact .one (hk _ _ h)
 | more h _ ih => exact .more (hk _ _ h) ih
theorem flat {R S : Nat → Nat → Prop} {a b : Nat} (h : TG R a b) (hk : ∀ a b, R a b → TG S a b) : TG S a b := by
 induction h with
 | one h => exact hk _ _ h
 | more h _ ih => exact (hk _ _ h).trans ih
theorem last {R : Nat → Nat → Prop} {a b : Nat} (h : TG R a b) : ∃ c, R c b ∧ (c = a ∨ TG R a c) := by
 induction h with
 | one h => exact ⟨_, h, .inl rfl⟩
 | more h _ ih =>
  obtain ⟨c, h1, h2⟩ := ih
  refine ⟨c, h1, .inr ?_⟩
  rcases h2 with rfl | h2
  ·exact .one h
  ·exact .more h h2
theorem first {R : Nat → Nat → Prop} {a b : Nat} (h : TG R a b) : ∃ c, R a c ∧ (c = b ∨ TG R c b) := by
 cases h with
 | one h => exact ⟨_, h, .inl rfl⟩
 | more h t => exact ⟨_, h, .inr t⟩
theorem iff {R S : Nat → Nat → Prop} (h1 : ∀ a b, R a b → TG S a b) (h2 : ∀ a b, S a b → TG R a b) {a b : Nat} : TG R a b ↔ TG S a b := ⟨fun h => h.flat h1, fun h => h.flat h2⟩
theorem congr {R S : Nat → Nat → Prop} (h : ∀ a b, R a b ↔ S a b) {a b : Nat} : TG R a b ↔ TG S a b := iff (fun a b k => .one ((h a b).1 k)) (fun a b k => .one ((h a b).2 k))
theorem map {R S : Nat → Nat → Prop} (f : Nat → Nat) {a b : Nat} (h : TG R a b) (hk : ∀ a b, R a b → S (f a) (f b)) : TG S (f a) (f b) := by
 induction h with
 | one h => exact .one (hk _ _ h)
 | more h _ ih => exact .more (hk _ _ h) ih
theorem of_trans {R : Nat → Nat → Prop} (ht : ∀ a b c, R a b → R b c → R a c) {a b : Nat} (h : TG R a b) : R a b := by
 induction h with
 | one h => exact h
 | more h _ ih => exact ht _ _ _ h ih
end TG
theorem Km {r : Rel} {a b : Nat} (h : r.length ≤ a) : A3 r a b = false := by
 simp [A3, lCy h]
theorem Oq {r : Rel} {a m x y : Nat} : A3 (orR r a m) x y = (A3 r x y || (decide (x = a ∧ a < r.length) && m.testBit y)) := by
 simp only [A3, orR, List.getElem?_set]
 by_cases h : a = x
 ·subst h
  by_cases h2 : a < r.length
  ·simp [h2, lCz]
  ·simp [h2, lCy (Nat.le_of_not_lt h2)]
 ·have h' : ¬ x = a := fun e => h e.symm
  simp [h, h']
theorem Fc {r : Rel} {a b x y : Nat} : A3 (Ni r a b) x y = true ↔ A3 r x y = true ∨ (x = a ∧ a < r.length ∧ y = b) := by
 rw [Ni, Oq]
 simp only [lAq, lA6, decide_eq_true_eq, lCi]
 constructor
 ·rintro (h | ⟨⟨h1, h2⟩, h3⟩)
  ·exact .inl h
  ·exact .inr ⟨h1, h2, h3.symm⟩
 ·rintro (h | ⟨h1, h2, h3⟩)
  ·exact .inl h
  ·exact .inr ⟨⟨h1, h2⟩, h3.symm⟩
theorem Ot {n a b : Nat} : A3 (List.replicate n 0) a b = false := by
 simp only [A3, lBv]
 split <;> simp
theorem RelOk.has {n : Nat} {r : Rel} (h : RelOk n r) {a b : Nat} (k : A3 r a b = true) : a < n ∧ b < n := by
 constructor
 ·apply lBc; intro hn
  rw [Km (by rw [h.len]; omega)] at k; cases k
 ·apply lBc; intro hn
  have := h.lt a
  have h2 : (r[a]?.getD 0).testBit b = false := lEz (lAv this (lCf (by decide) (by omega)))
  rw [A3, h2] at k; cases k
theorem Sh {r : Rel} {a m : Nat} : (orR r a m).length = r.length := by simp [orR]
theorem Fw (r : Rel) (k : Nat) : ∀ a, (closeRow r k a).length = r.length
 | 0 => rfl
 | a + 1 => by
  simp only [closeRow]
  split
  ·rw [Sh, Fw r k a]
  ·exact Fw r k a
theorem Hm (r : Rel) : ∀ k, (closeGo r k).length = r.length
 | 0 => rfl
 | k + 1 => by rw [closeGo, Fw, Hm r k]
theorem L9 (r : Rel) (k : Nat) : ∀ m, m ≤ r.length → ∀ a b, A3 (closeRow r k m) a b = (A3 r a b || (decide (a < m) && A3 r a k && A3 r k b))
 | 0, _, a, b => by simp [closeRow]
 | m + 1, hm, a, b => by
  have ih := L9 r k m (by omega)
  have hk : A3 (closeRow r k m) m k = A3 r m k := by
   rw [ih]; simp
  have bz : ∀ y, ((closeRow r k m)[k]?.getD 0).testBit y = A3 r k y := by
   intro y
   have := ih k y
   rw [A3] at this
   rw [this]
   cases h1 : A3 r k y <;> cases h2 : A3 r k k <;> simp
  rw [closeRow, hk]
  by_cases h : A3 r m k = true
  ·rw [if_pos h, Oq, ih, bz, Fw]
   by_cases ha : a = m
   ·subst ha
    have : a < r.length := by omega
    simp [h, this]
   ·have : (decide (a < m + 1)) = decide (a < m) := by rw [decide_eq_decide]; omega
    simp [ha, this]
  ·have h' : A3 r m k = false := by simpa using h
   rw [if_neg h, ih]
   by_cases ha : a = m
   ·subst ha; simp [h']
   ·have : (decide (a < m + 1)) = decide (a < m) := by rw [decide_eq_decide]; omega
    rw [this]
theorem Ii {n : Nat} {r : Rel} (h : r.length = n) (k a b : Nat) : A3 (closeGo r (k + 1)) a b = (A3 (closeGo r k) a b || (A3 (closeGo r k) a k && A3 (closeGo r k) k b)) := by
 rw [closeGo, L9 _ _ _ (by rw [Hm]; omega)]
 by_cases ha : a < r.length
 ·simp [ha]
 ·rw [Km (a := a) (b := b) (by rw [Hm]; omega), Km (a := a) (b := k) (by rw [Hm]; omega)]
  simp
theorem Dk {n : Nat} {r : Rel} (h : RelOk n r) {a b : Nat} : A3 (B8 r) a b = true ↔ TG (fun x y => A3 r x y = true) a b := by
 have up : ∀ k a b, A3 r a b = true → A3 (closeGo r k) a b = true := by
  intro k
  induction k with
  | zero => intro a b h; exact h
  | succ k ih => intro a b fq; rw [Ii h.len, ih a b fq]; simp
 have dn : ∀ k a b, A3 (closeGo r k) a b = true → TG (fun x y => A3 r x y = true) a b := by
  intro k
  induction k with
  | zero => intro a b h; exact .one h
  | succ k ih =>
   intro a b fq
   rw [Ii h.len] at fq
   simp only [lAq, lA6] at fq
   rcases fq with fq | ⟨h1, h2⟩
   ·exact ih a b fq
   ·exact (ih a k h1).trans (ih k b h2)
 have tr : ∀ k a c b, c < k → A3 (closeGo r k) a c = true → A3 (closeGo r k) c b = true → A3 (closeGo r k) a b = true := by
  intro k
  induction k with
  | zero => intro a c b hc; omega
  | succ k ih =>
   intro a c b hc h1 h2
   rw [Ii h.len] at h1 h2 ⊢
   simp only [lAq, lA6] at h1 h2 ⊢
   by_cases aM : c = k
   ·subst aM
    right
    refine ⟨?_, ?_⟩
    ·rcases h1 with h1 | ⟨h1, _⟩ <;> exact h1
    ·rcases h2 with h2 | ⟨_, h2⟩ <;> exact h2
   ·have cJ : c < k := by omega
    rcases h1 with h1 | ⟨h1, dF⟩ <;> rcases h2 with h2 | ⟨h2, gf⟩
    ·exact .inl (ih a c b cJ h1 h2)
    ·exact .inr ⟨ih a c k cJ h1 h2, gf⟩
    ·exact .inr ⟨h1, ih k c b cJ dF h2⟩
    ·exact .inr ⟨h1, gf⟩
 refine ⟨dn _ a b, fun ht => ?_⟩
 have np : TG (fun x y => A3 (B8 r) x y = true) a b := ht.mono fun a b => up _ a b
 refine np.of_trans (R := fun x y => A3 (B8 r) x y = true) (fun a c b h1 h2 => ?_)
 have ae : RelOk n (B8 r) := h.close
 exact tr _ a c b (by rw [h.len]; exact (ae.has h1).2) h1 h2
theorem Ct {r : Rel} : Bi r = true ↔ ∃ a, A3 r a a = true := by
 unfold Bi
 rw [lCc]
 constructor
 ·rintro ⟨a, _, h⟩; exact ⟨a, h⟩
 ·rintro ⟨a, h⟩
  refine ⟨a, ?_, h⟩
  rw [lAn]
  apply lBc; intro hn
  rw [Km (by omega)] at h; cases h
theorem Es {r : Rel} {a b : Nat} : (Ni r a b).length = r.length := Sh
theorem Gv (p : List Ev) : ∀ i, (Dj p i).length = p.length
 | 0 => by simp [Dj]
 | i + 1 => by
  simp only [Dj]
  split
  ·rw [Es, Gv p i]
  ·exact Gv p i
theorem Lj (r : Rel) (fen : List Int) : ∀ k, (Hz r fen k).length = r.length
 | 0 => rfl
 | k + 1 => by rw [Hz, Es, Lj r fen k]
theorem Qz (p : List Ev) (a b : Nat) : ∀ i, i ≤ p.length - 1 → (A3 (Dj p i) a b = true ↔ a < i ∧ b = a + 1 ∧ (evAt p b).th = (evAt p a).th)
 | 0, _ => by simp [Dj, Ot]
 | i + 1, hi => by
  have ih := Qz p a b i (by omega)
  simp only [Dj]
  split
  ·rename_i h
   rw [Fc, ih, Gv]
   constructor
   ·rintro (⟨h1, h2, h3⟩ | ⟨rfl, h1, rfl⟩)
    ·exact ⟨by omega, h2, h3⟩
    ·exact ⟨by omega, rfl, h⟩
   ·rintro ⟨h1, h2, h3⟩
    by_cases ha : a = i
    ·subst ha; exact .inr ⟨rfl, by omega, h2⟩
    ·exact .inl ⟨by omega, h2, h3⟩
  ·rename_i h
   rw [ih]
   constructor
   ·rintro ⟨h1, h2, h3⟩; exact ⟨by omega, h2, h3⟩
   ·rintro ⟨h1, h2, h3⟩
    by_cases ha : a = i
    ·subst ha; subst h2; exact absurd h3 h
    ·exact ⟨by omega, h2, h3⟩
theorem Ra {r : Rel} {fen : List Int} {a b : Nat} (hin : ∀ k, k < fen.length → 0 ≤ Ae fen k ∧ Ae fen k < r.length) : ∀ k, k ≤ fen.length - 1 →
  (A3 (Hz r fen k) a b = true ↔ A3 r a b = true ∨ ∃ j, j < k ∧ Ae fen j = a ∧ Ae fen (j + 1) = b)
 | 0, _ => by simp [Hz]
 | k + 1, hk => by
  have ih := Ra (r := r) (a := a) (b := b) hin k (by omega)
  have h1 := hin k (by omega)
  have h2 := hin (k + 1) (by omega)
  simp only [Ae] at h1 h2 ih ⊢
  rw [Hz, Fc, ih, Lj]
  constructor
  ·rintro ((h | ⟨j, q1, q2, q3⟩) | ⟨q1, q2, q3⟩)
   ·exact .inl h
   ·exact .inr ⟨j, by omega, q2, q3⟩
   ·exact .inr ⟨k, by omega, by omega, by omega⟩
  ·rintro (h | ⟨j, q1, q2, q3⟩)
   ·exact .inl (.inl h)
   ·by_cases hj : j = k
    ·subst hj; exact .inr ⟨by omega, by omega, by omega⟩
    ·exact .inl (.inr ⟨j, by omega, q2, q3⟩)
def Sb1 (p : List Ev) (a b : Nat) : Prop := b = a + 1 ∧ b < p.length ∧ (evAt p b).th = (evAt p a).th
def Fo1 (fen : List Int) (a b : Nat) : Prop := ∃ j, j + 1 < fen.length ∧ Ae fen j = a ∧ Ae fen (j + 1) = b
def Rf (e : Exec) (n a b : Nat) : Prop := b < n ∧ Af e b = a
theorem Ib.num {p : List Ev} {l : List Int} (h : Ib p l) {k : Nat} (hk : k < l.length) : 0 ≤ Ae l k ∧ Ae l k < p.length := h.at hk
theorem Rb {p : List Ev} {fen : List Int} (hf : Ib p fen) {a b : Nat} : A3 (Ia p fen) a b = true ↔ Sb1 p a b ∨ Fo1 fen a b := by
 have hl : (Dj p (p.length - 1)).length = p.length := Gv _ _
 rw [Ia, Ra (fun k hk => by rw [hl]; exact hf.num hk) _ (lA5 _), Qz _ _ _ _ (lA5 _)]
 unfold Sb1 Fo1
 constructor
 ·rintro (⟨h1, h2, h3⟩ | ⟨j, h1, h2, h3⟩)
  ·exact .inl ⟨h2, by omega, h3⟩
  ·exact .inr ⟨j, by omega, h2, h3⟩
 ·rintro (⟨h1, h2, h3⟩ | ⟨j, h1, h2, h3⟩)
  ·exact .inl ⟨by omega, h1, h3⟩
  ·exact .inr ⟨j, by omega, h2, h3⟩
theorem Jr {q : Rel} {e : Exec} : ∀ r, (D6 q e r).length = q.length
 | 0 => rfl
 | r + 1 => by
  simp only [D6]
  split
  ·rw [Es, Jr r]
  ·exact Jr r
theorem Ou {q : Rel} {e : Exec} {a b : Nat} (bN : ∀ i : Nat, i < q.length → Af e i < q.length) : ∀ r, r ≤ q.length → (A3 (D6 q e r) a b = true ↔ A3 q a b = true ∨ Rf e r a b)
 | 0, _ => by simp [D6, Rf]
 | r + 1, hr => by
  have ih := Ou (a := a) (b := b) bN r (by omega)
  have := bN r (by omega)
  unfold Rf at ih ⊢
  simp only [D6]
  split
  ·rename_i h0
   rw [Fc, ih, Jr]
   constructor
   ·rintro ((h | ⟨h1, h2⟩) | ⟨h1, h2, rfl⟩)
    ·exact .inl h
    ·exact .inr ⟨by omega, h2⟩
    ·exact .inr ⟨by omega, by omega⟩
   ·rintro (h | ⟨h1, h2⟩)
    ·exact .inl (.inl h)
    ·by_cases hb : b = r
     ·subst hb; exact .inr ⟨by omega, by omega, rfl⟩
     ·exact .inl (.inr ⟨by omega, h2⟩)
  ·rename_i h0
   rw [ih]
   constructor
   ·rintro (h | ⟨h1, h2⟩)
    ·exact .inl h
    ·exact .inr ⟨by omega, h2⟩
   ·rintro (h | ⟨h1, h2⟩)
    ·exact .inl h
    ·by_cases hb : b = r
     ·subst hb; omega
     ·exact .inr ⟨by omega, h2⟩
theorem Rc {p : List Ev} {e : Exec} (hx : XOk p e) : Bi (Tw p e) = true ↔ ∃ a, TG (fun a b => Sb1 p a b ∨ Fo1 e.fen a b ∨ Rf e p.length a b) a a := by
 have aX : (Ia p e.fen).length = p.length := (stepsP_ok hx.fin.1).len
 have ae := roundGo_ok (stepsP_ok hx.fin.1) hx _ (lA5 _)
 rw [Ct]
 refine exists_congr fun a => ?_
 rw [Tw, Dk ae]
 refine TG.congr fun x y => ?_
 rw [Ou (fun i hi => by rw [aX] at hi ⊢; exact (hx.fr i hi).1) _ (by rw [aX]; exact lA5 _), Rb hx.fin.1, or_assoc]
theorem Ma (p : List Ev) (w c : Nat) : ∀ (a s : Nat), (Fa p w a s).testBit c = true ↔ s.testBit c = true ∨ (c < a ∧ (∀ x, c ≤ x → x < a → (evAt p x).th = (evAt p w).th) ∧ (evAt p c).op.kind = 5 ∧ (evAt p c).rel = true)
 | 0, s => by simp [Fa]
 | a + 1, s => by
  simp only [Fa]
  split
  ·rename_i c8
   rw [Ma p w c a]
   have hs : (if (evAt p a).op.kind = 5 ∧ (evAt p a).rel = true then s ||| 2 ^ a else s).testBit c = true ↔ s.testBit c = true ∨ (c = a ∧ (evAt p c).op.kind = 5 ∧ (evAt p c).rel = true) := by
    split
    ·rename_i h
     simp only [lCz, lAq, lCi, decide_eq_true_eq]
     constructor
     ·rintro (h1 | rfl)
      ·exact .inl h1
      ·exact .inr ⟨rfl, h⟩
     ·rintro (h1 | ⟨rfl, _⟩)
      ·exact .inl h1
      ·exact .inr rfl
    ·rename_i h
     constructor
     ·exact .inl
     ·rintro (h1 | ⟨rfl, h2⟩)
      ·exact h1
      ·exact absurd h2 h
   rw [hs]
   constructor
   ·rintro ((h | ⟨rfl, h⟩) | ⟨h1, h2, h3⟩)
    ·exact .inl h
    ·exact .inr ⟨by omega, fun x q1 q2 => by rw [show x = c by omega]; exact c8, h⟩
    ·refine .inr ⟨by omega, fun x q1 q2 => ?_, h3⟩
     by_cases hx : x = a
     ·rw [hx]; exact c8
     ·exact h2 x q1 (by omega)
   ·rintro (h | ⟨h1, h2, h3⟩)
    ·exact .inl (.inl h)
    ·by_cases hc : c = a
     ·exact .inl (.inr ⟨hc, h3⟩)
     ·exact .inr ⟨by omega, fun x q1 q2 => h2 x q1 (by omega), h3⟩
  ·rename_i c8
   constructor
   ·exact .inl
   ·rintro (h | ⟨h1, h2, h3⟩)
    ·exact h
    ·exact absurd (h2 a (by omega) (by omega)) c8
def Nn (p : List Ev) : Prop := ∀ a b, a ≤ b → b < p.length → (evAt p a).th ≤ (evAt p b).th
theorem Nn.between {p : List Ev} (h : Nn p) {a b x : Nat} (hb : b < p.length) (h1 : a ≤ x) (h2 : x ≤ b) (he : (evAt p a).th = (evAt p b).th) : (evAt p x).th = (evAt p b).th := by
 have q1 := h a x h1 (by omega)
 have q2 := h x b h2 hb
 omega
def Ty (p : List Ev) (w c : Nat) : Prop := (evAt p c).rel = true ∧ (c = w ∨ (c < w ∧ (evAt p c).th = (evAt p w).th ∧ (evAt p c).op.kind = 5))
def Aj7 (p : List Ev) (r c : Nat) : Prop := (evAt p c).acq = true ∧ (c = r ∨ (r < c ∧ c < p.length ∧ (evAt p c).th = (evAt p r).th ∧ (evAt p c).op.kind = 5))
theorem Ov {p : List Ev} (hm : Nn p) {w c : Nat} (hw : w < p.length) : (Fk p w).testBit c = true ↔ Ty p w c := by
 rw [Fk, Ma]
 unfold Ty
 constructor
 ·rintro (h | ⟨h1, h2, h3, h4⟩)
  ·split at h
   ·rename_i hr
    rw [lCi, decide_eq_true_eq] at h
    subst h; exact ⟨hr, .inl rfl⟩
   ·simp at h
  ·exact ⟨h4, .inr ⟨h1, h2 c (lA5 _) h1, h3⟩⟩
 ·rintro ⟨h1, rfl | ⟨h2, h3, h4⟩⟩
  ·left; rw [if_pos h1]; simp
  ·right
   exact ⟨h2, fun x q1 q2 => hm.between hw q1 (by omega) h3, h4, h1⟩
theorem Rd (p : List Ev) (r c : Nat) : ∀ (f b s : Nat), (Ki p r f b s).testBit c = true ↔ s.testBit c = true ∨ (b ≤ c ∧ c < b + f ∧ (∀ x, b ≤ x → x ≤ c → (evAt p x).th = (evAt p r).th) ∧ (evAt p c).op.kind = 5 ∧ (evAt p c).acq = true)
 | 0, b, s => by
  simp only [Ki]
  constructor
  ·exact .inl
  ·rintro (h | ⟨h1, h2, _⟩)
   ·exact h
   ·omega
 | f + 1, b, s => by
  simp only [Ki]
  split
  ·rename_i c8
   rw [Rd p r c f]
   have hs : (if (evAt p b).op.kind = 5 ∧ (evAt p b).acq = true then s ||| 2 ^ b else s).testBit c = true ↔ s.testBit c = true ∨ (c = b ∧ (evAt p c).op.kind = 5 ∧ (evAt p c).acq = true) := by
    split
    ·rename_i h
     simp only [lCz, lAq, lCi, decide_eq_true_eq]
     constructor
     ·rintro (h1 | rfl)
      ·exact .inl h1
      ·exact .inr ⟨rfl, h⟩
     ·rintro (h1 | ⟨rfl, _⟩)
      ·exact .inl h1
      ·exact .inr rfl
    ·rename_i h
     constructor
     ·exact .inl
     ·rintro (h1 | ⟨rfl, h2⟩)
      ·exact h1
      ·exact absurd h2 h
   rw [hs]
   constructor
   ·rintro ((h | ⟨rfl, h⟩) | ⟨h1, h2, h3, h4⟩)
    ·exact .inl h
    ·exact .inr ⟨by omega, by omega, fun x q1 q2 => by rw [show x = c by omega]; exact c8, h⟩
    ·refine .inr ⟨by omega, by omega, fun x q1 q2 => ?_, h4⟩
     by_cases hx : x = b
     ·rw [hx]; exact c8
     ·exact h3 x (by omega) q2
   ·rintro (h | ⟨h1, h2, h3, h4⟩)
    ·exact .inl (.inl h)
    ·by_cases hc : c = b
     ·exact .inl (.inr ⟨hc, h4⟩)
     ·exact .inr ⟨by omega, by omega, fun x q1 q2 => h3 x (by omega) q2, h4⟩
  ·rename_i c8
   constructor
   ·exact .inl
   ·rintro (h | ⟨h1, h2, h3, h4⟩)
    ·exact h
    ·exact absurd (h3 b (by omega) h1) c8
theorem Ae6 {p : List Ev} (hm : Nn p) {r c : Nat} (hr : r < p.length) : (Jo p r).testBit c = true ↔ Aj7 p r c := by
 rw [Jo, Rd]
 unfold Aj7
 constructor
 ·rintro (h | ⟨h1, h2, h3, h4, h5⟩)
  ·split at h
   ·rename_i hr
    rw [lCi, decide_eq_true_eq] at h
    subst h; exact ⟨hr, .inl rfl⟩
   ·simp at h
  ·exact ⟨h5, .inr ⟨by omega, by omega, h3 c h1 (lA5 _), h4⟩⟩
 ·rintro ⟨h1, rfl | ⟨h2, h3, h4, h5⟩⟩
  ·left; rw [if_pos h1]; simp
  ·right
   refine ⟨by omega, by omega, fun x q1 q2 => ?_, h5, h1⟩
   have := hm.between (a := r) (b := c) (x := x) h3 (by omega) q2 h4.symm
   rw [this, h4]
end Go.EV
