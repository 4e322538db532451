/- A drawn region: what its evaluation tells. -/
import Derived.Test.YtkcdhdilifolfaaGreatEvU
namespace Go.Ev
variable {C : Ctx}

inductive OpFact (C : Ctx) (p : Plan) (L : List Oper) (n0 : Nat) (M : List Made) (G : List Stage) (R : List Rd) (j t : Nat) (o : Oper) (tm : Tm) (v : V) : Prop
  | skip (hw : wantedT L tm o = false) (hv : v = undefV) (hm : mO M j = none) (hk : kindOf C o ≠ .act ∨ ∃ st, G[t]? = some st ∧ G[t + 1]? = some st)
  | quiet (hw : wantedT L tm o = true) (hk : kindOf C o ≠ .act) (hr : ∃ v0, rd C (evalT C tm) o .leaf = some v0 ∧ ∀ (ρ : Ren) (y : Value), VRel ρ v0 y → VRel ρ v y) (hm : mO M j = none)
  | read (hw : wantedT L tm o = true) (hk : kindOf C o ≠ .act) (hr : Rd.mk j o tm v ∈ R) (hm : mO M j = none)
  | make (hw : wantedT L tm o = true) (hk : kindOf C o ≠ .act) (mm : O × Mk) (h : mk C (evalT C tm) o = some mm) (hv : v = mm.2.val (n0 + j)) (hm : mO M j = some mm.1)
  | act (hw : wantedT L tm o = true) (hk : kindOf C o = .act) (st st' : Stage) (h1 : G[t]? = some st) (h2 : G[t + 1]? = some st')
      (hs : ActSound C o tm (withMade (p.preds.getD j 0) st.joined M st.h) st.n v st'.h st'.n) (hj : st'.joined = joinMade (p.preds.getD j 0) M st.joined) (hm : mO M j = none)

inductive Chain (C : Ctx) (p : Plan) (L : List Oper) (n0 : Nat) (M : List Made) (G : List Stage) (R : List Rd) : List Oper → Nat → Nat → Tm → Tm → Prop
  | nil (i t : Nat) (tm : Tm) : Chain C p L n0 M G R [] i t tm tm
  | cons {o : Oper} {rest : List Oper} {i t : Nat} {tm tm1 tm2 : Tm} {v : V} (h : OpFact C p L n0 M G R i t o tm v) (hp : tm.put o.dst v = some tm1)
      (hs : Chain C p L n0 M G R rest (i + 1) (match kindOf C o with | .act => t + 1 | _ => t) tm1 tm2) : Chain C p L n0 M G R (o :: rest) i t tm tm2

theorem mO_none {j : Nat} : ∀ {M : List Made}, (∀ m ∈ M, m.i ≠ j) → mO M j = none
  | [], _ => rfl
  | m :: M, h => by
    have hne : Nat.beq m.i j = false := by simpa using h m (by simp)
    have := mO_none (j := j) (M := M) fun x hx => h x (by simp [hx])
    unfold mO at this ⊢
    rw [List.find?_cons, hne]; exact this
theorem mO_append {j : Nat} {M : List Made} : ∀ {N : List Made}, (∀ m ∈ N, m.i ≠ j) → mO (N ++ M) j = mO M j
  | [], _ => rfl
  | m :: N, h => by
    have hne : Nat.beq m.i j = false := by simpa using h m (by simp)
    have := mO_append (j := j) (M := M) (N := N) fun x hx => h x (by simp [hx])
    unfold mO at this ⊢
    rw [List.cons_append, List.find?_cons, hne]; exact this
theorem mO_lt {M : List Made} {n j : Nat} (h : ∀ m ∈ M, m.i < n) {o : O} (hj : mO M j = some o) : j < n := by
  unfold mO at hj
  obtain ⟨m, h1, _⟩ := Option.map_eq_some_iff.1 hj
  have := List.find?_some h1
  have e : m.i = j := by simpa using this
  rw [← e]; exact h m (List.mem_of_find?_eq_some h1)

theorem rev_get {α : Type} (ls tail : List α) (x : α) : (ls ++ x :: tail).reverse[tail.length]? = some x := by simp
theorem rev_get2 {α : Type} (ls tail : List α) (x y : α) : (ls ++ y :: x :: tail).reverse[tail.length]? = some x ∧ (ls ++ y :: x :: tail).reverse[tail.length + 1]? = some y := by
  constructor <;> simp

theorem topStage_some {l : List Stage} {t : Stage} (h : topStage l = some t) : ∃ tail, l = t :: tail := by
  cases l with
  | nil => simp [topStage] at h
  | cons x tail => simp [topStage] at h; subst h; exact ⟨tail, rfl⟩

theorem draw_facts {L : List Oper} {p : Plan} (hp : PlanOk C L p) {n0 : Nat} : ∀ (k : Nat), (∀ k' < k, ∀ o tm h n r, actR C k' o tm h n = some r → ActSound C o tm h n r.1 r.2.1 r.2.2) →
    ∀ (l L0 : List Oper) (i t : Nat) (d d' : DS), L = L0 ++ l → L0.length = i → drawR C k p L l i n0 d = some d' → (∀ m ∈ d.made, m.i < i) → d.stages.length = t + 1 →
    ∃ lm ls lr, d'.made = lm ++ d.made ∧ d'.stages = ls ++ d.stages ∧ d'.rds = lr ++ d.rds ∧ (∀ m ∈ lm, i ≤ m.i ∧ m.i < L.length ∧ m.id = n0 + m.i) ∧ ls.length = (actsOf C i l).length ∧
      Chain C p L n0 d'.made d'.stages.reverse d'.rds l i t d.tm d'.tm := by
  intro k
  induction k with
  | zero => intro _ l L0 i t d d' _ _ h; simp [drawR] at h
  | succ k ih =>
    intro hact l L0 i t d d' hL h0 h hmade hst
    have ih := ih (fun k' hk => hact k' (by omega))
    cases l with
    | nil =>
      simp only [drawR] at h
      cases h
      exact ⟨[], [], [], rfl, rfl, rfl, by simp, rfl, .nil _ _ _⟩
    | cons o rest =>
      have hLi : L[i]? = some o := by rw [hL, List.getElem?_append_right (by omega), h0]; simp
      have hlen : i < L.length := (List.getElem?_eq_some_iff.1 hLi).1
      have hL' : L = (L0 ++ [o]) ++ rest := by rw [hL]; simp
      have h0' : (L0 ++ [o]).length = i + 1 := by simp [h0]
      -- an operation that makes nothing and turns nothing
      have plain : ∀ (tm : Tm) (v : V) (rds : List Rd), d.tm.put o.dst v = some tm → kindOf C o ≠ .act → (∃ x, rds = x ++ d.rds) →
          drawR C k p L rest (i + 1) n0 { d with tm, rds } = some d' →
          (∀ M, (∀ m ∈ M, m.i ≠ i → True) → mO M i = none → OpFact C p L n0 d'.made d'.stages.reverse d'.rds i t o d.tm v ∨ M ≠ d'.made) →
          ∃ lm ls lr, d'.made = lm ++ d.made ∧ d'.stages = ls ++ d.stages ∧ d'.rds = lr ++ d.rds ∧ (∀ m ∈ lm, i ≤ m.i ∧ m.i < L.length ∧ m.id = n0 + m.i) ∧ ls.length = (actsOf C i (o :: rest)).length ∧
            Chain C p L n0 d'.made d'.stages.reverse d'.rds (o :: rest) i t d.tm d'.tm := by
        intro tm v rds hput hk hx hrest hfact
        obtain ⟨x, rfl⟩ := hx
        obtain ⟨lm, ls, lr, g1, g2, g3, g4, g5, g6⟩ := ih rest (L0 ++ [o]) (i + 1) t _ d' hL' h0' hrest (fun m hm => by have := hmade m hm; omega) hst
        have hno : mO d'.made i = none := by
          rw [g1]
          refine mO_none fun m hm => ?_
          rcases List.mem_append.1 hm with hm | hm
          · have := (g4 m hm).1; omega
          · have := hmade m hm; omega
        have hf : OpFact C p L n0 d'.made d'.stages.reverse d'.rds i t o d.tm v := (hfact d'.made (fun _ _ _ => trivial) hno).resolve_right (by simp)
        refine ⟨lm, ls, lr ++ x, g1, g2, by simpa using g3, fun m hm => ⟨by have := (g4 m hm).1; omega, (g4 m hm).2⟩, ?_, .cons hf hput ?_⟩
        · rw [g5]; simp only [actsOf]
        · split
          · rename_i hk'; exact absurd hk' hk
          · exact g6
      simp only [drawR] at h
      cases hw : wantedT L d.tm o with
      | false =>
        rw [hw] at h
        simp only [cond_false] at h
        split at h
        · rename_i hk
          replace h := of_bind h
          obtain ⟨st, hs, h⟩ := h
          replace h := of_bind h
          obtain ⟨tm, hput, h⟩ := h
          obtain ⟨tail, htail⟩ := topStage_some hs
          have ht : tail.length = t := by rw [htail] at hst; simpa using hst
          obtain ⟨lm, ls, lr, g1, g2, g3, g4, g5, g6⟩ := ih rest (L0 ++ [o]) (i + 1) (t + 1) _ d' hL' h0' h (fun m hm => by have := hmade m hm; omega) (by simp [hst])
          have hno : mO d'.made i = none := by
            rw [g1]
            refine mO_none fun m hm => ?_
            rcases List.mem_append.1 hm with hm | hm
            · have := (g4 m hm).1; omega
            · have := hmade m hm; omega
          simp only [htail] at g2
          have hG := rev_get2 ls tail st st
          rw [← g2, ht] at hG
          refine ⟨lm, ls ++ [st], lr, g1, by rw [g2, htail]; simp, g3, fun m hm => ⟨by have := (g4 m hm).1; omega, (g4 m hm).2⟩, ?_, .cons (.skip hw rfl hno (.inr ⟨st, hG.1, hG.2⟩)) hput ?_⟩
          · simp only [actsOf, hk]; simp [g5]
          · rw [hk]; exact g6
        · rename_i hk
          replace h := of_bind h
          obtain ⟨tm, hput, h⟩ := h
          exact plain tm _ d.rds hput (by intro e; exact hk e) ⟨[], rfl⟩ h fun M _ hM => by
            by_cases e : M = d'.made
            · subst e; exact .inl (.skip hw rfl hM (.inl (by intro e; exact hk e)))
            · exact .inr e
      | true =>
        rw [hw] at h
        simp only [cond_true] at h
        split at h
        · rename_i hk
          replace h := of_bind h
          obtain ⟨v, hv, h⟩ := h
          replace h := of_bind h
          obtain ⟨tm, hput, h⟩ := h
          exact plain tm _ d.rds hput (by rw [hk]; simp) ⟨[], rfl⟩ h fun M _ hM => by
            by_cases e : M = d'.made
            · subst e; exact .inl (.quiet hw (by rw [hk]; simp) ⟨_, hv, fun _ _ h => h⟩ hM)
            · exact .inr e
        · rename_i hk
          replace h := of_bind h
          obtain ⟨st, hs, h⟩ := h
          replace h := of_bind h
          obtain ⟨v, hv, h⟩ := h
          replace h := of_bind h
          obtain ⟨tm, hput, h⟩ := h
          have hmem : ∀ (lr : List Rd), d'.rds = lr ++ ({ i, o, tm := d.tm, v } :: d.rds) → Rd.mk i o d.tm v ∈ d'.rds := by
            intro lr e; rw [e]; simp
          obtain ⟨_, _, lr, _, _, g3, _⟩ := ih rest (L0 ++ [o]) (i + 1) t _ d' hL' h0' h (fun m hm => by have := hmade m hm; omega) hst
          exact plain tm _ ({ i, o, tm := d.tm, v } :: d.rds) hput (by rw [hk]; simp) ⟨[_], rfl⟩ h fun M _ hM => by
            by_cases e : M = d'.made
            · subst e; exact .inl (.read hw (by rw [hk]; simp) (hmem lr g3) hM)
            · exact .inr e
        · rename_i hk
          replace h := of_bind h
          obtain ⟨mm, hmm, h⟩ := h
          replace h := of_bind h
          obtain ⟨tm, hput, h⟩ := h
          obtain ⟨lm, ls, lr, g1, g2, g3, g4, g5, g6⟩ := ih rest (L0 ++ [o]) (i + 1) t _ d' hL' h0' h (fun m hm => by
            rcases List.mem_cons.1 hm with rfl | hm
            · exact Nat.lt_succ_self _
            · have := hmade m hm; omega) hst
          have hyes : mO d'.made i = some mm.1 := by
            rw [g1, mO_append fun m hm => by have := (g4 m hm).1; omega]
            simp [mO, List.find?_cons]
          refine ⟨lm ++ [⟨i, n0 + i, mm.1⟩], ls, lr, by rw [g1]; simp, g2, g3, ?_, ?_, .cons (.make hw (by rw [hk]; simp) mm hmm rfl hyes) hput ?_⟩
          · intro m hm
            rcases List.mem_append.1 hm with hm | hm
            · exact ⟨by have := (g4 m hm).1; omega, (g4 m hm).2⟩
            · simp at hm; subst hm; exact ⟨Nat.le_refl _, hlen, rfl⟩
          · simp only [actsOf, hk]; exact g5
          · rw [hk]; exact g6
        · rename_i hk
          replace h := of_bind h
          obtain ⟨st, hs, h⟩ := h
          replace h := of_bind h
          obtain ⟨r, hr, h⟩ := h
          replace h := of_bind h
          obtain ⟨tm, hput, h⟩ := h
          obtain ⟨tail, htail⟩ := topStage_some hs
          have ht : tail.length = t := by rw [htail] at hst; simpa using hst
          obtain ⟨lm, ls, lr, g1, g2, g3, g4, g5, g6⟩ := ih rest (L0 ++ [o]) (i + 1) (t + 1) _ d' hL' h0' h (fun m hm => by have := hmade m hm; omega) (by simp [hst])
          have hno : mO d'.made i = none := by
            rw [g1]
            refine mO_none fun m hm => ?_
            rcases List.mem_append.1 hm with hm | hm
            · have := (g4 m hm).1; omega
            · have := hmade m hm; omega
          have hbit : ∀ m ∈ lm, bit (p.preds.getD i 0) m.i = false := by
            intro m hm
            cases hb : bit (p.preds.getD i 0) m.i with
            | false => rfl
            | true => have := hp.preds.lt hLi _ hb; have := (g4 m hm).1; omega
          simp only [htail] at g2
          have hG := rev_get2 ls tail st { h := r.2.1, joined := joinMade (p.preds.getD i 0) d.made st.joined, n := r.2.2 }
          rw [← g2, ht] at hG
          have hs := hact k (by omega) _ _ _ _ _ hr
          refine ⟨lm, ls ++ [{ h := r.2.1, joined := joinMade (p.preds.getD i 0) d.made st.joined, n := r.2.2 }], lr, g1, by rw [g2, htail]; simp, g3, fun m hm => ⟨by have := (g4 m hm).1; omega, (g4 m hm).2⟩, ?_, .cons (.act hw hk st _ hG.1 hG.2 (v := r.1) ?_ ?_ hno) hput ?_⟩
          · simp only [actsOf, hk]; simp [g5]
          · rw [g1, withMade_append hbit]; exact hs
          · rw [g1, joinMade_append hbit]
          · rw [hk]; exact g6

theorem Chain.funs {p : Plan} {L : List Oper} {n0 : Nat} {M : List Made} {G : List Stage} {R : List Rd} {l : List Oper} {i t : Nat} {tm tm' : Tm} (h : Chain C p L n0 M G R l i t tm tm') :
    ∃ (tmA : Nat → Tm) (vA : Nat → V), tmA 0 = tm ∧ tmA l.length = tm' ∧ ∀ q o, l[q]? = some o → (tmA q).put o.dst (vA q) = some (tmA (q + 1)) ∧
      ∃ t', (kindOf C o = .act → t ≤ t' ∧ (actsOf C i l)[t' - t]? = some (i + q)) ∧ OpFact C p L n0 M G R (i + q) t' o (tmA q) (vA q) := by
  induction h with
  | nil i t tm => exact ⟨fun _ => tm, fun _ => undefV, rfl, rfl, fun q o h => by simp at h⟩
  | @cons o rest i t tm tm1 tm2 v hf hp hs ih =>
    obtain ⟨tmA, vA, h1, h2, h3⟩ := ih
    refine ⟨fun q => match q with | 0 => tm | q + 1 => tmA q, fun q => match q with | 0 => v | q + 1 => vA q, rfl, by simpa using h2, ?_⟩
    intro q o' hq
    cases q with
    | zero =>
      simp at hq; subst hq
      refine ⟨by simpa [h1] using hp, t, fun hk => ⟨Nat.le_refl _, ?_⟩, hf⟩
      simp [actsOf, hk]
    | succ q =>
      obtain ⟨k1, t', k2, k3⟩ := h3 q o' (by simpa using hq)
      refine ⟨k1, t', fun hk => ?_, by rw [show i + (q + 1) = i + 1 + q from by omega]; exact k3⟩
      obtain ⟨m1, m2⟩ := k2 hk
      simp only [actsOf]
      split at m1
      · rename_i hk'
        rw [hk'] at m2
        simp only at m2
        refine ⟨by omega, ?_⟩
        simp only [hk']
        rw [show t' - t = t' - (t + 1) + 1 from by omega, List.getElem?_cons_succ, m2]
        congr 1; omega
      · rename_i hk'
        have : (match kindOf C o with | .act => t + 1 | _ => t) = t := by split <;> simp_all
        refine ⟨m1, ?_⟩
        split at m2 <;> first | exact absurd ‹_› hk' | skip
        split
        · exact absurd ‹_› hk'
        · rw [m2]; congr 1; omega

theorem readAll_spec {M : List Made} {pred lo hi : Nat} {r : Rd} : ∀ {l : List Stage} {K : Nat}, readAll C M pred lo hi r K l = true → ∀ pos st, l[pos]? = some st → pos ≤ K → lo ≤ K - pos → K - pos ≤ hi →
    ∃ v, rd C (evalT C r.tm) r.o (withMade pred st.joined M st.h) = some v ∧ same v r.v = true
  | [], _, _, pos, st, h, _, _, _ => by simp at h
  | s :: l, K, h, pos, st, hp, hK, h1, h2 => by
    simp only [readAll, Bool.and_eq_true] at h
    cases pos with
    | zero =>
      simp at hp; subst hp
      have h := h.1
      have c1 : Nat.ble lo K = true := by simpa using h1
      have c2 : Nat.ble K hi = true := by simpa using h2
      rw [c1, c2] at h
      simp only [Bool.and_self, cond_true] at h
      split at h
      · rename_i v hv; exact ⟨v, hv, h⟩
      · cases h
    | succ pos =>
      exact readAll_spec h.2 pos st (by simpa using hp) (by omega) (by omega) (by omega)

theorem checkReads_spec {p : Plan} {M : List Made} {S : List Stage} : ∀ {R : List Rd}, checkReads C p M S R = true → ∀ r ∈ R, ∀ k st, S.reverse[k]? = some st →
    countIn (p.preds.getD r.i 0) p.acts ≤ k → k ≤ countNotAhead p.preds r.i p.acts → ∃ v, rd C (evalT C r.tm) r.o (withMade (p.preds.getD r.i 0) st.joined M st.h) = some v ∧ same v r.v = true
  | [], _, r, hr, _, _, _, _, _ => by simp at hr
  | x :: R, h, r, hr, k, st, hk, h1, h2 => by
    simp only [checkReads, Bool.and_eq_true] at h
    rcases List.mem_cons.1 hr with rfl | hr
    · have hlt : k < S.length := by have := (List.getElem?_eq_some_iff.1 hk).1; simpa using this
      rw [List.getElem?_reverse hlt] at hk
      refine readAll_spec h.1 _ st hk (by omega) ?_ ?_ <;> omega
    · exact checkReads_spec h.2 r hr k st hk h1 h2

end Go.Ev
