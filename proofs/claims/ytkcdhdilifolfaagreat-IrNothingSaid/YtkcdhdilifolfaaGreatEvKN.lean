/- Drawn regions whose acts have many outcomes: evaluated stage by stage. -/
import Derived.Test.YtkcdhdilifolfaaGreatEvKD
namespace Go.Ev
variable {C : Ctx}

/-! ### What comes ahead is closed -/
theorem predMask_close {i : Nat} {preds : List Nat} : ∀ {es : List Edge} {m : Nat}, predMask i preds es = some m →
    ∀ e ∈ es, Region.binds .any e = true → bit m e.on = true ∧ ∀ j, bit (preds.getD e.on 0) j = true → bit m j = true
  | [], m, h => by simp
  | e0 :: l, m, h => by
    simp only [predMask] at h
    replace h := of_bind h
    obtain ⟨m', h1, h⟩ := h
    have ih := predMask_close h1
    intro e he hb
    cases hb0 : Region.binds .any e0 with
    | false =>
      rw [hb0] at h
      cases h
      rcases List.mem_cons.1 he with rfl | he
      · rw [hb0] at hb; cases hb
      · exact ih e he hb
    | true =>
      rw [hb0] at h
      simp only [cond_true] at h
      replace h := of_cond_some h
      obtain ⟨_, h⟩ := h
      cases h
      rcases List.mem_cons.1 he with rfl | he
      · refine ⟨by rw [bit_lor, bit_lor, bit_one]; simp, fun j hj => by rw [bit_lor, bit_lor, hj]; simp⟩
      · obtain ⟨k1, k2⟩ := ih e he hb
        exact ⟨by rw [bit_lor, k1]; rfl, fun j hj => by rw [bit_lor, k2 j hj]; rfl⟩

def PredsC (L : List Oper) (preds : List Nat) : Prop := ∀ i o, L[i]? = some o → ∀ e ∈ o.after.toList, Region.binds .any e = true → bit (preds.getD i 0) e.on = true ∧ ∀ j, bit (preds.getD e.on 0) j = true → bit (preds.getD i 0) j = true
theorem predsOf_close : ∀ (l L0 : List Oper) (i : Nat) (ps preds : List Nat), predsOf l i ps = some preds → L0.length = i → ps.length = i → Preds L0 ps → PredsC L0 ps → PredsC (L0 ++ l) preds
  | [], L0, i, ps, preds, h, h0, hl, hp, hc => by
    simp only [predsOf] at h; cases h; simpa using hc
  | o :: l, L0, i, ps, preds, h, h0, hl, hp, hc => by
    have h' := h
    simp only [predsOf] at h
    replace h := of_bind h
    obtain ⟨m, hm, h⟩ := h
    obtain ⟨g1, _⟩ := predMask_spec hm
    have hg : ∀ j, j < i → (ps ++ [m]).getD j 0 = ps.getD j 0 := by
      intro j hj
      simp only [List.getD_eq_getElem?_getD]
      rw [List.getElem?_append_left (by omega)]
    have hgi : (ps ++ [m]).getD i 0 = m := by
      simp only [List.getD_eq_getElem?_getD]
      rw [List.getElem?_append_right (by omega), hl]; simp
    have one1 : predsOf [o] i ps = some (ps ++ [m]) := by simp only [predsOf, hm, Option.bind_some]
    have hp' : Preds (L0 ++ [o]) (ps ++ [m]) := (predsOf_spec [o] L0 i ps _ one1 h0 hl hp).1
    have hc' : PredsC (L0 ++ [o]) (ps ++ [m]) := by
      intro k o' hk
      by_cases hlt : k < i
      · rw [List.getElem?_append_left (by omega)] at hk
        intro e he hb
        have := hp.back k o' hk e he hb
        rw [hg k hlt, hg e.on (by omega)]
        exact hc k o' hk e he hb
      · rw [List.getElem?_append_right (by omega)] at hk
        have hk0 : k - L0.length = 0 := by
          have := (List.getElem?_eq_some_iff.1 hk).1; simpa using this
        rw [hk0] at hk; simp at hk; subst hk
        have : k = i := by omega
        subst this
        intro e he hb
        rw [hgi, hg e.on (g1 e he hb)]
        exact predMask_close hm e he hb
    have := predsOf_close l (L0 ++ [o]) (i + 1) (ps ++ [m]) preds h (by simp [h0]) (by simp [hl]) hp' hc'
    simpa using this

/-- A plan, closed. -/
structure PlanC (C : Ctx) (L : List Oper) (p : Plan) : Prop extends PlanOk C L p where
  trans : ∀ i q j, i < L.length → bit (p.preds.getD i 0) q = true → bit (p.preds.getD q 0) j = true → bit (p.preds.getD i 0) j = true
theorem planOf_close {L : List Oper} {p : Plan} (h : planOf C L = some p) : PlanC C L p := by
  have hp := planOf_spec h
  unfold planOf at h
  replace h := of_bind h
  obtain ⟨preds, h1, h⟩ := h
  replace h := of_cond_some h
  obtain ⟨_, h⟩ := h
  cases h
  have hc : PredsC L preds := by
    have := predsOf_close L [] 0 [] preds h1 rfl rfl ⟨by simp, by simp⟩ (by intro i o h; simp at h)
    simpa using this
  refine ⟨hp, ?_⟩
  intro i
  induction i using Nat.strongRecOn with
  | _ i ih =>
    intro q j hi hq hj
    have ho : L[i]? = some L[i] := by simp [hi]
    obtain ⟨e, e1, e2, e3⟩ := hp.preds.path i _ ho q hq
    obtain ⟨k1, k2⟩ := hc i _ ho e e1 e2
    rcases e3 with rfl | e3
    · exact k2 j hj
    · have hlt := hp.preds.back i _ ho e e1 e2
      exact k2 j (ih e.on hlt q j (by omega) e3 hj)

/-! ### Stages -/
def stg (p : Plan) (i : Nat) : Nat := countIn (p.preds.getD i 0) p.acts
theorem countIn_mono {m m' : Nat} : ∀ {l : List Nat}, (∀ x ∈ l, bit m x = true → bit m' x = true) → countIn m l ≤ countIn m' l
  | [], _ => Nat.le_refl _
  | x :: l, h => by
    have ih := countIn_mono (l := l) (fun y hy => h y (by simp [hy]))
    have hx := h x (by simp)
    simp only [countIn]
    cases hb : bit m x with
    | true => rw [hx hb]; simp only [cond_true]; omega
    | false => cases bit m' x <;> simp only [cond_true, cond_false] <;> omega
theorem countIn_lt {m m' : Nat} : ∀ {l : List Nat}, (∀ x ∈ l, bit m x = true → bit m' x = true) → (∃ x ∈ l, bit m x = false ∧ bit m' x = true) → countIn m l < countIn m' l
  | [], _, ⟨_, hx, _⟩ => by simp at hx
  | x :: l, h, ⟨y, hy, h1, h2⟩ => by
    have ih := countIn_mono (l := l) (fun y hy => h y (by simp [hy]))
    have hx := h x (by simp)
    simp only [countIn]
    by_cases e : y = x
    · subst e
      rw [h1, h2]; simp only [cond_true, cond_false]; omega
    · have hl : y ∈ l := by simpa [e] using hy
      have := countIn_lt (l := l) (fun y hy => h y (by simp [hy])) ⟨y, hl, h1, h2⟩
      cases hb : bit m x with
      | true => rw [hx hb]; simp only [cond_true]; omega
      | false => cases bit m' x <;> simp only [cond_true, cond_false] <;> omega
theorem countIn_eq {m : Nat} : ∀ {l : List Nat} {k : Nat}, k ≤ l.length → (∀ t x, l[t]? = some x → (bit m x = true ↔ t < k)) → countIn m l = k
  | [], k, hk, _ => by simp at hk; subst hk; rfl
  | x :: l, 0, hk, h => by
    simp only [countIn]
    have h0 := h 0 x rfl
    have : bit m x = false := by cases hb : bit m x with | false => rfl | true => have := h0.1 hb; omega
    rw [this]
    exact countIn_eq (l := l) (Nat.zero_le _) (fun t y hy => by
      have := h (t + 1) y (by simpa using hy)
      constructor
      · intro q; have := this.1 q; omega
      · intro q; omega)
  | x :: l, k + 1, hk, h => by
    simp only [countIn]
    rw [(h 0 x rfl).2 (by omega)]
    have := countIn_eq (m := m) (l := l) (k := k) (by simpa using hk) (fun t y hy => by have := h (t + 1) y (by simpa using hy); rw [this]; omega)
    simp only [cond_true, this]

section
variable {L : List Oper} {p : Plan}
theorem PlanC.act_lt (P : PlanC C L p) {k a : Nat} (h : p.acts[k]? = some a) : a < L.length := by
  have := List.mem_of_getElem? h
  rw [P.acts] at this
  obtain ⟨q, o, e1, e2, _⟩ := actsOf_mem.1 this
  have := (List.getElem?_eq_some_iff.1 e2).1
  omega
theorem PlanC.act_kind (P : PlanC C L p) {k a : Nat} (h : p.acts[k]? = some a) : ∃ o, L[a]? = some o ∧ kindOf C o = .act := by
  have := List.mem_of_getElem? h
  rw [P.acts] at this
  obtain ⟨q, o, e1, e2, e3⟩ := actsOf_mem.1 this
  have : q = a := by omega
  subst this
  exact ⟨o, e2, e3⟩
theorem PlanC.act_mem (P : PlanC C L p) {a : Nat} {o : Oper} (h : L[a]? = some o) (hk : kindOf C o = .act) : ∃ k : Nat, p.acts[k]? = some a := by
  have : a ∈ p.acts := by rw [P.acts]; exact actsOf_mem.2 ⟨a, o, by omega, h, hk⟩
  obtain ⟨k, hk, e⟩ := List.mem_iff_getElem.1 this
  exact ⟨k, by rw [List.getElem?_eq_getElem hk, e]⟩
theorem PlanC.act_sorted (P : PlanC C L p) {k k' a a' : Nat} (h : p.acts[k]? = some a) (h' : p.acts[k']? = some a') (hlt : k < k') : a < a' := by
  have hs := (actsOf_sorted (C := C) L 0).1
  rw [← P.acts] at hs
  obtain ⟨l1, e1⟩ := List.getElem?_eq_some_iff.1 h
  obtain ⟨l2, e2⟩ := List.getElem?_eq_some_iff.1 h'
  have := List.pairwise_iff_getElem.1 hs k k' l1 l2 hlt
  omega
theorem PlanC.act_ahead (P : PlanC C L p) : ∀ {k k' a a' : Nat}, p.acts[k]? = some a → p.acts[k']? = some a' → k < k' → bit (p.preds.getD a' 0) a = true := by
  intro k k'
  induction k' with
  | zero => intro a a' _ _ h; omega
  | succ k' ih =>
    intro a a' h h' hlt
    have hk' : k' < p.acts.length := by have := (List.getElem?_eq_some_iff.1 h').1; omega
    have hx : p.acts[k']? = some p.acts[k'] := by simp
    have hc := P.chain k' _ a' hx h'
    by_cases e : k = k'
    · subst e; rw [h] at hx; cases hx; exact hc
    · exact P.trans a' _ a (P.act_lt h') hc (ih h hx (by omega))
theorem PlanC.stg_act (P : PlanC C L p) {k a : Nat} (h : p.acts[k]? = some a) : stg p a = k := by
  refine countIn_eq (Nat.le_of_lt (List.getElem?_eq_some_iff.1 h).1) fun t x hx => ?_
  constructor
  · intro hb
    obtain ⟨o, ho, _⟩ := P.act_kind h
    have hlt := P.preds.lt ho x hb
    rcases Nat.lt_trichotomy t k with h1 | h1 | h1
    · exact h1
    · subst h1; rw [h] at hx; cases hx; omega
    · have := P.act_sorted h hx h1; omega
  · intro hlt; exact P.act_ahead hx h hlt
theorem PlanC.stg_le (P : PlanC C L p) {i q : Nat} (hi : i < L.length) (hq : bit (p.preds.getD i 0) q = true) : stg p q ≤ stg p i := countIn_mono fun x _ hx => P.trans i q x hi hq hx
theorem PlanC.stg_lt (P : PlanC C L p) {i k a : Nat} (hi : i < L.length) (ha : p.acts[k]? = some a) (hq : bit (p.preds.getD i 0) a = true) : k < stg p i := by
  rw [← P.stg_act ha]
  refine countIn_lt (fun x _ hx => P.trans i a x hi hq hx) ⟨a, List.mem_of_getElem? ha, ?_, hq⟩
  obtain ⟨o, ho, _⟩ := P.act_kind ha
  cases hb : bit (p.preds.getD a 0) a with
  | false => rfl
  | true => have := P.preds.lt ho a hb; omega
/-- Acts that come ahead are those below the stage. -/
theorem PlanC.ahead_stg (P : PlanC C L p) {i k a : Nat} (hi : i < L.length) (ha : p.acts[k]? = some a) (hk : k < stg p i) : bit (p.preds.getD i 0) a = true := by
  -- if it were not, all later ones were not, and at most k would be ahead
  cases hb : bit (p.preds.getD i 0) a with
  | true => rfl
  | false =>
    exfalso
    have : countIn (p.preds.getD i 0) p.acts ≤ k := countIn_le fun t x hx hbx => by
      rcases Nat.lt_or_ge t k with h | h
      · exact h
      · exfalso
        rcases Nat.lt_or_eq_of_le h with h | h
        · have := P.trans i x a hi hbx (P.act_ahead ha hx h)
          rw [hb] at this; cases this
        · subst h; rw [ha] at hx; cases hx; rw [hb] at hbx; cases hbx
    unfold stg at hk
    omega
end
end Go.Ev
