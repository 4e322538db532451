/- A drawn region: the plain part. Bits, what comes ahead, acts, made blocks. -/
import Derived.Test.YtkcdhdilifolfaaGreatEvT
namespace Go.Ev
variable {C : Ctx}

/-! ### Bits -/
theorem bit_eq (m i : Nat) : bit m i = m.testBit i := by
  have h : Nat.land (Nat.shiftRight m i) 1 = (m >>> i) &&& 1 := rfl
  rw [bit, h, Nat.and_one_is_mod, Nat.testBit_eq_decide_div_mod_eq, Nat.shiftRight_eq_div_pow]
  rw [Bool.eq_iff_iff]; simp

theorem bit_zero (i : Nat) : bit 0 i = false := by rw [bit_eq]; simp
theorem bit_lor (m k i : Nat) : bit (Nat.lor m k) i = (bit m i || bit k i) := by
  rw [bit_eq, bit_eq, bit_eq]; exact Nat.testBit_or m k i
theorem bit_one (k i : Nat) : bit (one k) i = decide (k = i) := by
  rw [bit_eq]
  have : one k = 2 ^ k := by simp [one, Nat.shiftLeft_eq]
  rw [this, Nat.testBit_two_pow]
theorem bit_all {k i : Nat} (h : i < k) : bit (one k - 1) i = true := by
  rw [bit_eq]
  have : one k = 2 ^ k := by simp [one, Nat.shiftLeft_eq]
  rw [this, Nat.testBit_two_pow_sub_one]; simpa using h

/-! ### What comes ahead -/
theorem predMask_spec {i : Nat} {preds : List Nat} : ∀ {es : List Edge} {m : Nat}, predMask i preds es = some m →
    (∀ e ∈ es, Region.binds .any e = true → e.on < i) ∧ (∀ j, bit m j = true → ∃ e ∈ es, Region.binds .any e = true ∧ (e.on = j ∨ bit (preds.getD e.on 0) j = true))
  | [], m, h => by
    simp only [predMask] at h
    cases h
    exact ⟨by simp, fun j hj => by rw [bit_zero] at hj; cases hj⟩
  | e :: l, m, h => by
    simp only [predMask] at h
    replace h := of_bind h
    obtain ⟨m', h1, h⟩ := h
    obtain ⟨g1, g2⟩ := predMask_spec h1
    cases hb : Region.binds .any e with
    | false =>
      rw [hb] at h
      simp only [cond_false] at h
      cases h
      refine ⟨fun e' he hb' => ?_, fun j hj => ?_⟩
      · rcases List.mem_cons.1 he with rfl | he
        · rw [hb] at hb'; cases hb'
        · exact g1 e' he hb'
      · obtain ⟨e', q1, q2⟩ := g2 j hj
        exact ⟨e', List.mem_cons_of_mem _ q1, q2⟩
    | true =>
      rw [hb] at h
      simp only [cond_true] at h
      replace h := of_cond_some h
      obtain ⟨hlt, h⟩ := h
      cases h
      have hlt : e.on < i := by simpa using hlt
      refine ⟨fun e' he hb' => ?_, fun j hj => ?_⟩
      · rcases List.mem_cons.1 he with rfl | he
        · exact hlt
        · exact g1 e' he hb'
      · rw [bit_lor, bit_lor, bit_one] at hj
        rcases Bool.or_eq_true_iff.1 hj with hj | hj
        · obtain ⟨e', q1, q2⟩ := g2 j hj
          exact ⟨e', List.mem_cons_of_mem _ q1, q2⟩
        · refine ⟨e, by simp, hb, ?_⟩
          rcases Bool.or_eq_true_iff.1 hj with hj | hj
          · exact .inl (by simpa using hj)
          · exact .inr hj

/-- What is known of 'preds'. -/
structure Preds (L : List Oper) (preds : List Nat) : Prop where
  back : ∀ i o, L[i]? = some o → ∀ e ∈ o.after.toList, Region.binds .any e = true → e.on < i
  path : ∀ i o, L[i]? = some o → ∀ j, bit (preds.getD i 0) j = true → ∃ e ∈ o.after.toList, Region.binds .any e = true ∧ (e.on = j ∨ bit (preds.getD e.on 0) j = true)

theorem predsOf_spec : ∀ (l L0 : List Oper) (i : Nat) (ps preds : List Nat), predsOf l i ps = some preds → L0.length = i → ps.length = i → Preds L0 ps → Preds (L0 ++ l) preds ∧ preds.length = i + l.length ∧ ps <+: preds
  | [], L0, i, ps, preds, h, h0, hl, hp => by
    simp only [predsOf] at h; cases h
    exact ⟨by simpa using hp, by simpa using hl, List.prefix_refl _⟩
  | o :: l, L0, i, ps, preds, h, h0, hl, hp => by
    simp only [predsOf] at h
    replace h := of_bind h
    obtain ⟨m, hm, h⟩ := h
    obtain ⟨g1, g2⟩ := predMask_spec hm
    have hg : ∀ j, j < i → (ps ++ [m]).getD j 0 = ps.getD j 0 := by
      intro j hj
      simp only [List.getD_eq_getElem?_getD]
      rw [List.getElem?_append_left (by omega)]
    have hgi : (ps ++ [m]).getD i 0 = m := by
      simp only [List.getD_eq_getElem?_getD]
      rw [List.getElem?_append_right (by omega), hl]; simp
    have hp' : Preds (L0 ++ [o]) (ps ++ [m]) := by
      refine ⟨?_, ?_⟩
      · intro k o' hk
        by_cases hlt : k < i
        · rw [List.getElem?_append_left (by omega)] at hk; exact hp.back k o' hk
        · rw [List.getElem?_append_right (by omega)] at hk
          have hk0 : k - L0.length = 0 := by
            have := (List.getElem?_eq_some_iff.1 hk).1; simpa using this
          rw [hk0] at hk; simp at hk; subst hk
          have : k = i := by omega
          subst this
          exact g1
      · intro k o' hk
        by_cases hlt : k < i
        · rw [List.getElem?_append_left (by omega)] at hk
          intro j hj
          rw [hg k hlt] at hj
          obtain ⟨e, e1, e2, e3⟩ := hp.path k o' hk j hj
          have := hp.back k o' hk e e1 e2
          exact ⟨e, e1, e2, by rw [hg _ (by omega)]; exact e3⟩
        · rw [List.getElem?_append_right (by omega)] at hk
          have hk0 : k - L0.length = 0 := by
            have := (List.getElem?_eq_some_iff.1 hk).1; simpa using this
          rw [hk0] at hk; simp at hk; subst hk
          have : k = i := by omega
          subst this
          intro j hj
          rw [hgi] at hj
          obtain ⟨e, e1, e2, e3⟩ := g2 j hj
          exact ⟨e, e1, e2, by rw [hg _ (g1 e e1 e2)]; exact e3⟩
    obtain ⟨k1, k2, k3⟩ := predsOf_spec l (L0 ++ [o]) (i + 1) (ps ++ [m]) preds h (by simp [h0]) (by simp [hl]) hp'
    refine ⟨by simpa using k1, by simp at k2 ⊢; omega, (List.prefix_append ps [m]).trans k3⟩

theorem Preds.lt {L : List Oper} {preds : List Nat} (h : Preds L preds) : ∀ {i : Nat} {o : Oper}, L[i]? = some o → ∀ j, bit (preds.getD i 0) j = true → j < i := by
  intro i
  induction i using Nat.strongRecOn with
  | _ i ih =>
    intro o ho j hj
    obtain ⟨e, e1, e2, e3⟩ := h.path i o ho j hj
    have hlt := h.back i o ho e e1 e2
    rcases e3 with rfl | e3
    · exact hlt
    · have hl : e.on < L.length := by have := (List.getElem?_eq_some_iff.1 ho).1; omega
      have := ih e.on hlt (o := L[e.on]) (by simp [hl]) j e3
      omega

/-! ### Acts -/
theorem actsOf_mem : ∀ {l : List Oper} {i x : Nat}, x ∈ actsOf C i l ↔ ∃ q o, x = i + q ∧ l[q]? = some o ∧ kindOf C o = .act
  | [], i, x => by simp [actsOf]
  | o :: l, i, x => by
    have ih := fun i => actsOf_mem (l := l) (i := i) (x := x)
    have step : (∃ q o', x = i + q ∧ (o :: l)[q]? = some o' ∧ kindOf C o' = .act) ↔ ((x = i ∧ kindOf C o = .act) ∨ ∃ q o', x = i + 1 + q ∧ l[q]? = some o' ∧ kindOf C o' = .act) := by
      constructor
      · rintro ⟨q, o', rfl, h1, h2⟩
        cases q with
        | zero => simp at h1; subst h1; exact .inl ⟨rfl, h2⟩
        | succ q => exact .inr ⟨q, o', by omega, by simpa using h1, h2⟩
      · rintro (⟨rfl, h⟩ | ⟨q, o', rfl, h1, h2⟩)
        · exact ⟨0, o, rfl, by simp, h⟩
        · exact ⟨q + 1, o', by omega, by simpa using h1, h2⟩
    rw [step, ← ih]
    simp only [actsOf]
    split
    · rename_i hk; simp [hk]
    · rename_i hk
      constructor
      · exact .inr
      · rintro (⟨_, h⟩ | h)
        · exact absurd h hk
        · exact h

theorem actsOf_sorted : ∀ (l : List Oper) (i : Nat), (actsOf C i l).Pairwise (· < ·) ∧ ∀ x ∈ actsOf C i l, i ≤ x
  | [], i => by simp [actsOf]
  | o :: l, i => by
    obtain ⟨h1, h2⟩ := actsOf_sorted l (i + 1)
    simp only [actsOf]
    split
    · refine ⟨List.pairwise_cons.2 ⟨fun x hx => by have := h2 x hx; omega, h1⟩, ?_⟩
      intro x hx
      rcases List.mem_cons.1 hx with rfl | hx
      · exact Nat.le_refl _
      · have := h2 x hx; omega
    · exact ⟨h1, fun x hx => by have := h2 x hx; omega⟩

theorem actsOk_spec {preds : List Nat} : ∀ {l : List Nat}, actsOk preds l = true → ∀ t a b, l[t]? = some a → l[t + 1]? = some b → bit (preds.getD b 0) a = true
  | [], _, t, a, b, h1, h2 => by simp at h1
  | [x], _, t, a, b, h1, h2 => by cases t <;> simp at h2
  | x :: y :: l, h, t, a, b, h1, h2 => by
    simp only [actsOk, Bool.and_eq_true] at h
    cases t with
    | zero => simp at h1 h2; subst h1; subst h2; exact h.1
    | succ t => exact actsOk_spec h.2 t a b (by simpa using h1) (by simpa using h2)

theorem countIn_le {m : Nat} : ∀ {l : List Nat} {k : Nat}, (∀ t x, l[t]? = some x → bit m x = true → t < k) → countIn m l ≤ k
  | [], k, _ => by simp [countIn]
  | x :: l, k, h => by
    simp only [countIn]
    have ih := countIn_le (m := m) (l := l) (k := k - 1) (fun t y h1 h2 => by have := h (t + 1) y (by simpa using h1) h2; omega)
    cases hb : bit m x with
    | true => simp only [cond_true]; have := h 0 x (by simp) hb; omega
    | false => simp only [cond_false]; omega

theorem le_countNotAhead {preds : List Nat} {i : Nat} : ∀ {l : List Nat} {k : Nat}, k ≤ l.length → (∀ t x, t < k → l[t]? = some x → bit (preds.getD x 0) i = false) → k ≤ countNotAhead preds i l
  | [], k, hk, _ => by simpa [countNotAhead] using hk
  | x :: l, 0, hk, h => Nat.zero_le _
  | x :: l, k + 1, hk, h => by
    simp only [countNotAhead]
    have ih := le_countNotAhead (preds := preds) (i := i) (l := l) (k := k) (by simpa using hk) (fun t y h1 h2 => h (t + 1) y (by omega) (by simpa using h2))
    rw [h 0 x (by omega) (by simp)]
    simp only [cond_false]; omega

/-! ### Who writes -/
theorem dstIs_iff {t : Tmp} {d : Option Tmp} : dstIs t d = true ↔ d = some t := by
  cases d with
  | none => simp [dstIs]
  | some d => simp [dstIs]

theorem writer_some {t : Tmp} : ∀ {l : List Oper} {i p : Nat}, writer t l i = some p → ∃ q o, p = i + q ∧ l[q]? = some o ∧ o.dst = some t
  | [], i, p, h => by simp [writer] at h
  | o :: l, i, p, h => by
    simp only [writer] at h
    cases hd : dstIs t o.dst with
    | true => rw [hd] at h; cases h; exact ⟨0, o, rfl, by simp, dstIs_iff.1 hd⟩
    | false =>
      rw [hd] at h
      obtain ⟨q, o', rfl, h1, h2⟩ := writer_some h
      exact ⟨q + 1, o', by omega, by simpa using h1, h2⟩
theorem writer_none {t : Tmp} : ∀ {l : List Oper} {i : Nat}, writer t l i = none → ∀ (q : Nat) (o : Oper), l[q]? = some o → o.dst ≠ some t
  | [], i, h, q, o, hq => by simp at hq
  | o :: l, i, h, q, o', hq => by
    simp only [writer] at h
    cases hd : dstIs t o.dst with
    | true => rw [hd] at h; cases h
    | false =>
      rw [hd] at h
      cases q with
      | zero =>
        simp at hq; subst hq
        intro e; rw [dstIs_iff.2 e] at hd; cases hd
      | succ q => exact writer_none h q o' (by simpa using hq)
theorem onceOk_spec : ∀ {l : List Oper}, onceOk l = true → ∀ (p q : Nat) (o o' : Oper) (t : Tmp), l[p]? = some o → l[q]? = some o' → o.dst = some t → o'.dst = some t → p = q
  | [], _, p, q, o, o', t, h1, _, _, _ => by simp at h1
  | x :: l, h, p, q, o, o', t, h1, h2, h3, h4 => by
    simp only [onceOk, Bool.and_eq_true] at h
    obtain ⟨ha, hb⟩ := h
    have hno : ∀ (k : Nat) (y : Oper), x.dst = some t → l[k]? = some y → y.dst ≠ some t := by
      intro k y hx hk
      rw [hx] at ha
      simp only [Option.isNone_iff_eq_none] at ha
      exact writer_none ha k y hk
    cases p with
    | zero =>
      simp at h1; subst h1
      cases q with
      | zero => rfl
      | succ q => exact absurd h4 (hno q o' h3 (by simpa using h2))
    | succ p =>
      cases q with
      | zero =>
        simp at h2; subst h2
        exact absurd h3 (hno p o h4 (by simpa using h1))
      | succ q => rw [onceOk_spec hb p q o o' t (by simpa using h1) (by simpa using h2) h3 h4]
theorem writer_of {L : List Oper} (ho : onceOk L = true) {p : Nat} {o : Oper} {t : Tmp} (hp : L[p]? = some o) (hd : o.dst = some t) : writer t L 0 = some p := by
  cases hw : writer t L 0 with
  | none => exact absurd hd (writer_none hw p o hp)
  | some p' =>
    obtain ⟨q, o', rfl, h1, h2⟩ := writer_some hw
    rw [onceOk_spec ho p q o o' t hp h1 hd h2, Nat.zero_add]

/-- What is read is written ahead of it, or behind it. -/
theorem readOk_spec {L : List Oper} {preds : List Nat} {i : Nat} : ∀ {ts : List Tmp}, readOk L preds i ts = true → ∀ t ∈ ts, ∀ p, writer t L 0 = some p →
    (p < i → bit (preds.getD i 0) p = true) ∧ (i < p → bit (preds.getD p 0) i = true)
  | [], _, t, ht, _, _ => by simp at ht
  | x :: ts, h, t, ht, p, hp => by
    simp only [readOk, Bool.and_eq_true] at h
    rcases List.mem_cons.1 ht with rfl | ht
    · have h := h.1
      rw [hp] at h
      simp only at h
      constructor
      · intro hlt
        rw [show Nat.blt p i = true from by simpa using hlt] at h; exact h
      · intro hlt
        rw [show Nat.blt p i = false from by simp; omega, show Nat.blt i p = true from by simpa using hlt] at h; exact h
    · exact readOk_spec h.2 t ht p hp
theorem allReadsOk_spec {L : List Oper} {preds : List Nat} : ∀ {l : List Oper} {i : Nat}, allReadsOk L preds i l = true → ∀ q o, l[q]? = some o →
    readOk L preds (i + q) (guardTmps L o ++ opTmps o.op.operands.toList) = true
  | [], i, _, q, o, hq => by simp at hq
  | x :: l, i, h, q, o, hq => by
    simp only [allReadsOk, Bool.and_eq_true] at h
    cases q with
    | zero => simp at hq; subst hq; exact h.1
    | succ q =>
      have := allReadsOk_spec h.2 q o (by simpa using hq)
      rw [show i + (q + 1) = i + 1 + q from by omega]; exact this
theorem opTmps_mem {t : Tmp} : ∀ {l : List Operand}, .tmp t ∈ l → t ∈ opTmps l
  | [], h => by simp at h
  | x :: l, h => by
    rcases List.mem_cons.1 h with rfl | h
    · simp [opTmps]
    · have := opTmps_mem h
      cases x <;> simp [opTmps, this]

structure PlanOk (C : Ctx) (L : List Oper) (p : Plan) : Prop where
  preds : Preds L p.preds
  acts : p.acts = actsOf C 0 L
  once : onceOk L = true
  reads : ∀ i o, L[i]? = some o → ∀ t, t ∈ guardTmps L o ++ opTmps o.op.operands.toList → ∀ q, writer t L 0 = some q →
    (q < i → bit (p.preds.getD i 0) q = true) ∧ (i < q → bit (p.preds.getD q 0) i = true)
  chain : ∀ t a b, p.acts[t]? = some a → p.acts[t + 1]? = some b → bit (p.preds.getD b 0) a = true

theorem planOf_spec {L : List Oper} {p : Plan} (h : planOf C L = some p) : PlanOk C L p := by
  unfold planOf at h
  replace h := of_bind h
  obtain ⟨preds, h1, h⟩ := h
  replace h := of_cond_some h
  obtain ⟨h2, h⟩ := h
  cases h
  simp only [Bool.and_eq_true] at h2
  obtain ⟨g1, g2, g3⟩ := h2
  obtain ⟨k1, k2, _⟩ := predsOf_spec L [] 0 [] preds h1 rfl rfl ⟨by simp, by simp⟩
  refine ⟨by simpa using k1, rfl, g1, ?_, actsOk_spec g3⟩
  intro i o ho t ht q hq
  have := allReadsOk_spec g2 i o ho
  rw [Nat.zero_add] at this
  exact readOk_spec this t ht q hq

/-! ### Made blocks -/
def mO (M : List Made) (j : Nat) : Option O := (M.find? fun m => Nat.beq m.i j).map (·.o)
/-- The made block that lies over memory. -/
def ovr (mask J : Nat) (M : List Made) (n0 b : Nat) : Option O := bif Nat.ble n0 b && (bit mask (b - n0) && !bit J (b - n0)) then mO M (b - n0) else none

theorem withMade_get {mask J n0 : Nat} {h : Heap} : ∀ {M : List Made}, (∀ m ∈ M, m.id = n0 + m.i) → ∀ b, (withMade mask J M h).get b = (ovr mask J M n0 b).or (h.get b)
  | [], _, b => by simp [withMade, ovr, mO]
  | m :: M, hM, b => by
    have ih := withMade_get (mask := mask) (J := J) (h := h) (M := M) (fun x hx => hM x (by simp [hx])) b
    have hid := hM m (by simp)
    have hmO : mO (m :: M) (b - n0) = if m.i = b - n0 then some m.o else mO M (b - n0) := by
      by_cases e : m.i = b - n0
      · rw [if_pos e]; simp [mO, List.find?_cons, e]
      · rw [if_neg e]
        have : Nat.beq m.i (b - n0) = false := by simpa using e
        simp [mO, List.find?_cons, this]
    simp only [withMade]
    cases hc : bit mask m.i && !bit J m.i with
    | true =>
      simp only [cond_true]
      rw [Tree.get_set]
      by_cases e : b = m.id
      · rw [if_pos e]
        have e2 : m.i = b - n0 := by omega
        have : Nat.ble n0 b = true := by simp; omega
        simp [ovr, this, ← e2, hc, mO, List.find?_cons]
      · rw [if_neg e, ih]
        by_cases hb : n0 ≤ b
        · have e2 : m.i ≠ b - n0 := by omega
          rw [show ovr mask J (m :: M) n0 b = ovr mask J M n0 b from by simp only [ovr, hmO, if_neg e2]]
        · have : Nat.ble n0 b = false := by simp; omega
          simp [ovr, this]
    | false =>
      simp only [cond_false]
      rw [ih]
      by_cases e2 : m.i = b - n0
      · have : ∀ M', ovr mask J M' n0 b = none := by
          intro M'
          simp only [ovr, ← e2, hc, Bool.and_false, cond_false]
        rw [this, this]
      · rw [show ovr mask J (m :: M) n0 b = ovr mask J M n0 b from by simp only [ovr, hmO, if_neg e2]]

theorem withMade_append {mask J : Nat} {h : Heap} {M : List Made} : ∀ {N : List Made}, (∀ m ∈ N, bit mask m.i = false) → withMade mask J (N ++ M) h = withMade mask J M h
  | [], _ => rfl
  | m :: N, hN => by
    simp only [List.cons_append, withMade]
    rw [hN m (by simp)]
    simp only [Bool.false_and, cond_false]
    exact withMade_append fun x hx => hN x (by simp [hx])
theorem joinMade_append {mask J : Nat} {M : List Made} : ∀ {N : List Made}, (∀ m ∈ N, bit mask m.i = false) → joinMade mask (N ++ M) J = joinMade mask M J
  | [], _ => rfl
  | m :: N, hN => by
    simp only [List.cons_append, joinMade]
    rw [hN m (by simp)]
    simp only [cond_false]
    exact joinMade_append fun x hx => hN x (by simp [hx])
theorem joinMade_bit {mask J j : Nat} : ∀ {M : List Made}, bit (joinMade mask M J) j = (bit J j || (bit mask j && (mO M j).isSome))
  | [] => by simp [joinMade, mO]
  | m :: M => by
    have ih := joinMade_bit (mask := mask) (J := J) (j := j) (M := M)
    simp only [joinMade]
    by_cases e : m.i = j
    · subst e
      have : mO (m :: M) m.i = some m.o := by simp [mO, List.find?_cons]
      rw [this]
      cases hb : bit mask m.i with
      | true => simp only [cond_true]; rw [bit_lor, bit_one]; simp
      | false => simp only [cond_false]; rw [ih, hb]; simp
    · have hne : Nat.beq m.i j = false := by simpa using e
      have : mO (m :: M) j = mO M j := by simp [mO, List.find?_cons, hne]
      rw [this]
      cases hb : bit mask m.i with
      | true => simp only [cond_true]; rw [bit_lor, bit_one, ih]; simp [e]
      | false => simp only [cond_false]; rw [ih]

end Go.Ev
