/- Drawn regions by stages: a pass; an act. -/
import Derived.Test.YtkcdhdilifolfaaGreatEvKO
namespace Go.Ev
variable {C : Ctx}
section
variable {L : List Oper} {p : Plan} {s : St}

theorem topStage_get {l : List Stage} {st : Stage} {t : Nat} (h : topStage l = some st) (hl : l.length = t + 1) : l.reverse[t]? = some st := by
  obtain ⟨tail, htail⟩ := topStage_some h
  subst htail
  have e := rev_get [] tail st
  simp only [List.nil_append] at e
  have : tail.length = t := by simpa using hl
  rw [← this]; exact e

theorem passW_facts (P : PlanC C L p) {t : Nat} {K : DS → Prop} : ∀ (l L0 : List Oper) (i : Nat) (d : DS) (tmA : Nat → Tm) (vA : Nat → V), L = L0 ++ l → L0.length = i → passW C p L s.n t l i d K →
    RecP C L p s d t i tmA vA →
    ∃ d' tmA' vA', K d' ∧ RecP C L p s d' t L.length tmA' vA' ∧ (∀ j, pdB C L p t i j = true → vA' j = vA j) ∧ d'.stages = d.stages ∧ ∃ lm, d'.made = lm ++ d.made ∧ ∀ m ∈ lm, pdB C L p t i m.i = false := by
  intro l
  induction l with
  | nil =>
    intro L0 i d tmA vA hL h0 h R
    have : i = L.length := by rw [hL, ← h0]; simp
    subst this
    exact ⟨d, tmA, vA, h, R, fun _ _ => rfl, rfl, [], rfl, by simp⟩
  | cons o rest ih =>
    intro L0 i d tmA vA hL h0 h R
    have hLi : L[i]? = some o := by rw [hL, List.getElem?_append_right (by omega), h0]; simp
    have hL' : L = (L0 ++ [o]) ++ rest := by rw [hL]; simp
    have h0' : (L0 ++ [o]).length = i + 1 := by simp [h0]
    have up : ∀ j, pdB C L p t i j = true → pdB C L p t (i + 1) j = true := by
      intro j hj
      unfold pdB at hj ⊢
      rw [Bool.or_eq_true] at hj ⊢
      rcases hj with hj | hj
      · exact .inl hj
      · right
        simp only [Bool.and_eq_true] at hj ⊢
        exact ⟨hj.1, by have := hj.2.1; simp at this ⊢; omega, hj.2.2⟩
    have past : pdB C L p t (i + 1) = pdB C L p t i → passW C p L s.n t rest (i + 1) d K →
        ∃ d' tmA' vA', K d' ∧ RecP C L p s d' t L.length tmA' vA' ∧ (∀ j, pdB C L p t i j = true → vA' j = vA j) ∧ d'.stages = d.stages ∧ ∃ lm, d'.made = lm ++ d.made ∧ ∀ m ∈ lm, pdB C L p t i m.i = false := by
      intro e h
      obtain ⟨d', tmA', vA', k1, k2, k3, k4, lm, k5, k6⟩ := ih (L0 ++ [o]) (i + 1) d tmA vA hL' h0' h (R.past e)
      rw [e] at k3 k6
      exact ⟨d', tmA', vA', k1, k2, k3, k4, lm, k5, k6⟩
    simp only [passW] at h
    cases hb : Nat.beq (countIn (p.preds.getD i 0) p.acts) t with
    | false =>
      rw [hb] at h
      have hs : stg p i ≠ t := by unfold stg; intro e; rw [e] at hb; simp at hb
      refine past ?_ h
      funext j
      by_cases e : j = i
      · subst e
        rw [Bool.eq_iff_iff, pdB_eq hLi, pdB_eq hLi]
        omega
      · unfold pdB
        have : Nat.blt j (i + 1) = Nat.blt j i := by rw [Bool.eq_iff_iff]; simp; omega
        rw [this]
    | true =>
      rw [hb] at h
      simp only [cond_true] at h
      have hs : stg p i = t := by unfold stg; simpa using hb
      have hni : pdB C L p t i i = false := by
        cases hb : pdB C L p t i i with
        | false => rfl
        | true => rw [pdB_eq hLi] at hb; omega
      have fin : kindOf C o ≠ .act → ∀ {tm' : Tm} {v : V}, d.tm.put o.dst v = some tm' → ∀ {made' : List Made} {rds' : List Rd}, (made' = d.made ∨ ∃ ob, made' = ⟨i, s.n + i, ob⟩ :: d.made) →
          (rds' = d.rds ∨ (made' = d.made ∧ rds' = ⟨i, o, d.tm, v⟩ :: d.rds ∧ (wantedT L d.tm o = true → ∀ st, d.stages.reverse[t]? = some st → rdN C (evalT C d.tm) o (withMade (p.preds.getD i 0) st.joined d.made st.h) = some v))) →
          OpFact C p L s.n made' d.stages.reverse rds' i 0 o d.tm v → passW C p L s.n t rest (i + 1) { tm := tm', stages := d.stages, made := made', rds := rds' } K →
          ∃ d' tmA' vA', K d' ∧ RecP C L p s d' t L.length tmA' vA' ∧ (∀ j, pdB C L p t i j = true → vA' j = vA j) ∧ d'.stages = d.stages ∧ ∃ lm, d'.made = lm ++ d.made ∧ ∀ m ∈ lm, pdB C L p t i m.i = false := by
        intro hk tm' v hput made' rds' hm hr hf h
        obtain ⟨d', tmA', vA', k1, k2, k3, k4, lm, k5, k6⟩ := ih (L0 ++ [o]) (i + 1) _ _ _ hL' h0' h (R.more P hLi hs hk hput hm hr hf)
        refine ⟨d', tmA', vA', k1, k2, fun j hj => ?_, k4, ?_⟩
        · rw [k3 j (up j hj), upd_ne]
          rintro rfl; rw [hni] at hj; cases hj
        · have low : ∀ m ∈ lm, pdB C L p t i m.i = false := by
            intro m hm'
            cases hb : pdB C L p t i m.i with
            | false => rfl
            | true => have := up _ hb; rw [k6 m hm'] at this; cases this
          rcases hm with rfl | ⟨ob, rfl⟩
          · exact ⟨lm, k5, low⟩
          · refine ⟨lm ++ [⟨i, s.n + i, ob⟩], by rw [k5]; simp, fun m hm' => ?_⟩
            rcases List.mem_append.1 hm' with h | h
            · exact low m h
            · simp at h; subst h; exact hni
      have hno : mO d.made i = none := mO_none fun m hm e => by
        have := (R.made m hm).2.2
        rw [e, hni] at this; cases this
      split at h
      · rename_i hk
        obtain ⟨v, hv, h⟩ := of_oK h
        obtain ⟨tm, hput, h⟩ := of_oK h
        have hka : kindOf C o ≠ .act := by rw [hk]; simp
        cases hw : wantedT L d.tm o with
        | false =>
          rw [hw] at hv
          have e : undefV = v := Option.some.inj hv
          exact fin hka hput (.inl rfl) (.inl rfl) (.skip hw e.symm hno (.inl hka)) h
        | true =>
          rw [hw] at hv
          exact fin hka hput (.inl rfl) (.inl rfl) (.quiet hw hka (of_rdN hv) hno) h
      · rename_i hk
        have hka : kindOf C o ≠ .act := by rw [hk]; simp
        obtain ⟨st, hst, h⟩ := of_oK h
        obtain ⟨v, hv, h⟩ := of_oK h
        obtain ⟨tm, hput, h⟩ := of_oK h
        refine fin hka hput (.inl rfl) (.inr ⟨rfl, rfl, fun hw st' hst' => ?_⟩) ?_ h
        · have := topStage_get hst R.glen
          rw [hst'] at this; cases this
          rw [hw] at hv; exact hv
        · cases hw : wantedT L d.tm o with
          | false =>
            rw [hw] at hv
            have e : undefV = v := Option.some.inj hv
            exact .skip hw e.symm hno (.inl hka)
          | true => exact .read hw hka (by simp) hno
      · rename_i hk
        have hka : kindOf C o ≠ .act := by rw [hk]; simp
        cases hw : wantedT L d.tm o with
        | false =>
          rw [hw] at h
          simp only [cond_false] at h
          obtain ⟨tm, hput, h⟩ := of_oK h
          exact fin hka hput (.inl rfl) (.inl rfl) (.skip hw rfl hno (.inl hka)) h
        | true =>
          rw [hw] at h
          simp only [cond_true] at h
          obtain ⟨mm, hmm, h⟩ := makeO_mk h
          obtain ⟨tm, hput, h⟩ := of_oK h
          exact fin hka hput (.inr ⟨_, rfl⟩) (.inl rfl) (.make hw hka mm hmm rfl (by exact mO_cons_same (m := ⟨i, s.n + i, mm.1⟩))) h
      · rename_i hk
        refine past ?_ h
        funext j
        by_cases e : j = i
        · subst e
          rw [Bool.eq_iff_iff, pdB_eq hLi, pdB_eq hLi, hk]
          simp
        · unfold pdB
          have : Nat.blt j (i + 1) = Nat.blt j i := by rw [Bool.eq_iff_iff]; simp; omega
          rw [this]

theorem stillW_spec {M : List Made} {k : Nat} {st : Stage} : ∀ {R : List Rd}, stillW C p L M k st R → ∀ r ∈ R, wantedT L r.tm r.o = true → k ≤ countNotAhead p.preds r.i p.acts → rdN C (evalT C r.tm) r.o (withMade (p.preds.getD r.i 0) st.joined M st.h) = some r.v
  | [], _, r, hr, _, _ => by simp at hr
  | x :: R, h, r, hr, hw, hk => by
    simp only [stillW] at h
    rcases List.mem_cons.1 hr with rfl | hr
    · have h1 := h.1
      rw [show Nat.ble k (countNotAhead p.preds r.i p.acts) = true from by simpa using hk, hw] at h1
      exact h1
    · exact stillW_spec h.2 r hr hw hk

/-- An act is done: the next stage begins. -/
theorem RecP.next (P : PlanC C L p) {d : DS} {t a : Nat} {tmA : Nat → Tm} {vA : Nat → V} (R : RecP C L p s d t L.length tmA vA) {o : Oper} (ha : p.acts[t]? = some a) (hL : L[a]? = some o)
    {tm' : Tm} {v : V} (hput : d.tm.put o.dst v = some tm') {st : Stage} (hst : stillW C p L d.made (t + 1) st d.rds) :
    RecP C L p s { d with tm := tm', stages := st :: d.stages } (t + 1) 0 (upd tmA a d.tm) (upd vA a v) := by
  obtain ⟨p1, p2, p3⟩ := Tm.put_get hput
  have hs := P.stg_act ha
  obtain ⟨o', hL', hka⟩ := P.act_kind ha
  rw [hL] at hL'; cases hL'
  have haa : pdB C L p (t + 1) 0 a = true := by rw [pdB_eq hL]; left; omega
  have hna : pdB C L p t L.length a = false := by
    cases hb : pdB C L p t L.length a with
    | false => rfl
    | true => rw [pdB_eq hL] at hb; rcases hb with h | ⟨_, _, h⟩; · omega
              · exact absurd hka h
  have hne : ∀ j oj, L[j]? = some oj → j ≠ a → pdB C L p (t + 1) 0 j = pdB C L p t L.length j := by
    intro j oj hj hja
    rw [Bool.eq_iff_iff, pdB_eq hj, pdB_eq hj]
    have hjl := (List.getElem?_eq_some_iff.1 hj).1
    constructor
    · rintro (h | h)
      · by_cases e : stg p j = t
        · right
          refine ⟨e, hjl, fun hk => ?_⟩
          obtain ⟨k, hk'⟩ := P.act_mem hj hk
          have := P.stg_act hk'
          have : k = t := by omega
          subst this
          rw [ha] at hk'; cases hk'; exact hja rfl
        · left; omega
      · omega
    · rintro (h | h)
      · left; omega
      · left; omega
  have hG : ∀ k st', (st :: d.stages).reverse[k]? = some st' → (k = t + 1 ∧ st' = st) ∨ d.stages.reverse[k]? = some st' := by
    intro k st' h
    rw [List.reverse_cons] at h
    by_cases hlt : k < d.stages.reverse.length
    · rw [List.getElem?_append_left hlt] at h; exact .inr h
    · rw [List.getElem?_append_right (by omega)] at h
      have hk0 := (List.getElem?_eq_some_iff.1 h).1
      have hl : d.stages.reverse.length = t + 1 := by rw [List.length_reverse, R.glen]
      simp at hk0
      have : k - d.stages.reverse.length = 0 := by simp; omega
      rw [this] at h
      simp at h
      simp at hlt hk0
      exact .inl ⟨by have := R.glen; omega, h.symm⟩
  refine ⟨p1.trans R.tmn, ?_, ?_, ?_, ?_, ?_, ?_, by simp [R.glen], ?_, ?_⟩
  · intro x
    show tm'.get x = _
    rw [p2, R.tmg]
    by_cases e : o.dst = some x
    · rw [if_pos e]
      unfold cur
      rw [writer_of P.once hL e]
      simp only [haa, upd_same, cond_true]
    · rw [if_neg e]
      unfold cur
      split
      · rename_i q hq
        obtain ⟨q', oq, e1, e2, e3⟩ := writer_some hq
        have : q' = q := by omega
        subst this
        have hq' : q' ≠ a := by
          rintro rfl
          rw [hL] at e2; cases e2
          exact e e3
        simp only [hne q' oq e2 hq', upd_ne _ _ hq']
      · rfl
  · intro j oj hj hd x hx
    by_cases e : j = a
    · subst e; rw [hL] at hj; cases hj
      have := p3 x hx
      rw [R.tmn] at this; exact this
    · rw [hne j oj hj e] at hd; exact R.dst j oj hj hd x hx
  · intro j oj hj hd
    by_cases e : j = a
    · subst e; rw [hL] at hj; cases hj
      rw [upd_same]
      refine ⟨R.tmn, fun x hx => ?_⟩
      rw [R.tmOf P hL hs (Nat.le_of_lt (List.getElem?_eq_some_iff.1 hL).1) (.inr hka) x hx, cur_upd]
      cases hb : bit (p.preds.getD j 0) j with
      | false => rfl
      | true => have := P.preds.lt hL j hb; omega
    · rw [hne j oj hj e] at hd
      rw [upd_ne _ _ e]
      obtain ⟨k1, k2⟩ := R.tma j oj hj hd
      exact ⟨k1, fun x hx => by rw [k2 x hx, cur_upd (not_ahead P hL hj hs (.inr hka) hd)]⟩
  · intro j oj hj hd hkj
    have e : j ≠ a := by rintro rfl; rw [hL] at hj; cases hj; exact hkj hka
    rw [hne j oj hj e] at hd
    rw [upd_ne _ _ e, upd_ne _ _ e]
    cases R.facts j oj hj hd hkj with
    | skip hw hv hm' hk' => exact .skip hw hv hm' (.inl hkj)
    | quiet hw hk' hr' hm' => exact .quiet hw hk' hr' hm'
    | read hw hk' hr' hm' => exact .read hw hk' hr' hm'
    | make hw hk' mm hmk hv hm' => exact .make hw hk' mm hmk hv hm'
    | act hw hk' => exact absurd hk' hkj
  · intro m hm
    obtain ⟨q1, q2, q3⟩ := R.made m hm
    refine ⟨q1, q2, ?_⟩
    have hmL : L[m.i]? = some L[m.i] := by simp [q1]
    have e : m.i ≠ a := by intro e; rw [e, hna] at q3; cases q3
    rw [hne _ _ hmL e]; exact q3
  · exact R.noact
  · show (st :: d.stages).reverse[0]? = _
    rw [List.reverse_cons, List.getElem?_append_left (by simp [R.glen])]
    exact R.g0
  · intro r hr
    obtain ⟨q1, q2, q3⟩ := R.rds r hr
    have e : r.i ≠ a := by intro e; rw [e, hna] at q2; cases q2
    refine ⟨q1, by rw [hne _ _ q1 e]; exact q2, fun hw k st' h1 h2 h3 => ?_⟩
    rcases hG k st' h1 with ⟨rfl, rfl⟩ | h1
    · exact stillW_spec hst r hr hw h3
    · exact q3 hw k st' h1 h2 h3
end
end Go.Ev
