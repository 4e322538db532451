/- Drawn regions by stages: the walk in whatever order. -/
import Derived.Test.YtkcdhdilifolfaaGreatEvKP
namespace Go.Ev
variable {C : Ctx}
section
variable {L : List Oper} {p : Plan} {s : St} {M : List Made} {G : List Stage} {vA : Nat → V}
variable {ρ0 : Ren} {w0 : World} {ds : List Deferred} {mask k : Nat} {ρ : Ren} {st : Stage} {listed : Array Bool} {a : Act} {w : World}

/-- Another record that says the same of what is listed. -/
theorem Inv.change (I : Inv C L p s M G vA ρ0 w0 ds mask k ρ st listed a w) {M' : List Made} {G' : List Stage} {vA' : Nat → V} (hv : ∀ j, listed.getD j false = true → vA' j = vA j) (hG : G'[k]? = some st)
    (hM : ∀ J b, (withMade mask J M' st.h).get b = (withMade mask J M st.h).get b) (hn : ∀ j, (mO M j).isSome = true → (mO M' j).isSome = true) : Inv C L p s M' G' vA' ρ0 w0 ds mask k ρ st listed a w := by
  refine ⟨I.masked, I.lsize, I.down, I.acts, I.kq, hG, I.stn, I.tsize, fun t => ?_, I.defs, I.evo.congr fun b => hM _ b, fun j hj x hx => ?_, I.joined, I.dis, I.fr⟩
  · have : cur L s vA' (fun q => listed.getD q false) t = cur L s vA (fun q => listed.getD q false) t := by
      unfold cur
      split
      · rename_i q _
        cases hl : listed.getD q false with
        | false => simp only [hl, cond_false]
        | true => simp only [hl, cond_true, hv q hl]
      · rfl
    rw [this]; exact I.tm t
  · obtain ⟨q1, q2⟩ := I.names j hj x hx
    exact ⟨q1, hn j q2⟩

theorem Inv.more2 (P : PlanC C L p) (I : Inv C L p s M G vA ρ0 w0 ds mask k ρ st listed a w) {i : Nat} {o : Oper} (hL : L[i]? = some o) (hdst : ∀ t, o.dst = some t → t < s.tm.n)
    (hpre : ∀ j, bit (p.preds.getD i 0) j = true → listed.getD j false = true) {ρ' : Ren} (hle : ρ.le ρ') {y : Value} (hy : VRel ρ' (vA i) y) :
    (∀ j, bit (Nat.lor mask (one i)) j = (listed.setIfInBounds i true).getD j false) ∧
    (∀ i' j, (listed.setIfInBounds i true).getD i' false = true → bit (p.preds.getD i' 0) j = true → (listed.setIfInBounds i true).getD j false = true) ∧
    (a.put o.dst y).tmps.size = s.tm.n ∧ (∀ t, VRel ρ' (cur L s vA (fun q => (listed.setIfInBounds i true).getD q false) t) ((a.put o.dst y).tmps.getD t undef)) ∧ (a.put o.dst y).defers = ds := by
  have hi : i < L.length := (List.getElem?_eq_some_iff.1 hL).1
  have hi' : i < listed.size := by rw [I.lsize]; exact hi
  have hd := getD_set hi'
  refine ⟨?_, ?_, ?_, ?_, ?_⟩
  · intro j
    rw [bit_lor, bit_one, hd, I.masked]
    by_cases e : j = i
    · subst e; simp
    · rw [if_neg e]
      have : ¬ i = j := fun x => e x.symm
      simp [this]
  · intro i' j h1 h2
    rw [hd] at h1 ⊢
    by_cases e : j = i
    · rw [if_pos e]
    · rw [if_neg e]
      by_cases e' : i' = i
      · subst e'; exact hpre j h2
      · rw [if_neg e'] at h1; exact I.down i' j h1 h2
  · cases hd' : o.dst with
    | none => exact I.tsize
    | some d => simp [Act.put, I.tsize]
  · intro t
    by_cases e : o.dst = some t
    · have hw := writer_of P.once hL e
      have : cur L s vA (fun q => (listed.setIfInBounds i true).getD q false) t = vA i := by
        unfold cur; rw [hw]; simp only; rw [hd, if_pos rfl]; rfl
      rw [this, e]
      have ht : t < a.tmps.size := by rw [I.tsize]; exact hdst t e
      simp only [Act.put]
      have : (a.tmps.setIfInBounds t y).getD t undef = y := by simp [ht]
      rw [this]; exact hy
    · have e1 : cur L s vA (fun q => (listed.setIfInBounds i true).getD q false) t = cur L s vA (fun q => listed.getD q false) t := by
        unfold cur
        split
        · rename_i q hq
          have hne : q ≠ i := by
            rintro rfl
            obtain ⟨q', o', e1, e2, e3⟩ := writer_some hq
            have : q' = q := by omega
            subst this
            rw [hL] at e2; cases e2
            exact e e3
          simp only [hd, if_neg hne]
        · rfl
      have e2 : (a.put o.dst y).tmps.getD t undef = a.tmps.getD t undef := by
        cases hdst : o.dst with
        | none => rfl
        | some d =>
          have : d ≠ t := by rintro rfl; exact e hdst
          simp [Act.put, Array.getElem?_setIfInBounds_ne this]
      rw [e1, e2]; exact (I.tm t).mono hle
  · cases hd' : o.dst with
    | none => exact I.defs
    | some d => exact I.defs

theorem Inv.actsStay2 (P : PlanC C L p) (I : Inv C L p s M G vA ρ0 w0 ds mask k ρ st listed a w) {i : Nat} {o : Oper} (hL : L[i]? = some o) (hk : kindOf C o ≠ .act) :
    ∀ t x, p.acts[t]? = some x → ((listed.setIfInBounds i true).getD x false = true ↔ t < k) := by
  intro t x hx
  have hi' : i < listed.size := by rw [I.lsize]; exact (List.getElem?_eq_some_iff.1 hL).1
  have hne : x ≠ i := by
    rintro rfl
    obtain ⟨o', e2, e3⟩ := P.act_kind hx
    rw [hL] at e2; cases e2; exact hk e3
  rw [getD_set hi', if_neg hne]
  exact I.acts t x hx

theorem Inv.actsNext2 (P : PlanC C L p) (I : Inv C L p s M G vA ρ0 w0 ds mask k ρ st listed a w) {i t : Nat} (ht : p.acts[t]? = some i) (hun : listed.getD i false = false) (hi' : i < listed.size)
    (hpre : ∀ j, bit (p.preds.getD i 0) j = true → listed.getD j false = true) :
    t = k ∧ ∀ t' x, p.acts[t']? = some x → ((listed.setIfInBounds i true).getD x false = true ↔ t' < k + 1) := by
  have h1 : ¬ t < k := by intro h; rw [(I.acts t i ht).2 h] at hun; cases hun
  have h2 : t = k := by
    by_cases h0 : t = 0
    · omega
    · have hlt := (List.getElem?_eq_some_iff.1 ht).1
      have hx : p.acts[t - 1]? = some p.acts[t - 1] := by simp
      have := P.chain (t - 1) _ i hx (by rw [show t - 1 + 1 = t from by omega]; exact ht)
      have := (I.acts (t - 1) _ hx).1 (hpre _ this)
      omega
  subst h2
  refine ⟨rfl, fun t' x hx => ?_⟩
  rw [getD_set hi']
  by_cases e : x = i
  · rw [if_pos e]
    subst e
    have : t' = t := by
      rcases Nat.lt_trichotomy t t' with h | h | h
      · have := P.act_sorted ht hx h; omega
      · exact h.symm
      · have := P.act_sorted hx ht h; omega
    simp; omega
  · rw [if_neg e, I.acts t' x hx]
    constructor
    · omega
    · intro h
      by_cases e' : t' = t
      · subst e'; rw [ht] at hx; cases hx; exact absurd rfl e
      · omega

theorem Inv.sub2 (hmade : ∀ m ∈ M, m.i < L.length ∧ m.id = s.n + m.i) (I : Inv C L p s M G vA ρ0 w0 ds mask k ρ st listed a w) {pre : Nat} (hpre : ∀ j, bit pre j = true → listed.getD j false = true) :
    ∀ b o, (withMade pre st.joined M st.h).get b = some o → (withMade mask st.joined M st.h).get b = some o := by
  have hid : ∀ m ∈ M, m.id = s.n + m.i := fun m hm => (hmade m hm).2
  have hlt : ∀ m ∈ M, m.i < L.length := fun m hm => (hmade m hm).1
  intro b o
  rw [withMade_get hid, withMade_get hid]
  unfold ovr
  cases hb : Nat.ble s.n b with
  | false => simp
  | true =>
    have hb' : s.n ≤ b := by simpa using hb
    simp only [Bool.true_and]
    cases hJ : bit st.joined (b - s.n) with
    | true => simp
    | false =>
      simp only [Bool.not_false, Bool.and_true]
      cases hp : bit pre (b - s.n) with
      | true =>
        have : bit mask (b - s.n) = true := by rw [I.masked]; exact hpre _ hp
        rw [this]; exact id
      | false =>
        simp only [cond_false, Option.none_or]
        intro h
        cases hm : bit mask (b - s.n) with
        | false => simpa using h
        | true =>
          simp only [cond_true]
          cases ho : mO M (b - s.n) with
          | none => simpa using h
          | some o' =>
            have := I.dis (b - s.n) (mO_lt hlt ho) hJ
            rw [show s.n + (b - s.n) = b from by omega, h] at this
            cases this

theorem Inv.still2 (P : PlanC C L p) (hmade : ∀ m ∈ M, m.i < L.length ∧ m.id = s.n + m.i) (I : Inv C L p s M G vA ρ0 w0 ds mask k ρ st listed a w) {i : Nat} {o : Oper} (hL : L[i]? = some o) (hdst : ∀ t, o.dst = some t → t < s.tm.n)
    (hpre : ∀ j, bit (p.preds.getD i 0) j = true → listed.getD j false = true) {y : Value} (hy : VRel ρ (vA i) y) (hm : mO M i = none)
    {k' : Nat} (hk' : k' ≤ p.acts.length) (hst : G[k']? = some st) (hacts : ∀ t x, p.acts[t]? = some x → ((listed.setIfInBounds i true).getD x false = true ↔ t < k')) :
    Inv C L p s M G vA ρ0 w0 ds (Nat.lor mask (one i)) k' ρ st (listed.setIfInBounds i true) (a.put o.dst y) w := by
  obtain ⟨h1, h2, h3, h4, h5⟩ := I.more2 P hL hdst hpre (Ren.le_refl ρ) hy
  have hi' : i < listed.size := by rw [I.lsize]; exact (List.getElem?_eq_some_iff.1 hL).1
  have hid : ∀ m ∈ M, m.id = s.n + m.i := fun m hm => (hmade m hm).2
  have up : ∀ j, listed.getD j false = true → (listed.setIfInBounds i true).getD j false = true := fun j hj => by rw [getD_set hi']; split <;> simp_all
  refine ⟨h1, by simp [I.lsize], h2, hacts, hk', hst, I.stn, h3, h4, h5, I.evo.congr fun b => ?_, fun j hj x hx => ?_, fun j hj => up j (I.joined j hj), I.dis, I.fr⟩
  · rw [withMade_get hid, withMade_get hid, ovr_more hm]
  · obtain ⟨k1, k2⟩ := I.names j hj x hx
    exact ⟨up j k1, k2⟩

/-- What an operation reads is what was read of it. -/
theorem Inv.reads2 (P : PlanC C L p) (I : Inv C L p s M G vA ρ0 w0 ds mask k ρ st listed a w) {i : Nat} {o : Oper} (hL : L[i]? = some o)
    (hun : listed.getD i false = false) (hpre : ∀ j, bit (p.preds.getD i 0) j = true → listed.getD j false = true) {tm : Tm}
    (htm : ∀ x ∈ guardTmps L o ++ opTmps o.op.operands.toList, tm.get x = cur L s vA (fun q => bit (p.preds.getD i 0) q) x) :
    ∀ t, t ∈ guardTmps L o ++ opTmps o.op.operands.toList → VRel ρ (tm.get t) (a.tmps.getD t undef) := by
  intro t ht
  have e : tm.get t = cur L s vA (fun q => listed.getD q false) t := by
    rw [htm t ht]
    unfold cur
    split
    · rename_i q hq
      obtain ⟨h1, h2⟩ := P.reads i o hL t ht q hq
      have : bit (p.preds.getD i 0) q = listed.getD q false := by
        cases hb : bit (p.preds.getD i 0) q with
        | true => exact (hpre q hb).symm
        | false =>
          rcases Nat.lt_trichotomy q i with h | h | h
          · have := h1 h; rw [hb] at this; cases this
          · subst h; exact hun.symm
          · cases hl : listed.getD q false with
            | false => rfl
            | true => rw [I.down q i hl (h2 h)] at hun; cases hun
      show (bif bit (p.preds.getD i 0) q then vA q else s.tm.get t) = bif listed.getD q false then vA q else s.tm.get t
      rw [this]
    · rfl
  rw [e]; exact I.tm t

/-- An act that is done, by what it answered. -/
theorem Inv.acted (P : PlanC C L p) (hmade : ∀ m ∈ M, m.i < L.length ∧ m.id = s.n + m.i) (I : Inv C L p s M G vA ρ0 w0 ds mask k ρ st listed a w) {i : Nat} {o : Oper} (hL : L[i]? = some o) (hact : p.acts[k]? = some i) (hdst : ∀ t, o.dst = some t → t < s.tm.n)
    (hun : listed.getD i false = false) (hpre : ∀ j, bit (p.preds.getD i 0) j = true → listed.getD j false = true) {ρ' : Ren} {y : Value} {w' : World} {st' : Stage}
    (ev : Evo ρ (withMade (p.preds.getD i 0) st.joined M st.h) st.n w ρ' st'.h st'.n w') (hy : VRel ρ' (vA i) y) (hj : st'.joined = joinMade (p.preds.getD i 0) M st.joined) (hm : mO M i = none) (hG : G[k + 1]? = some st') :
    Inv C L p s M G vA ρ0 w0 ds (Nat.lor mask (one i)) (k + 1) ρ' st' (listed.setIfInBounds i true) (a.put o.dst y) w' := by
  have hlt : i < L.length := (List.getElem?_eq_some_iff.1 hL).1
  have hi' : i < listed.size := by rw [I.lsize]; exact hlt
  have hid : ∀ m ∈ M, m.id = s.n + m.i := fun m hm => (hmade m hm).2
  have hmlt : ∀ m ∈ M, m.i < L.length := fun m hm => (hmade m hm).1
  have up : ∀ j, listed.getD j false = true → (listed.setIfInBounds i true).getD j false = true := fun j hj => by rw [getD_set hi']; split <;> simp_all
  obtain ⟨_, hn⟩ := I.actsNext2 P hact hun hi' hpre
  have hlen : k + 1 ≤ p.acts.length := (List.getElem?_eq_some_iff.1 hact).1
  obtain ⟨k1, k2, k3, k4, k5⟩ := I.more2 P hL hdst hpre ev.le hy
  have hJ' : ∀ j, bit st'.joined j = (bit st.joined j || (bit (p.preds.getD i 0) j && (mO M j).isSome)) := fun j => by rw [hj, joinMade_bit]
  have nameOld : ∀ j, j < L.length → ∀ x, ρ' (s.n + j) = some x → ρ (s.n + j) = some x := by
    intro j hjl x hx
    cases hρ : ρ (s.n + j) with
    | some x' => rw [ev.le _ _ hρ] at hx; exact hx
    | none => have := ev.new _ x hx hρ; have := I.stn; omega
  have wide : Evo ρ (withMade mask st.joined M st.h) st.n w ρ' (withMade (Nat.lor mask (one i)) st'.joined M st'.h) st'.n w' := by
    refine ev.widen I.evo.hrel (I.sub2 hmade hpre) fun b ob hb => ?_
    rw [withMade_get hid, ovr_more hm] at hb
    cases ho' : ovr mask st'.joined M s.n b with
    | none => rw [ho'] at hb; exact .inl (by simpa using hb)
    | some o' =>
      right
      rw [ho'] at hb
      have : o' = ob := by simpa using hb
      subst this
      unfold ovr at ho'
      replace ho' := of_cond_some ho'
      obtain ⟨c1, c2⟩ := ho'
      simp only [Bool.and_eq_true, Bool.not_eq_true'] at c1
      obtain ⟨c3, c4, c5⟩ := c1
      have hbn : s.n ≤ b := by simpa using c3
      rw [hJ', Bool.or_eq_false_iff] at c5
      obtain ⟨c5, c6⟩ := c5
      rw [c2] at c6
      have c6 : bit (p.preds.getD i 0) (b - s.n) = false := by simpa using c6
      have hjl := mO_lt hmlt c2
      refine ⟨?_, ?_⟩
      · rw [withMade_get hid]
        unfold ovr
        rw [c3, c4, c5, c2]; rfl
      · rw [withMade_get hid]
        unfold ovr
        rw [c6]
        have := I.dis _ hjl c5
        rw [show s.n + (b - s.n) = b from by omega] at this
        rw [this]; simp
  refine ⟨k1, by simp [I.lsize], k2, hn, hlen, hG, by have := I.stn; have := ev.num; omega, k3, k4, k5, I.evo.trans wide, ?_, ?_, ?_, I.fr.evo ev⟩
  · intro j hjl x hx
    obtain ⟨q1, q2⟩ := I.names j hjl x (nameOld j hjl x hx)
    exact ⟨up j q1, q2⟩
  · intro j hb
    rw [hJ', Bool.or_eq_true_iff] at hb
    rcases hb with hb | hb
    · exact up j (I.joined j hb)
    · simp only [Bool.and_eq_true] at hb; exact up j (hpre j hb.1)
  · intro j hjl hb
    rw [hJ', Bool.or_eq_false_iff] at hb
    obtain ⟨b1, b2⟩ := hb
    cases hx : st'.h.get (s.n + j) with
    | none => rfl
    | some o' =>
      exfalso
      obtain ⟨c, sh, ex, x, q1, q2, q3⟩ := ev.hrel.obj _ o' hx
      have q4 := nameOld j hjl _ q1
      obtain ⟨m1, m2⟩ := I.names j hjl _ q4
      rw [m2] at b2
      have b2 : bit (p.preds.getD i 0) j = false := by simpa using b2
      obtain ⟨om, hom⟩ := Option.isSome_iff_exists.1 m2
      have hbig : (withMade mask st.joined M st.h).get (s.n + j) = some om := by
        rw [withMade_get hid]
        unfold ovr
        rw [Nat.add_sub_cancel_left, show Nat.ble s.n (s.n + j) = true from by simp, I.masked, m1, b1, hom]; rfl
      cases hown : o'.own with
      | false =>
        have z1 := ev.ros _ o' hx hown
        rw [withMade_get hid, I.dis j hjl b1] at z1
        unfold ovr at z1
        rw [Nat.add_sub_cancel_left, b2] at z1
        simp at z1
      | true =>
      rcases ev.dom _ o' _ hx hown q1 with ⟨b0, o0, x0, z1, z0, z2, z3⟩ | hge
      · have := I.evo.hrel.inj b0 (s.n + j) o0 om x0 _ (I.sub2 hmade hpre _ _ z1) hbig z0 z2 q4 z3
        subst this
        rw [withMade_get hid, I.dis j hjl b1] at z1
        unfold ovr at z1
        rw [Nat.add_sub_cancel_left, b2] at z1
        simp at z1
      · have := I.evo.hrel.lt hbig q4
        simp at this hge; omega
end
end Go.Ev
