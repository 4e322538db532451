/- A drawn region: the walk in whatever order. -/
import Derived.Test.YtkcdhdilifolfaaGreatEvW
namespace Go.Ev
variable {C : Ctx}

theorem Tm.put_get {tm tm' : Tm} {dst : Option Tmp} {v : V} (h : tm.put dst v = some tm') :
    tm'.n = tm.n ∧ (∀ t, tm'.get t = if dst = some t then v else tm.get t) ∧ ∀ d, dst = some d → d < tm.n := by
  unfold Tm.put at h
  cases dst with
  | none => cases h; exact ⟨rfl, fun t => by simp, by simp⟩
  | some d =>
    replace h := of_cond_some h
    obtain ⟨hlt, h⟩ := h
    cases h
    refine ⟨rfl, fun t => ?_, fun d' e => by cases e; simpa using hlt⟩
    simp only [Tm.get, Tree.get_set, Option.some.injEq]
    by_cases e : t = d
    · subst e; simp
    · rw [if_neg e, if_neg (fun x => e x.symm)]

/-- The temporaries when the operations of S are done. -/
def cur (L : List Oper) (s : St) (vA : Nat → V) (S : Nat → Bool) (t : Tmp) : V :=
  match writer t L 0 with
  | some q => bif S q then vA q else s.tm.get t
  | none => s.tm.get t

/-- What the region's evaluation has told. -/
structure Reg (C : Ctx) (L : List Oper) (p : Plan) (s : St) (M : List Made) (G : List Stage) (R : List Rd) (tmA : Nat → Tm) (vA : Nat → V) : Prop where
  plan : PlanOk C L p
  t0 : tmA 0 = s.tm
  puts : ∀ (j : Nat) (o : Oper), L[j]? = some o → (tmA j).put o.dst (vA j) = some (tmA (j + 1))
  facts : ∀ (j : Nat) (o : Oper), L[j]? = some o → ∃ t, (kindOf C o = .act → p.acts[t]? = some j) ∧ OpFact C p L s.n M G R j t o (tmA j) (vA j)
  made : ∀ m ∈ M, m.i < L.length ∧ m.id = s.n + m.i
  glen : G.length = p.acts.length + 1
  g0 : G[0]? = some { h := s.h, joined := 0, n := s.n + L.length }
  reads : ∀ r ∈ R, ∀ k st, G[k]? = some st → countIn (p.preds.getD r.i 0) p.acts ≤ k → k ≤ countNotAhead p.preds r.i p.acts →
    ∃ v, rd C (evalT C r.tm) r.o (withMade (p.preds.getD r.i 0) st.joined M st.h) = some v ∧ ∀ (ρ : Ren) (y : Value), VRel ρ v y → VRel ρ r.v y

section
variable {L : List Oper} {p : Plan} {s : St} {M : List Made} {G : List Stage} {R : List Rd} {tmA : Nat → Tm} {vA : Nat → V}

theorem Reg.tm_get (g : Reg C L p s M G R tmA vA) : ∀ j, j ≤ L.length → (tmA j).n = s.tm.n ∧ ∀ t, (tmA j).get t = cur L s vA (fun q => Nat.blt q j) t := by
  intro j
  induction j with
  | zero =>
    intro _
    rw [g.t0]
    refine ⟨rfl, fun t => ?_⟩
    unfold cur
    split
    · rename_i q _
      show s.tm.get t = bif Nat.blt q 0 then vA q else s.tm.get t
      rw [show Nat.blt q 0 = false from by simp]; rfl
    · rfl
  | succ j ih =>
    intro hj
    obtain ⟨h1, h2⟩ := ih (by omega)
    have hL : L[j]? = some L[j] := by simp [show j < L.length from hj]
    obtain ⟨k1, k2, _⟩ := Tm.put_get (g.puts j _ hL)
    refine ⟨k1.trans h1, fun t => ?_⟩
    rw [k2, h2]
    unfold cur
    by_cases e : L[j].dst = some t
    · rw [if_pos e, writer_of g.plan.once hL e]
      simp only
      rw [show Nat.blt j (j + 1) = true from by simp]; rfl
    · rw [if_neg e]
      split
      · rename_i q hq
        have hne : q ≠ j := by
          rintro rfl
          obtain ⟨q', o', e1, e2, e3⟩ := writer_some hq
          have : q' = q := by omega
          subst this
          rw [hL] at e2; cases e2
          exact e e3
        have : Nat.blt q j = Nat.blt q (j + 1) := by
          rw [Bool.eq_iff_iff]; simp; omega
        show (bif Nat.blt q j then vA q else s.tm.get t) = bif Nat.blt q (j + 1) then vA q else s.tm.get t
        rw [this]
      · rfl

structure Inv (C : Ctx) (L : List Oper) (p : Plan) (s : St) (M : List Made) (G : List Stage) (vA : Nat → V) (ρ0 : Ren) (w0 : World) (ds : List Deferred)
    (mask k : Nat) (ρ : Ren) (st : Stage) (listed : Array Bool) (a : Act) (w : World) : Prop where
  masked : ∀ j, bit mask j = listed.getD j false
  lsize : listed.size = L.length
  down : ∀ i j, listed.getD i false = true → bit (p.preds.getD i 0) j = true → listed.getD j false = true
  acts : ∀ t x, p.acts[t]? = some x → (listed.getD x false = true ↔ t < k)
  kq : k ≤ p.acts.length
  stage : G[k]? = some st
  stn : s.n + L.length ≤ st.n
  tsize : a.tmps.size = s.tm.n
  tm : ∀ t, VRel ρ (cur L s vA (fun q => listed.getD q false) t) (a.tmps.getD t undef)
  defs : a.defers = ds
  evo : Evo ρ0 s.h s.n w0 ρ (withMade mask st.joined M st.h) st.n w
  names : ∀ j, j < L.length → ∀ x, ρ (s.n + j) = some x → listed.getD j false = true ∧ (mO M j).isSome = true
  joined : ∀ j, bit st.joined j = true → listed.getD j false = true
  dis : ∀ j, j < L.length → bit st.joined j = false → st.h.get (s.n + j) = none
  fr : Fr ρ st.n

variable {ρ0 : Ren} {w0 : World} {ds : List Deferred} {mask k : Nat} {ρ : Ren} {st : Stage} {listed : Array Bool} {a : Act} {w : World}

theorem getD_set {listed : Array Bool} {i : Nat} (hi : i < listed.size) (j : Nat) : (listed.setIfInBounds i true).getD j false = if j = i then true else listed.getD j false := by
  by_cases e : j = i
  · subst e; simp [hi]
  · rw [if_neg e]
    simp [Array.getElem?_setIfInBounds_ne (fun x => e x.symm)]

/-- One more is listed: the plain part. -/
theorem Inv.more (g : Reg C L p s M G R tmA vA) (I : Inv C L p s M G vA ρ0 w0 ds mask k ρ st listed a w) {i : Nat} {o : Oper} (hL : L[i]? = some o)
    (hun : listed.getD i false = false) (hpre : ∀ j, bit (p.preds.getD i 0) j = true → listed.getD j false = true) {ρ' : Ren} (hle : ρ.le ρ') {y : Value} (hy : VRel ρ' (vA i) y) :
    (∀ j, bit (Nat.lor mask (one i)) j = (listed.setIfInBounds i true).getD j false) ∧
    (∀ i' j, (listed.setIfInBounds i true).getD i' false = true → bit (p.preds.getD i' 0) j = true → (listed.setIfInBounds i true).getD j false = true) ∧
    (a.put o.dst y).tmps.size = s.tm.n ∧ (∀ t, VRel ρ' (cur L s vA (fun q => (listed.setIfInBounds i true).getD q false) t) ((a.put o.dst y).tmps.getD t undef)) ∧ (a.put o.dst y).defers = ds := by
  have hi : i < L.length := (List.getElem?_eq_some_iff.1 hL).1
  have hi' : i < listed.size := by rw [I.lsize]; exact hi
  have hd := getD_set hi'
  refine ⟨?_, ?_, ?_, ?_, ?_⟩
  · intro j
    rw [bit_lor, bit_one, hd, I.masked]
    by_cases e : j = i
    · subst e; simp
    · rw [if_neg e]
      have : ¬ i = j := fun x => e x.symm
      simp [this]
  · intro i' j h1 h2
    rw [hd] at h1 ⊢
    by_cases e : j = i
    · rw [if_pos e]
    · rw [if_neg e]
      by_cases e' : i' = i
      · subst e'; exact hpre j h2
      · rw [if_neg e'] at h1; exact I.down i' j h1 h2
  · cases hdst : o.dst with
    | none => exact I.tsize
    | some d => simp [Act.put, I.tsize]
  · intro t
    by_cases e : o.dst = some t
    · have hw := writer_of g.plan.once hL e
      have : cur L s vA (fun q => (listed.setIfInBounds i true).getD q false) t = vA i := by
        unfold cur; rw [hw]; simp only; rw [hd, if_pos rfl]; rfl
      rw [this, e]
      have ht : t < a.tmps.size := by
        have := (Tm.put_get (g.puts i o hL)).2.2 t e
        rw [I.tsize, ← (g.tm_get i (by omega)).1]; exact this
      simp only [Act.put]
      have : (a.tmps.setIfInBounds t y).getD t undef = y := by simp [ht]
      rw [this]; exact hy
    · have e1 : cur L s vA (fun q => (listed.setIfInBounds i true).getD q false) t = cur L s vA (fun q => listed.getD q false) t := by
        unfold cur
        split
        · rename_i q hq
          have hne : q ≠ i := by
            rintro rfl
            obtain ⟨q', o', e1, e2, e3⟩ := writer_some hq
            have : q' = q := by omega
            subst this
            rw [hL] at e2; cases e2
            exact e e3
          simp only [hd, if_neg hne]
        · rfl
      have e2 : (a.put o.dst y).tmps.getD t undef = a.tmps.getD t undef := by
        cases hdst : o.dst with
        | none => rfl
        | some d =>
          have : d ≠ t := by rintro rfl; exact e hdst
          simp [Act.put, Array.getElem?_setIfInBounds_ne this]
      rw [e1, e2]; exact (I.tm t).mono hle
  · cases hdst : o.dst with
    | none => exact I.defs
    | some d => exact I.defs

/-- An operation that is no act: which acts are done stays. -/
theorem Inv.actsStay (g : Reg C L p s M G R tmA vA) (I : Inv C L p s M G vA ρ0 w0 ds mask k ρ st listed a w) {i : Nat} {o : Oper} (hL : L[i]? = some o) (hk : kindOf C o ≠ .act) :
    ∀ t x, p.acts[t]? = some x → ((listed.setIfInBounds i true).getD x false = true ↔ t < k) := by
  intro t x hx
  have hi' : i < listed.size := by rw [I.lsize]; exact (List.getElem?_eq_some_iff.1 hL).1
  have hne : x ≠ i := by
    rintro rfl
    have := List.mem_of_getElem? hx
    rw [g.plan.acts] at this
    obtain ⟨q, o', e1, e2, e3⟩ := actsOf_mem.1 this
    have : q = x := by omega
    subst this
    rw [hL] at e2; cases e2; exact hk e3
  rw [getD_set hi', if_neg hne]
  exact I.acts t x hx

/-- The next act. -/
theorem Inv.actsNext (g : Reg C L p s M G R tmA vA) (I : Inv C L p s M G vA ρ0 w0 ds mask k ρ st listed a w) {i t : Nat} (ht : p.acts[t]? = some i) (hun : listed.getD i false = false) (hi' : i < listed.size)
    (hpre : ∀ j, bit (p.preds.getD i 0) j = true → listed.getD j false = true) :
    t = k ∧ ∀ t' x, p.acts[t']? = some x → ((listed.setIfInBounds i true).getD x false = true ↔ t' < k + 1) := by
  have h1 : ¬ t < k := by intro h; rw [(I.acts t i ht).2 h] at hun; cases hun
  have h2 : t = k := by
    by_cases h0 : t = 0
    · omega
    · have hlt := (List.getElem?_eq_some_iff.1 ht).1
      have hx : p.acts[t - 1]? = some p.acts[t - 1] := by simp
      have := g.plan.chain (t - 1) _ i hx (by rw [show t - 1 + 1 = t from by omega]; exact ht)
      have := (I.acts (t - 1) _ hx).1 (hpre _ this)
      omega
  subst h2
  refine ⟨rfl, fun t' x hx => ?_⟩
  rw [getD_set hi']
  by_cases e : x = i
  · rw [if_pos e]
    subst e
    have : t' = t := by
      have hs := (actsOf_sorted (C := C) L 0).1
      rw [← g.plan.acts] at hs
      obtain ⟨l1, e1⟩ := List.getElem?_eq_some_iff.1 ht
      obtain ⟨l2, e2⟩ := List.getElem?_eq_some_iff.1 hx
      have hp := List.pairwise_iff_getElem.1 hs
      rcases Nat.lt_trichotomy t t' with h | h | h
      · have := hp t t' l1 l2 h; omega
      · exact h.symm
      · have := hp t' t l2 l1 h; omega
    simp; omega
  · rw [if_neg e, I.acts t' x hx]
    constructor
    · omega
    · intro h
      by_cases e' : t' = t
      · subst e'; rw [ht] at hx; cases hx; exact absurd rfl e
      · omega

/-- Memory that an operation may count on lies in what there is. -/
theorem Inv.sub (g : Reg C L p s M G R tmA vA) (I : Inv C L p s M G vA ρ0 w0 ds mask k ρ st listed a w) {pre : Nat} (hpre : ∀ j, bit pre j = true → listed.getD j false = true) :
    ∀ b o, (withMade pre st.joined M st.h).get b = some o → (withMade mask st.joined M st.h).get b = some o := by
  have hid : ∀ m ∈ M, m.id = s.n + m.i := fun m hm => (g.made m hm).2
  have hlt : ∀ m ∈ M, m.i < L.length := fun m hm => (g.made m hm).1
  intro b o
  rw [withMade_get hid, withMade_get hid]
  unfold ovr
  cases hb : Nat.ble s.n b with
  | false => simp
  | true =>
    have hb' : s.n ≤ b := by simpa using hb
    simp only [Bool.true_and]
    cases hJ : bit st.joined (b - s.n) with
    | true => simp
    | false =>
      simp only [Bool.not_false, Bool.and_true]
      cases hp : bit pre (b - s.n) with
      | true =>
        have : bit mask (b - s.n) = true := by rw [I.masked]; exact hpre _ hp
        rw [this]; exact id
      | false =>
        simp only [cond_false, Option.none_or]
        intro h
        cases hm : bit mask (b - s.n) with
        | false => simpa using h
        | true =>
          simp only [cond_true]
          cases ho : mO M (b - s.n) with
          | none => simpa using h
          | some o' =>
            have := I.dis (b - s.n) (mO_lt hlt ho) hJ
            rw [show s.n + (b - s.n) = b from by omega, h] at this
            cases this

/-- Nothing is made by it. -/
theorem ovr_more {i : Nat} {J b : Nat} (hm : mO M i = none) : ovr (Nat.lor mask (one i)) J M s.n b = ovr mask J M s.n b := by
  unfold ovr
  rw [bit_lor, bit_one]
  by_cases e : i = b - s.n
  · subst e
    rw [hm]
    cases (Nat.ble s.n b && ((bit mask (b - s.n) || decide (b - s.n = b - s.n)) && !bit J (b - s.n))) <;> cases (Nat.ble s.n b && (bit mask (b - s.n) && !bit J (b - s.n))) <;> rfl
  · simp [e]

/-- An operation that leaves memory. -/
theorem Inv.still (g : Reg C L p s M G R tmA vA) (I : Inv C L p s M G vA ρ0 w0 ds mask k ρ st listed a w) {i : Nat} {o : Oper} (hL : L[i]? = some o)
    (hun : listed.getD i false = false) (hpre : ∀ j, bit (p.preds.getD i 0) j = true → listed.getD j false = true) {y : Value} (hy : VRel ρ (vA i) y) (hm : mO M i = none)
    {k' : Nat} (hk' : k' ≤ p.acts.length) (hst : G[k']? = some st) (hacts : ∀ t x, p.acts[t]? = some x → ((listed.setIfInBounds i true).getD x false = true ↔ t < k')) :
    Inv C L p s M G vA ρ0 w0 ds (Nat.lor mask (one i)) k' ρ st (listed.setIfInBounds i true) (a.put o.dst y) w := by
  obtain ⟨h1, h2, h3, h4, h5⟩ := I.more g hL hun hpre (Ren.le_refl ρ) hy
  have hi' : i < listed.size := by rw [I.lsize]; exact (List.getElem?_eq_some_iff.1 hL).1
  have hid : ∀ m ∈ M, m.id = s.n + m.i := fun m hm => (g.made m hm).2
  have up : ∀ j, listed.getD j false = true → (listed.setIfInBounds i true).getD j false = true := fun j hj => by rw [getD_set hi']; split <;> simp_all
  refine ⟨h1, by simp [I.lsize], h2, hacts, hk', hst, I.stn, h3, h4, h5, I.evo.congr fun b => ?_, fun j hj x hx => ?_, fun j hj => up j (I.joined j hj), I.dis, I.fr⟩
  · rw [withMade_get hid, withMade_get hid, ovr_more hm]
  · obtain ⟨k1, k2⟩ := I.names j hj x hx
    exact ⟨up j k1, k2⟩

end
end Go.Ev
