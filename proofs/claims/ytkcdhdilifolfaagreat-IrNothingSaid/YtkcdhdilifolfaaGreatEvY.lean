/- A drawn region: its steps, and all of it. -/
import Derived.Test.YtkcdhdilifolfaaGreatEvX
namespace Go.Ev
variable {C : Ctx}

theorem HRel.leaf (ρ : Ren) (w : World) : HRel ρ .leaf w := ⟨fun b o h => by simp [Tree.get] at h, fun b b' o o' x x' h => by simp [Tree.get] at h⟩

section
variable {L : List Oper} {p : Plan} {s : St} {M : List Made} {G : List Stage} {R : List Rd} {tmA : Nat → Tm} {vA : Nat → V}
variable {ρ0 : Ren} {w0 : World} {ds : List Deferred} {mask k : Nat} {ρ : Ren} {st : Stage} {listed : Array Bool} {a : Act} {w : World}

/-- What is there to be read. -/
theorem Inv.reads (g : Reg C L p s M G R tmA vA) (I : Inv C L p s M G vA ρ0 w0 ds mask k ρ st listed a w) {i : Nat} {o : Oper} (hL : L[i]? = some o)
    (hun : listed.getD i false = false) (hpre : ∀ j, bit (p.preds.getD i 0) j = true → listed.getD j false = true) :
    ∀ t, t ∈ guardTmps L o ++ opTmps o.op.operands.toList → VRel ρ ((tmA i).get t) (a.tmps.getD t undef) := by
  intro t ht
  have hi : i < L.length := (List.getElem?_eq_some_iff.1 hL).1
  have e : (tmA i).get t = cur L s vA (fun q => listed.getD q false) t := by
    rw [(g.tm_get i (by omega)).2]
    unfold cur
    split
    · rename_i q hq
      obtain ⟨h1, h2⟩ := g.plan.reads i o hL t ht q hq
      have : Nat.blt q i = listed.getD q false := by
        rcases Nat.lt_trichotomy q i with h | h | h
        · rw [hpre q (h1 h)]; simpa using h
        · subst h; rw [hun]; simp
        · have : Nat.blt q i = false := by simp; omega
          rw [this]
          cases hl : listed.getD q false with
          | false => rfl
          | true => rw [I.down q i hl (h2 h)] at hun; cases hun
      show (bif Nat.blt q i then vA q else s.tm.get t) = bif listed.getD q false then vA q else s.tm.get t
      rw [this]
    · rfl
  rw [e]; exact I.tm t

theorem region_step (hC : C.Ok) (g : Reg C L p s M G R tmA vA) (hg0 : GRel C ρ0) (I : Inv C L p s M G vA ρ0 w0 ds mask k ρ st listed a w) {ops : Array Oper} (hops : ops.toList = L)
    {i : Nat} (hi : i ∈ Region.ready .any ops listed) {r : Option Nat} {N : Nat} {Q : Exit → Act → World → Prop} {K : Act → World → Prop}
    (hK : ∀ mask' k' ρ' st' a' w', Inv C L p s M G vA ρ0 w0 ds mask' k' ρ' st' (listed.setIfInBounds i true) a' w' → K a' w') : wpOpIn (Wd r) N C.P ops Q i K a w := by
  obtain ⟨hun0, o, ho, hedges⟩ := mem_ready.1 hi
  have hL : L[i]? = some o := by rw [← hops, Array.getElem?_toList]; exact ho
  have hlt : i < L.length := (List.getElem?_eq_some_iff.1 hL).1
  have hi' : i < listed.size := by rw [I.lsize]; exact hlt
  have hun : listed.getD i false = false := by
    have e : listed.getD i true = listed[i] := by simp [hi']
    have e2 : listed.getD i false = listed[i] := by simp [hi']
    rw [e2, ← e]; exact hun0
  have hpre : ∀ j, bit (p.preds.getD i 0) j = true → listed.getD j false = true := by
    intro j hj
    obtain ⟨e, e1, e2, e3⟩ := g.plan.preds.path i o hL j hj
    have := hedges e (by simpa using e1) e2
    rcases e3 with rfl | e3
    · exact this
    · exact I.down _ _ this e3
  have hle0 : ρ0.le ρ := I.evo.le
  have hgr : GRel C ρ := hg0.mono hle0
  have hrd := I.reads g hL hun hpre
  have hsz : a.tmps.size = (tmA i).n := by rw [(g.tm_get i (by omega)).1]; exact I.tsize
  have hwant : Region.wanted o (yielded ops a.tmps) = wantedT L (tmA i) o := by
    have := wantedT_eq (ops := ops) (tm := tmA i) (a := a) (o := o) (ρ := ρ) hsz (fun t ht => hrd t (List.mem_append_left _ (by rw [hops] at ht; exact ht)))
    rw [hops] at this; exact this
  have hev : ∀ x ∈ o.op.operands, ∀ u, evalT C (tmA i) x = some u → VRel ρ u (a.eval x) := by
    intro x hx u hu
    refine evalT_rel hgr (fun t ht => ?_) hu
    subst ht
    exact hrd t (List.mem_append_right _ (opTmps_mem (by simpa using hx)))
  have hid : ∀ m ∈ M, m.id = s.n + m.i := fun m hm => (g.made m hm).2
  have hmlt : ∀ m ∈ M, m.i < L.length := fun m hm => (g.made m hm).1
  have up : ∀ j, listed.getD j false = true → (listed.setIfInBounds i true).getD j false = true := fun j hj => by rw [getD_set hi']; split <;> simp_all
  have Hsmall : HRel ρ (withMade (p.preds.getD i 0) st.joined M st.h) w := I.evo.hrel.weaken (I.sub g hpre)
  unfold wpOpIn
  simp only [ho]
  obtain ⟨t, hact, hf⟩ := g.facts i o hL
  cases hf with
  | skip hw hv hm hk =>
    rw [hwant, hw]
    refine ⟨about_wd r C.P w o a, ?_⟩
    have hy : VRel ρ (vA i) undef := by rw [hv]; exact .s _
    by_cases hka : kindOf C o = .act
    · obtain ⟨e, hn⟩ := I.actsNext g (hact hka) hun hi' hpre
      subst e
      obtain ⟨st0, k1, k2⟩ := hk.resolve_left (fun x => x hka)
      rw [I.stage] at k1; cases k1
      have hlen : t + 1 ≤ p.acts.length := (List.getElem?_eq_some_iff.1 (hact hka)).1
      exact hK _ _ _ _ _ _ (I.still g hL hun hpre hy hm hlen k2 hn)
    · exact hK _ _ _ _ _ _ (I.still g hL hun hpre hy hm I.kq I.stage (I.actsStay g hL hka))
  | quiet hw hk hr hm =>
    rw [hwant, hw]
    obtain ⟨v0, hr, hv0⟩ := hr
    obtain ⟨y, h1, h2⟩ := rd_run hC (HRel.leaf ρ w) (σ := a.eval) hr hev
    exact wpIn_value (rd_noDefer hr) h1 (hK _ _ _ _ _ _ (I.still g hL hun hpre (hv0 _ _ h2) hm I.kq I.stage (I.actsStay g hL hk)))
  | read hw hk hr hm =>
    rw [hwant, hw]
    obtain ⟨v, h0, hs⟩ := g.reads _ hr k st I.stage (countIn_le fun t x h1 h2 => (I.acts t x h1).1 (hpre x h2))
      (le_countNotAhead I.kq fun t x h1 h2 => by
        cases hb : bit (p.preds.getD x 0) i with
        | false => rfl
        | true => rw [I.down x i ((I.acts t x h2).2 h1) hb] at hun; cases hun)
    obtain ⟨y, h1, h2⟩ := rd_run hC Hsmall (σ := a.eval) h0 hev
    exact wpIn_value (rd_noDefer h0) h1 (hK _ _ _ _ _ _ (I.still g hL hun hpre (hs _ _ h2) hm I.kq I.stage (I.actsStay g hL hk)))
  | make hw hk mm hmk hv hm =>
    rw [hwant, hw]
    have hfree : ρ (s.n + i) = none := by
      cases hx : ρ (s.n + i) with
      | none => rfl
      | some x => have := (I.names i hlt x hx).1; rw [hun] at this; cases this
    obtain ⟨y, w', ρ', h1, h2, h3⟩ := mk_run hC I.evo.hrel (σ := a.eval) hmk hev hfree (Nat.le_refl (s.n + i)) (Nat.lt_succ_self _)
    rw [← hv] at h3
    refine wpIn_value (mk_noDefer hmk) h1 (hK (Nat.lor mask (one i)) k ρ' st _ _ ?_)
    obtain ⟨k1, k2, k3, k4, k5⟩ := I.more g hL hun hpre h2.le h3
    have hJ : bit st.joined i = false := by
      cases hb : bit st.joined i with
      | false => rfl
      | true => have := I.joined i hb; rw [hun] at this; cases this
    refine ⟨k1, by simp [I.lsize], k2, I.actsStay g hL hk, I.kq, I.stage, I.stn, k3, k4, k5, ?_, ?_, fun j hj => up j (I.joined j hj), I.dis, ?_⟩
    · refine (I.evo.trans' h2 (by omega) (by have := I.stn; omega)).congr fun b => ?_
      rw [withMade_get hid, Tree.get_set, withMade_get hid]
      by_cases e : b = s.n + i
      · subst e
        rw [if_pos rfl]
        have hb : Nat.ble s.n (s.n + i) = true := by simp
        unfold ovr
        rw [hb, Nat.add_sub_cancel_left, bit_lor, bit_one, hJ, hm]
        simp
      · rw [if_neg e]
        have : ovr (Nat.lor mask (one i)) st.joined M s.n b = ovr mask st.joined M s.n b := by
          unfold ovr
          cases hb : Nat.ble s.n b with
          | false => rfl
          | true =>
            have hb' : s.n ≤ b := by simpa using hb
            have hne : ¬ i = b - s.n := by omega
            rw [bit_lor, bit_one]
            simp [hne]
        rw [this]
    · intro j hj x hx
      cases hρ : ρ (s.n + j) with
      | some x' =>
        obtain ⟨q1, q2⟩ := I.names j hj x' hρ
        exact ⟨up j q1, q2⟩
      | none =>
        have := h2.new _ x hx hρ
        have e : j = i := by omega
        subst e
        exact ⟨by rw [getD_set hi', if_pos rfl], by rw [hm]; rfl⟩
    · intro b hb
      cases hρ : ρ' b with
      | none => rfl
      | some x =>
        have := h2.new _ x hρ (I.fr b hb)
        have := I.stn
        omega
  | act hw hk st0 st' g1 g2 hs hj hm =>
    rw [hwant, hw]
    obtain ⟨e, hn⟩ := I.actsNext g (hact hk) hun hi' hpre
    subst e
    rw [I.stage] at g1; cases g1
    have hlen : t + 1 ≤ p.acts.length := (List.getElem?_eq_some_iff.1 (hact hk)).1
    refine hs ρ a w r hev Hsmall I.fr hgr N K Q fun ρ' y w' ev hy => ?_
    refine hK (Nat.lor mask (one i)) (t + 1) ρ' st' _ _ ?_
    obtain ⟨k1, k2, k3, k4, k5⟩ := I.more g hL hun hpre ev.le hy
    have hJ' : ∀ j, bit st'.joined j = (bit st.joined j || (bit (p.preds.getD i 0) j && (mO M j).isSome)) := fun j => by rw [hj, joinMade_bit]
    have nameOld : ∀ j, j < L.length → ∀ x, ρ' (s.n + j) = some x → ρ (s.n + j) = some x := by
      intro j hjl x hx
      cases hρ : ρ (s.n + j) with
      | some x' => rw [ev.le _ _ hρ] at hx; exact hx
      | none => have := ev.new _ x hx hρ; have := I.stn; omega
    have wide : Evo ρ (withMade mask st.joined M st.h) st.n w ρ' (withMade (Nat.lor mask (one i)) st'.joined M st'.h) st'.n w' := by
      refine ev.widen I.evo.hrel (I.sub g hpre) fun b ob hb => ?_
      rw [withMade_get hid, ovr_more hm] at hb
      cases ho' : ovr mask st'.joined M s.n b with
      | none => rw [ho'] at hb; exact .inl (by simpa using hb)
      | some o' =>
        right
        rw [ho'] at hb
        have : o' = ob := by simpa using hb
        subst this
        unfold ovr at ho'
        replace ho' := of_cond_some ho'
        obtain ⟨c1, c2⟩ := ho'
        simp only [Bool.and_eq_true, Bool.not_eq_true'] at c1
        obtain ⟨c3, c4, c5⟩ := c1
        have hbn : s.n ≤ b := by simpa using c3
        rw [hJ', Bool.or_eq_false_iff] at c5
        obtain ⟨c5, c6⟩ := c5
        rw [c2] at c6
        have c6 : bit (p.preds.getD i 0) (b - s.n) = false := by simpa using c6
        have hjl := mO_lt hmlt c2
        refine ⟨?_, ?_⟩
        · rw [withMade_get hid]
          unfold ovr
          rw [c3, c4, c5, c2]; rfl
        · rw [withMade_get hid]
          unfold ovr
          rw [c6]
          have := I.dis _ hjl c5
          rw [show s.n + (b - s.n) = b from by omega] at this
          rw [this]; simp
    refine ⟨k1, by simp [I.lsize], k2, hn, hlen, g2, by have := I.stn; have := ev.num; omega, k3, k4, k5, I.evo.trans wide, ?_, ?_, ?_, I.fr.evo ev⟩
    · intro j hjl x hx
      obtain ⟨q1, q2⟩ := I.names j hjl x (nameOld j hjl x hx)
      exact ⟨up j q1, q2⟩
    · intro j hb
      rw [hJ', Bool.or_eq_true_iff] at hb
      rcases hb with hb | hb
      · exact up j (I.joined j hb)
      · simp only [Bool.and_eq_true] at hb; exact up j (hpre j hb.1)
    · intro j hjl hb
      rw [hJ', Bool.or_eq_false_iff] at hb
      obtain ⟨b1, b2⟩ := hb
      cases hx : st'.h.get (s.n + j) with
      | none => rfl
      | some o' =>
        exfalso
        obtain ⟨c, sh, ex, x, q1, q2, q3⟩ := ev.hrel.obj _ o' hx
        have q4 := nameOld j hjl _ q1
        obtain ⟨m1, m2⟩ := I.names j hjl _ q4
        rw [m2] at b2
        have b2 : bit (p.preds.getD i 0) j = false := by simpa using b2
        obtain ⟨om, hom⟩ := Option.isSome_iff_exists.1 m2
        have hbig : (withMade mask st.joined M st.h).get (s.n + j) = some om := by
          rw [withMade_get hid]
          unfold ovr
          rw [Nat.add_sub_cancel_left, show Nat.ble s.n (s.n + j) = true from by simp, I.masked, m1, b1, hom]; rfl
        cases hown : o'.own with
        | false =>
          have z1 := ev.ros _ o' hx hown
          rw [withMade_get hid, I.dis j hjl b1] at z1
          unfold ovr at z1
          rw [Nat.add_sub_cancel_left, b2] at z1
          simp at z1
        | true =>
        rcases ev.dom _ o' _ hx hown q1 with ⟨b0, o0, x0, z1, z0, z2, z3⟩ | hge
        · have := I.evo.hrel.inj b0 (s.n + j) o0 om x0 _ (I.sub g hpre _ _ z1) hbig z0 z2 q4 z3
          subst this
          rw [withMade_get hid, I.dis j hjl b1] at z1
          unfold ovr at z1
          rw [Nat.add_sub_cancel_left, b2] at z1
          simp at z1
        · have := I.evo.hrel.lt hbig q4
          simp at this hge; omega

end
end Go.Ev
