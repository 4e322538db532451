/- Soundness. -/
import Derived.Test.YtkcdhdilifolfaaGreatEvZ
namespace Go.Ev
variable {C : Ctx}

theorem Post.trans {ρ ρ1 : Ren} {s s1 s2 : St} {w w1 : World} {x : X} {e : Exit} {a : Act} {w2 : World} (h : Evo ρ s.h s.n w ρ1 s1.h s1.n w1) (k : Post C ρ1 s1 w1 x s2 e a w2) :
    Post C ρ s w x s2 e a w2 := by
  obtain ⟨rfl, ρ2, e2, S2⟩ := k
  exact ⟨rfl, ρ2, h.trans e2, S2⟩

def LoopSound (C : Ctx) (rnd : Option Nat) (c : Code) (s : St) (x : X) (s' : St) : Prop :=
  ∀ ρ a w r, SRel C ρ s a w → RRel ρ rnd r → ∀ N, InLoop (Wd r) N C.P c (Post C ρ s w x s') a w
def JumpSound (C : Ctx) (rnd : Option Nat) (c : Code) (l : Nat) (s : St) (x : X) (s' : St) : Prop :=
  ∀ ρ a w r, SRel C ρ s a w → RRel ρ rnd r → ∀ N, Jump (Wd r) N C.P c (Post C ρ s w x s') l a w
def SeqSound (C : Ctx) (ops : Array Oper) (i n : Nat) (s s' : St) : Prop :=
  ∀ ρ a w r, SRel C ρ s a w → ∀ N Q, (∀ ρ' a' w', Evo ρ s.h s.n w ρ' s'.h s'.n w' → SRel C ρ' s' a' w' → Q .normal a' w') → wpOpsIn (Wd r) N C.P ops Q (List.range' i n) a w

structure Sound (C : Ctx) (k : Nat) : Prop where
  code : ∀ rnd c s x s', code C k rnd c s = some (x, s') → CodeSound C rnd c s x s'
  loop : ∀ rnd c s x s', Ev.code C k rnd (.loop c) s = some (x, s') → LoopSound C rnd c s x s'
  jump : ∀ rnd c l s x s', scope C k rnd c l s = some (x, s') → JumpSound C rnd c l s x s'
  act : ∀ o tm h n r, actR C k o tm h n = some r → ActSound C o tm h n r.1 r.2.1 r.2.2
  seq : ∀ (ops : Array Oper) l i s s', seqR C k ops.toList l s = some s' → ops.toList.drop i = l → SeqSound C ops i l.length s s'
  round : ∀ l args h n r, Ev.round C k l args h n = some r → RoundSound C l args h n r.1 r.2.1 r.2.2
  call : ∀ f args h n r, call C k f args h n = some r → CallSound C f args h n r.1 r.2.1 r.2.2

theorem SRel.step {ρ ρ' : Ren} {s : St} {a : Act} {w w' : World} (S : SRel C ρ s a w) {h' : Heap} {n' : Nat} (e : Evo ρ s.h s.n w ρ' h' n' w') {dst : Option Tmp} {v : V} {tm : Tm} (hp : s.tm.put dst v = some tm) {y : Value}
    (hy : VRel ρ' v y) : SRel C ρ' { s with tm, h := h', n := n' } (a.put dst y) w' := by
  obtain ⟨h1, h2⟩ := TmRel.put (S.tm.mono e.le) hp hy
  exact ⟨h1, e.hrel, S.fr.evo e, S.glob.mono e.le, by rw [h2]; exact S.defs.mono e.le⟩

theorem sound_seq (hC : C.Ok) {k : Nat} (ih : Sound C k) (ops : Array Oper) (l : List Oper) (i : Nat) (s s' : St) (h : seqR C (k + 1) ops.toList l s = some s') (hd : ops.toList.drop i = l) : SeqSound C ops i l.length s s' := by
  cases l with
  | nil =>
    simp only [seqR] at h
    cases h
    intro ρ a w r S N Q hQ
    exact hQ ρ a w (.refl _ S.heap) S
  | cons o rest =>
    have ho : ops[i]? = some o := by
      have : (ops.toList.drop i)[0]? = some o := by rw [hd]; rfl
      rw [List.getElem?_drop] at this
      simpa using this
    have hd' : ops.toList.drop (i + 1) = rest := by
      have : ops.toList.drop (i + 1) = (ops.toList.drop i).drop 1 := by rw [List.drop_drop]
      rw [this, hd]; rfl
    intro ρ a w r S N Q hQ
    have hr : List.range' i (o :: rest).length = i :: List.range' (i + 1) rest.length := by simp [List.range'_succ]
    rw [hr]
    simp only [wpOpsIn, ho]
    have hw : Region.wanted o (yielded ops a.tmps) = wantedT ops.toList s.tm o := wantedT_eq S.tm.size (fun t _ => S.tm.get t)
    rw [hw]
    have hev : ∀ x ∈ o.op.operands, ∀ u, evalT C s.tm x = some u → VRel ρ u (a.eval x) := fun x _ u hu => evalT_rel S.glob (fun t _ => S.tm.get t) hu
    -- on with the rest
    have on : ∀ {ρ' : Ren} {w' : World} {y : Value} {v : V} {h' : Heap} {n' : Nat} {tm : Tm}, Evo ρ s.h s.n w ρ' h' n' w' → VRel ρ' v y → s.tm.put o.dst v = some tm →
        seqR C k ops.toList rest { s with tm, h := h', n := n' } = some s' → wpOpsIn (Wd r) N C.P ops Q (List.range' (i + 1) rest.length) (a.put o.dst y) w' := by
      intro ρ' w' y v h' n' tm e hy hp hs
      exact ih.seq ops rest (i + 1) _ _ hs hd' ρ' _ w' r (S.step e hp hy) N Q fun ρ2 a2 w2 e2 S2 => hQ ρ2 a2 w2 (e.trans e2) S2
    simp only [seqR] at h
    cases hwt : wantedT ops.toList s.tm o with
    | false =>
      rw [hwt] at h
      simp only [cond_false] at h
      replace h := of_bind h
      obtain ⟨tm, hp, h⟩ := h
      simp only [Bool.false_eq_true, if_false]
      exact ⟨about_wd r C.P w o a, on (.refl _ S.heap) (.s _) hp h⟩
    | true =>
      rw [hwt] at h
      simp only [cond_true] at h
      simp only [if_true]
      have rdcase : ∀ v, rd C (evalT C s.tm) o s.h = some v → ∀ tm, s.tm.put o.dst v = some tm → seqR C k ops.toList rest { s with tm } = some s' →
          o.wpIn (Wd r) N C.P a w (wpOpsIn (Wd r) N C.P ops Q (List.range' (i + 1) rest.length)) Q := by
        intro v hv tm hp hs
        obtain ⟨y, h1, h2⟩ := rd_run hC S.heap (σ := a.eval) hv hev
        exact wpIn_value (rd_noDefer hv) h1 (on (.refl _ S.heap) h2 hp hs)
      split at h
      · replace h := of_bind h
        obtain ⟨v, hv, h⟩ := h
        replace h := of_bind h
        obtain ⟨tm, hp, h⟩ := h
        exact rdcase v hv tm hp h
      · replace h := of_bind h
        obtain ⟨v, hv, h⟩ := h
        replace h := of_bind h
        obtain ⟨tm, hp, h⟩ := h
        exact rdcase v hv tm hp h
      · replace h := of_bind h
        obtain ⟨m, hm, h⟩ := h
        replace h := of_bind h
        obtain ⟨tm, hp, h⟩ := h
        obtain ⟨y, w', ρ', h1, h2, h3⟩ := mk_run hC S.heap (σ := a.eval) hm hev (S.fr s.n (Nat.le_refl _)) (Nat.le_refl _) (Nat.lt_succ_self _)
        exact wpIn_value (mk_noDefer hm) h1 (on h2 h3 hp h)
      · replace h := of_bind h
        obtain ⟨q, hq, h⟩ := h
        replace h := of_bind h
        obtain ⟨tm, hp, h⟩ := h
        exact ih.act _ _ _ _ _ hq ρ a w r hev S.heap S.fr S.glob N _ _ fun ρ' y w' e hy => on e hy hp h

theorem sound_act (hC : C.Ok) {k : Nat} (ih : Sound C k) (o : Oper) (tm : Tm) (h : Heap) (n : Nat) (r : V × Heap × Nat) (hr : actR C (k + 1) o tm h n = some r) : ActSound C o tm h n r.1 r.2.1 r.2.2 := by
  simp only [actR] at hr
  replace hr := of_bind hr
  obtain ⟨out, ho, hr⟩ := hr
  refine actSound_of hC ho ?_ ?_ ?_
  · rintro v1 h1 n1 rfl; simp only at hr; cases hr; exact ⟨rfl, rfl, rfl⟩
  · rintro f args rfl; exact ih.call _ _ _ _ _ hr
  · rintro l args rfl; exact ih.round _ _ _ _ _ hr

theorem sound_jump {k : Nat} (ih : Sound C k) (rnd : Option Nat) (c : Code) (l : Nat) (s : St) (x : X) (s' : St) (h : scope C (k + 1) rnd c l s = some (x, s')) : JumpSound C rnd c l s x s' := by
  simp only [scope] at h
  intro ρ a w r S hr N
  split at h
  · rename_i hf
    cases h
    exact jump_none hf ⟨rfl, ρ, .refl _ S.heap, S⟩
  · rename_i rest hf
    replace h := of_bind h
    obtain ⟨⟨y, s1⟩, h1, h⟩ := h
    refine jump_some hf (wpIn_mono (ih.code _ _ _ _ _ h1 ρ a w r S hr N) ?_)
    rintro e a1 w1 ⟨rfl, ρ1, e1, S1⟩
    cases y with
    | goto l' =>
      simp only at h
      have := ih.jump _ _ _ _ _ _ h ρ1 a1 w1 r S1 (hr.mono e1.le) N
      intro b k' cs q1 q2 q3 m hm
      obtain ⟨e, a', w', k1, k2⟩ := this b k' cs q1 q2 q3 m hm
      exact ⟨e, a', w', k1.trans e1, k2⟩
    | normal => simp only at h; cases h; exact ⟨rfl, ρ1, e1, S1⟩
    | exit id => simp only at h; cases h; exact ⟨rfl, ρ1, e1, S1⟩
    | ret => simp only at h; cases h; exact ⟨rfl, ρ1, e1, S1⟩

theorem InLoop.mono {F : Fence} {n : Nat} {P : Program} {c : Code} {Q Q' : Exit → Act → World → Prop} {a : Act} {w : World} (h : InLoop F n P c Q a w) (hq : ∀ e a w, Q e a w → Q' e a w) : InLoop F n P c Q' a w :=
  fun b k cs h1 h2 h3 => let ⟨e, a', w', q, r⟩ := h b k cs h1 h2 h3; ⟨e, a', w', hq _ _ _ q, r⟩

theorem sound_loop {k : Nat} (ih : Sound C k) (rnd : Option Nat) (c : Code) (s : St) (x : X) (s' : St) (h : Ev.code C (k + 1) rnd (.loop c) s = some (x, s')) : LoopSound C rnd c s x s' := by
  simp only [Ev.code] at h
  replace h := of_bind h
  obtain ⟨⟨y, s1⟩, h1, h⟩ := h
  intro ρ a w r S hr N
  refine inLoop_of_wpIn (wpIn_mono (ih.code _ _ _ _ _ h1 ρ a w r S hr N) ?_)
  rintro e a1 w1 ⟨rfl, ρ1, e1, S1⟩
  cases y with
  | normal =>
    simp only at h
    exact InLoop.mono (ih.loop _ _ _ _ _ h ρ1 a1 w1 r S1 (hr.mono e1.le) N) fun _ _ _ q => q.trans e1
  | exit id => simp only at h; cases h; exact ⟨rfl, ρ1, e1, S1⟩
  | goto l => simp only at h; cases h; exact ⟨rfl, ρ1, e1, S1⟩
  | ret => simp only at h; cases h; exact ⟨rfl, ρ1, e1, S1⟩

theorem sound_round {k : Nat} (ih : Sound C k) (l : Nat) (args : List V) (h : Heap) (n : Nat) (r : V × Heap × Nat) (hr : Ev.round C (k + 1) l args h n = some r) : RoundSound C l args h n r.1 r.2.1 r.2.2 := by
  simp only [Ev.round] at hr
  split at hr
  · rename_i pend tm ps as bd hl
    replace hr := of_bind hr
    obtain ⟨tm1, hp, hr⟩ := hr
    replace hr := of_bind hr
    obtain ⟨⟨y, s1⟩, h1, hr⟩ := hr
    cases y with
    | normal =>
      simp only at hr
      replace hr := of_bind hr
      obtain ⟨hb, h2, hr⟩ := hr
      replace hr := of_bind hr
      obtain ⟨⟨x, s2⟩, h3, hr⟩ := hr
      exact round_sound hl hp (ih.code _ _ _ _ _ h1) h2 (ih.code _ _ _ _ _ h3) hr
    | exit id => cases hr
    | goto l => cases hr
    | ret => cases hr
  · cases hr

theorem sound_call (hC : C.Ok) {k : Nat} (ih : Sound C k) (f : FuncId) (args : List V) (h : Heap) (n : Nat) (r : V × Heap × Nat) (hr : call C (k + 1) f args h n = some r) : CallSound C f args h n r.1 r.2.1 r.2.2 := by
  simp only [call] at hr
  replace hr := of_bind hr
  obtain ⟨fn, hf, hr⟩ := hr
  split at hr
  · cases hr
  · rename_i c hb
    replace hr := of_cond_some hr
    obtain ⟨hn, hr⟩ := hr
    replace hr := of_bind hr
    obtain ⟨⟨x, s⟩, h1, hr⟩ := hr
    have fin : x = .normal ∨ x = .ret → ((dropDefs s.defs s.h).bind fun h => (resultsOf C s.tm h fn.results.toList).bind fun vs => some (oneOf vs, h, s.n)) = some r → CallSound C f args h n r.1 r.2.1 r.2.2 := by
      intro hx hr
      replace hr := of_bind hr
      obtain ⟨h', hd, hr⟩ := hr
      replace hr := of_bind hr
      obtain ⟨vs, hv, hr⟩ := hr
      cases hr
      exact call_sound hC hf hb (by simpa using hn) (ih.code _ _ _ _ _ h1) hx hd hv
    cases x with
    | normal => exact fin (.inl rfl) hr
    | ret => exact fin (.inr rfl) hr
    | exit id => cases hr
    | goto l => cases hr

theorem sound_code (hC : C.Ok) (hmix : C.P.follows .mixedOrders = true) {k : Nat} (ihs : ∀ k' ≤ k, Sound C k') (rnd : Option Nat) (c : Code) (s : St) (x : X) (s' : St) (h : Ev.code C (k + 1) rnd c s = some (x, s')) :
    CodeSound C rnd c s x s' := by
  have ih := ihs k (Nat.le_refl _)
  cases c with
  | skip => simp only [Ev.code] at h; cases h; exact fun ρ a w r S hr N => wpIn_skip ⟨rfl, ρ, .refl _ S.heap, S⟩
  | label l => simp only [Ev.code] at h; cases h; exact fun ρ a w r S hr N => wpIn_label ⟨rfl, ρ, .refl _ S.heap, S⟩
  | exit id => simp only [Ev.code] at h; cases h; exact fun ρ a w r S hr N => wpIn_exit ⟨rfl, ρ, .refl _ S.heap, S⟩
  | goto l => simp only [Ev.code] at h; cases h; exact fun ρ a w r S hr N => wpIn_goto ⟨rfl, ρ, .refl _ S.heap, S⟩
  | ret => simp only [Ev.code] at h; cases h; exact fun ρ a w r S hr N => wpIn_ret ⟨rfl, ρ, .refl _ S.heap, S⟩
  | region id ops draw =>
    cases draw with
    | false =>
      simp only [Ev.code] at h
      replace h := of_bind h
      obtain ⟨s1, h1, h⟩ := h
      cases h
      intro ρ a w r S hr N
      have := ih.seq ops ops.toList 0 s s' h1 rfl ρ a w r S N (Post C ρ s w .normal s') fun ρ' a' w' e S' => ⟨rfl, ρ', e, S'⟩
      refine wpIn_region ?_
      rw [List.range_eq_range']
      simpa using this
    | true =>
      simp only [Ev.code] at h
      replace h := of_bind h
      obtain ⟨p, hp, h⟩ := h
      replace h := of_bind h
      obtain ⟨d, hd, h⟩ := h
      replace h := of_bind h
      obtain ⟨t, ht, h⟩ := h
      replace h := of_cond_some h
      obtain ⟨hch, h⟩ := h
      cases h
      exact region_sound hC hmix hp (fun k' hk => (ihs k' (by omega)).act) hd ht hch rnd
  | seq a b =>
    simp only [Ev.code] at h
    replace h := of_bind h
    obtain ⟨⟨y, s1⟩, h1, h⟩ := h
    intro ρ ac w r S hr N
    refine wpIn_seq (wpIn_mono (ih.code _ _ _ _ _ h1 ρ ac w r S hr N) ?_)
    rintro e a1 w1 ⟨rfl, ρ1, e1, S1⟩
    cases y with
    | normal =>
      simp only at h
      exact wpIn_mono (ih.code _ _ _ _ _ h ρ1 a1 w1 r S1 (hr.mono e1.le) N) fun _ _ _ q => q.trans e1
    | exit id => simp only at h; cases h; exact ⟨rfl, ρ1, e1, S1⟩
    | goto l => simp only at h; cases h; exact ⟨rfl, ρ1, e1, S1⟩
    | ret => simp only at h; cases h; exact ⟨rfl, ρ1, e1, S1⟩
  | cond o a b =>
    simp only [Ev.code] at h
    replace h := of_bind h
    obtain ⟨v, hv, h⟩ := h
    replace h := of_bind h
    obtain ⟨t, ht, h⟩ := h
    intro ρ ac w r S hr N
    have e := asBool_rel ht (evalT_rel (a := ac) S.glob (fun t _ => S.tm.get t) hv)
    refine wpIn_cond e ?_
    cases t with
    | true => exact ih.code _ _ _ _ _ h ρ ac w r S hr N
    | false => exact ih.code _ _ _ _ _ h ρ ac w r S hr N
  | block id body =>
    simp only [Ev.code] at h
    replace h := of_bind h
    obtain ⟨⟨y, s1⟩, h1, h⟩ := h
    intro ρ ac w r S hr N
    refine wpIn_block (wpIn_mono (ih.code _ _ _ _ _ h1 ρ ac w r S hr N) ?_)
    rintro e a1 w1 ⟨rfl, ρ1, e1, S1⟩
    cases y with
    | normal => simp only at h; cases h; exact ⟨rfl, ρ1, e1, S1⟩
    | exit id' =>
      simp only at h
      cases hb : Nat.beq id' id with
      | true =>
        rw [hb] at h
        cases h
        have e : id' = id := by simpa using hb
        simp only [xOf, Exit.inBlock, e, if_true]
        exact ⟨rfl, ρ1, e1, S1⟩
      | false =>
        rw [hb] at h
        cases h
        have e : ¬ id' = id := by simpa using hb
        simp only [xOf, Exit.inBlock, e, if_false]
        exact ⟨rfl, ρ1, e1, S1⟩
    | goto l => simp only at h; cases h; exact ⟨rfl, ρ1, e1, S1⟩
    | ret => simp only at h; cases h; exact ⟨rfl, ρ1, e1, S1⟩
  | loop body => exact fun ρ a w r S hr N => wpIn_of_inLoop (sound_loop ih rnd body s x s' h ρ a w r S hr N)
  | scope body =>
    simp only [Ev.code] at h
    replace h := of_bind h
    obtain ⟨⟨y, s1⟩, h1, h⟩ := h
    intro ρ ac w r S hr N
    refine wpIn_scope (wpIn_mono (ih.code _ _ _ _ _ h1 ρ ac w r S hr N) ?_)
    rintro e a1 w1 ⟨rfl, ρ1, e1, S1⟩
    cases y with
    | goto l' =>
      simp only at h
      have := ih.jump _ _ _ _ _ _ h ρ1 a1 w1 r S1 (hr.mono e1.le) N
      intro b k' cs q1 q2 q3 m hm
      obtain ⟨e, a', w', k1, k2⟩ := this b k' cs q1 q2 q3 m hm
      exact ⟨e, a', w', k1.trans e1, k2⟩
    | normal => simp only at h; cases h; exact ⟨rfl, ρ1, e1, S1⟩
    | exit id => simp only at h; cases h; exact ⟨rfl, ρ1, e1, S1⟩
    | ret => simp only at h; cases h; exact ⟨rfl, ρ1, e1, S1⟩
  | rangeFunc f ps assign body =>
    simp only [Ev.code] at h
    replace h := of_bind h
    obtain ⟨v, hv, h⟩ := h
    split at h
    · replace h := of_bind h
      obtain ⟨q, hq, h⟩ := h
      replace h := of_bind h
      obtain ⟨q2, hc, h⟩ := h
      replace h := of_bind h
      obtain ⟨e, he, h⟩ := h
      cases h
      exact rangeFunc_sound hv hq (ih.call _ _ _ _ _ hc) he
    · cases h
  | refuse _ => simp [Ev.code] at h

theorem sound (hC : C.Ok) (hmix : C.P.follows .mixedOrders = true) : ∀ k, Sound C k := by
  intro k
  induction k using Nat.strongRecOn with
  | _ k ih =>
    cases k with
    | zero =>
      refine ⟨?_, ?_, ?_, ?_, ?_, ?_, ?_⟩ <;> intros <;> rename_i h <;> first | (simp [Ev.code] at h; done) | (simp [Ev.scope] at h; done) | (simp [Ev.actR] at h; done) | (simp [Ev.round] at h; done) | (simp [Ev.call] at h; done) | (rename_i h _; simp [Ev.seqR] at h; done) | skip
      all_goals simp_all [Ev.seqR]
    | succ k =>
      have i1 := ih k (Nat.lt_succ_self _)
      exact ⟨sound_code hC hmix (fun k' hk => ih k' (by omega)), sound_loop i1, sound_jump i1, sound_act hC i1, sound_seq hC i1, sound_round i1, sound_call hC i1⟩

end Go.Ev
