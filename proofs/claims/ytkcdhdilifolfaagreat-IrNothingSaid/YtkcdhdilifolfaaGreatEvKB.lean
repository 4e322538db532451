/- What is so behind code: control, loops, calls. -/
import Derived.Test.YtkcdhdilifolfaaGreatEvKR
namespace Go.Ev
variable {C : Ctx}

def wpC (C : Ctx) (rnd : Option Nat) : Code → St → (X → St → Prop) → Prop
  | .skip, s, Q => Q .normal s
  | .label _, s, Q => Q .normal s
  | .exit id, s, Q => Q (.exit id) s
  | .goto l, s, Q => Q (.goto l) s
  | .ret, s, Q => Q .ret s
  | .region _ ops false, s, Q => wpOps C ops.toList ops.toList s (Q .normal)
  | .region _ ops true, s, Q => regionS C ops.toList s Q
  | .seq a b, s, Q => wpC C rnd a s fun x s => match x with
    | .normal => wpC C rnd b s Q
    | x => Q x s
  | .cond c a b, s, Q => oK ((evalT C s.tm c).bind asBool) fun t => bif t then wpC C rnd a s Q else wpC C rnd b s Q
  | .block id body, s, Q => wpC C rnd body s fun x s => match x with
    | .exit id' => bif Nat.beq id' id then Q .normal s else Q (.exit id') s
    | x => Q x s
  | .loop body, s, Q => LoopK C rnd body s Q
  | .scope body, s, Q => CodeK C rnd (.scope body) s Q
  | .rangeFunc f ps as bd, s, Q => CodeK C rnd (.rangeFunc f ps as bd) s Q
  | .refuse _, _, _ => False

theorem LoopK.code {rnd : Option Nat} {c : Code} {s : St} {Q : X → St → Prop} (h : LoopK C rnd c s Q) : CodeK C rnd (.loop c) s Q :=
  fun ρ a w r S hr N => wpIn_of_inLoop (h.run ρ a w r S hr N)

theorem CodeK.mono {rnd : Option Nat} {c : Code} {s : St} {Q Q' : X → St → Prop} (h : CodeK C rnd c s Q) (hq : ∀ x s, Q x s → Q' x s) : CodeK C rnd c s Q' :=
  fun ρ a w r S hr N => wpIn_mono (h ρ a w r S hr N) fun _ _ _ ⟨x, s', q, p⟩ => ⟨x, s', hq _ _ q, p⟩

/-- A program that the calculus may speak of. -/
structure GOk (C : Ctx) : Prop where
  ok : C.Ok
  mix : C.P.follows .mixedOrders = true

theorem wpC_sound (hC : GOk C) (rnd : Option Nat) : ∀ (c : Code) (s : St) (Q : X → St → Prop), wpC C rnd c s Q → CodeK C rnd c s Q
  | .skip, s, Q, h => fun ρ a w r S hr N => wpIn_skip ⟨_, s, h, rfl, ρ, .refl _ S.heap, S⟩
  | .label _, s, Q, h => fun ρ a w r S hr N => wpIn_label ⟨_, s, h, rfl, ρ, .refl _ S.heap, S⟩
  | .exit id, s, Q, h => fun ρ a w r S hr N => wpIn_exit ⟨_, s, h, rfl, ρ, .refl _ S.heap, S⟩
  | .goto l, s, Q, h => fun ρ a w r S hr N => wpIn_goto ⟨_, s, h, rfl, ρ, .refl _ S.heap, S⟩
  | .ret, s, Q, h => fun ρ a w r S hr N => wpIn_ret ⟨_, s, h, rfl, ρ, .refl _ S.heap, S⟩
  | .region id ops false, s, Q, h => by
    intro ρ a w r S hr N
    have := wpOps_sound hC.ok (ops := ops) ops.toList 0 s (Q .normal) rfl h ρ a w r S N (PostK C ρ s w Q) fun ρ' a' w' s' q e S' => ⟨.normal, s', q, rfl, ρ', e, S'⟩
    refine wpIn_region ?_
    rw [List.range_eq_range']
    simpa using this
  | .region id ops true, s, Q, h => regionS_sound hC.ok hC.mix h rnd
  | .seq a b, s, Q, h => by
    intro ρ ac w r S hr N
    refine wpIn_seq (wpIn_mono (wpC_sound hC rnd a s _ h ρ ac w r S hr N) ?_)
    rintro e a1 w1 ⟨x, s1, q, rfl, ρ1, e1, S1⟩
    cases x with
    | normal => exact wpIn_mono (wpC_sound hC rnd b s1 Q q ρ1 a1 w1 r S1 (hr.mono e1.le) N) fun _ _ _ k => k.trans e1
    | exit id => exact ⟨_, s1, q, rfl, ρ1, e1, S1⟩
    | goto l => exact ⟨_, s1, q, rfl, ρ1, e1, S1⟩
    | ret => exact ⟨_, s1, q, rfl, ρ1, e1, S1⟩
  | .cond c a b, s, Q, h => by
    intro ρ ac w r S hr N
    obtain ⟨t, h1, h⟩ := of_oK h
    obtain ⟨v, hv, ht⟩ := of_bind h1
    have e := asBool_rel ht (evalT_rel (a := ac) S.glob (fun t _ => S.tm.get t) hv)
    refine wpIn_cond e ?_
    cases t with
    | true => exact wpC_sound hC rnd a s Q h ρ ac w r S hr N
    | false => exact wpC_sound hC rnd b s Q h ρ ac w r S hr N
  | .block id body, s, Q, h => by
    intro ρ ac w r S hr N
    refine wpIn_block (wpIn_mono (wpC_sound hC rnd body s _ h ρ ac w r S hr N) ?_)
    rintro e a1 w1 ⟨x, s1, q, rfl, ρ1, e1, S1⟩
    cases x with
    | normal => exact ⟨_, s1, q, rfl, ρ1, e1, S1⟩
    | exit id' =>
      simp only at q
      cases hb : Nat.beq id' id with
      | true =>
        rw [hb] at q
        have e : id' = id := by simpa using hb
        simp only [xOf, Exit.inBlock, e, if_true]
        exact ⟨_, s1, q, rfl, ρ1, e1, S1⟩
      | false =>
        rw [hb] at q
        have e : ¬ id' = id := by simpa using hb
        simp only [xOf, Exit.inBlock, e, if_false]
        exact ⟨_, s1, q, rfl, ρ1, e1, S1⟩
    | goto l => exact ⟨_, s1, q, rfl, ρ1, e1, S1⟩
    | ret => exact ⟨_, s1, q, rfl, ρ1, e1, S1⟩
  | .loop body, s, Q, h => LoopK.code h
  | .scope body, s, Q, h => h
  | .rangeFunc f ps as bd, s, Q, h => h
  | .refuse _, _, _, h => h.elim

/-! ### The rest of code, as a row -/
inductive Fr1 where
  | blk (id : Nat)
  | sq (c : Code)

def resume (C : Ctx) (rnd : Option Nat) : List Fr1 → (X → St → Prop) → X → St → Prop
  | [], Q => Q
  | .blk id :: k, Q => fun x s => match x with
    | .exit id' => bif Nat.beq id' id then resume C rnd k Q .normal s else resume C rnd k Q (.exit id') s
    | x => resume C rnd k Q x s
  | .sq c :: k, Q => fun x s => match x with
    | .normal => wpC C rnd c s (resume C rnd k Q)
    | x => resume C rnd k Q x s

/-- wpC outside of ranges over functions. -/
structure Wp (C : Ctx) (c : Code) (s : St) (Q : X → St → Prop) : Prop where
  run : wpC C none c s Q
theorem Wp.eq_of {c : Code} {s : St} {Q : X → St → Prop} {R : Prop} (h : wpC C none c s Q = R) : Wp C c s Q = R := propext ⟨fun w => h.mp w.run, fun r => ⟨h.mpr r⟩⟩

/-! ### More may be told behind -/
theorem oK_mono {α : Type} {x : Option α} {K K' : α → Prop} (h : ∀ a, K a → K' a) (k : oK x K) : oK x K' := by
  obtain ⟨a, e, k⟩ := of_oK k
  exact oK_of e (h a k)
theorem CallK.mono' {f : FuncId} {args : List V} {h : Heap} {n : Nat} {K K' : V → Heap → Nat → Prop} (hm : ∀ v h' n', K v h' n' → K' v h' n') (hk : CallK C f args h n K) : CallK C f args h n K' := by
  refine ⟨?_⟩
  intro ρ w xs h1 h2 h3 h4
  obtain ⟨k1, k2⟩ := hk.run ρ w xs h1 h2 h3 h4
  refine ⟨k1, fun N => (k2 N).mono ?_⟩
  rintro e w' ⟨v, h', n', q, g⟩
  exact ⟨v, h', n', hm _ _ _ q, g⟩
theorem RoundK.mono' {l : Nat} {args : List V} {h : Heap} {n : Nat} {K K' : V → Heap → Nat → Prop} (hm : ∀ v h' n', K v h' n' → K' v h' n') (hk : RoundK C l args h n K) : RoundK C l args h n K' := by
  intro ρ w c sh ex xs h0 h1 h2 h3 h4
  obtain ⟨f, tmps, as, bd, k1, k2⟩ := hk ρ w c sh ex xs h0 h1 h2 h3 h4
  refine ⟨f, tmps, as, bd, k1, fun N => RoundIn.mono (k2 N) ?_⟩
  rintro e w' ⟨v, h', n', q, g⟩
  exact ⟨v, h', n', hm _ _ _ q, g⟩
theorem outK.mono {h : Heap} {n : Nat} {K K' : V → Heap → Nat → Prop} (hm : ∀ v h' n', K v h' n' → K' v h' n') {out : Out} (k : outK C h n K out) : outK C h n K' out := by
  cases out with
  | val v h' n' => exact hm _ _ _ k
  | enter f args => exact CallK.mono' hm k
  | round l args => exact RoundK.mono' hm k
theorem callV_mono {f : V} {args : List V} {h : Heap} {n : Nat} {K K' : V → Heap → Nat → Prop} (hm : ∀ v h' n', K v h' n' → K' v h' n') (k : callV C f args h n K) : callV C f args h n K' := by
  unfold callV at k ⊢
  split at k
  · split at k
    · exact oK_mono (fun _ => outK.mono hm) k
    · exact CallK.mono' hm k
  · exact oK_mono (fun _ => outK.mono hm) k
  · exact RoundK.mono' hm k
  · exact k.elim
theorem invokeW_mono {r : V} {m : String} {args : List V} {h : Heap} {n : Nat} {K K' : V → Heap → Nat → Prop} (hm : ∀ v h' n', K v h' n' → K' v h' n') (k : invokeW C r m args h n K) : invokeW C r m args h n K' := by
  unfold invokeW at k ⊢
  split at k
  · exact oK_mono (fun _ => CallK.mono' hm) k
  · exact k.elim
theorem actW_mono {ev : Operand → Option V} {o : Oper} {h : Heap} {n : Nat} {K K' : V → Heap → Nat → Prop} (hm : ∀ v h' n', K v h' n' → K' v h' n') (k : actW C ev o h n K) : actW C ev o h n K' := by
  unfold actW at k ⊢
  split at k
  · exact oK_mono (fun _ => oK_mono fun _ => oK_mono fun _ => hm _ _ _) k
  · exact oK_mono (fun _ => oK_mono fun _ => oK_mono fun _ => oK_mono fun _ => hm _ _ _) k
  · exact oK_mono (fun _ => oK_mono fun _ => oK_mono fun _ => oK_mono fun _ => hm _ _ _) k
  · refine oK_mono (fun args k => ?_) k
    split at k
    · exact oK_mono (fun _ => callV_mono hm) k
    · exact oK_mono (fun _ => invokeW_mono hm) k
    · split at k
      · exact oK_mono (fun _ => oK_mono fun _ => oK_mono fun _ => hm _ _ _) k
      · exact k.elim
    · split at k
      · exact oK_mono (fun _ => oK_mono fun _ => hm _ _ _) k
      · exact k.elim
    · split at k
      · exact oK_mono (fun _ => oK_mono fun _ => hm _ _ _) k
      · exact k.elim
    · exact oK_mono (fun _ => outK.mono hm) k
  · exact oK_mono (fun _ => outK.mono hm) k
theorem makeO_mono {ev : Operand → Option V} {o : Oper} {n : Nat} {K K' : V → O → Prop} (hm : ∀ v ob, K v ob → K' v ob) (k : makeO C ev o n K) : makeO C ev o n K' := by
  unfold makeO at k ⊢
  split at k
  · exact oK_mono (fun _ => oK_mono fun _ => oK_mono fun _ => hm _ _) k
  · exact oK_mono (fun _ => oK_mono fun _ => oK_mono fun _ => hm _ _) k
  · refine oK_mono (fun i k => ?_) k
    split at k
    · refine oK_mono (fun _ => oK_mono fun _ => oK_mono fun _ => oK_mono fun _ => oK_mono fun _ => oK_mono fun _ => oK_mono fun _ k => ?_) k
      revert k
      generalize (Nat.ble _ _ && _) = q
      cases q with
      | false => exact id
      | true => exact hm _ _
    · exact k.elim
  · refine oK_mono (fun i k => ?_) k
    split at k
    · refine oK_mono (fun _ => oK_mono fun _ => oK_mono fun _ => oK_mono fun _ k => ?_) k
      revert k
      generalize (Nat.ble _ _ && _) = q
      cases q with
      | false => exact id
      | true => exact oK_mono fun _ => hm _ _
    · exact k.elim
  · exact oK_mono (fun _ => hm _ _) k
theorem wpOps_mono {ops : List Oper} : ∀ {l : List Oper} {s : St} {Q Q' : St → Prop}, (∀ s, Q s → Q' s) → wpOps C ops l s Q → wpOps C ops l s Q'
  | [], s, Q, Q', hm, k => hm s k
  | o :: rest, s, Q, Q', hm, k => by
    simp only [wpOps] at k ⊢
    split at k
    · exact oK_mono (fun _ => oK_mono fun _ => wpOps_mono hm) k
    · exact oK_mono (fun _ => oK_mono fun _ => wpOps_mono hm) k
    · revert k
      cases wantedT ops s.tm o with
      | false => exact oK_mono fun _ => wpOps_mono hm
      | true =>
        simp only [cond_true]
        exact fun k => makeO_mono (fun _ _ => oK_mono fun _ => wpOps_mono hm) k
    · revert k
      cases wantedT ops s.tm o with
      | false => exact oK_mono fun _ => wpOps_mono hm
      | true =>
        simp only [cond_true]
        exact fun k => actW_mono (fun _ _ _ => oK_mono fun _ => wpOps_mono hm) k
theorem actD_mono {ev : Operand → Option V} {o : Oper} {h : Heap} {n : Nat} {K K' : V → Heap → Nat → Prop} (hm : ∀ v h' n', K v h' n' → K' v h' n') (k : actD C ev o h n K) : actD C ev o h n K' := by
  unfold actD at k ⊢
  split at k
  · exact oK_mono (fun _ => oK_mono fun _ => oK_mono fun _ => hm _ _ _) k
  · exact oK_mono (fun _ => oK_mono fun _ => oK_mono fun _ => oK_mono fun _ => hm _ _ _) k
  · exact oK_mono (fun _ => oK_mono fun _ => oK_mono fun _ => oK_mono fun _ => hm _ _ _) k
  · refine oK_mono (fun args k => ?_) k
    split at k
    · exact oK_mono (fun _ => oK_mono fun _ ⟨v, h', n', k1, k2⟩ => ⟨v, h', n', k1, hm _ _ _ k2⟩) k
    · split at k
      · exact oK_mono (fun _ => oK_mono fun _ => oK_mono fun _ => hm _ _ _) k
      · exact k.elim
    · split at k
      · exact oK_mono (fun _ => oK_mono fun _ => hm _ _ _) k
      · exact k.elim
    · exact k.elim
  · exact k.elim
theorem passW_mono {p : Plan} {ops : List Oper} {n0 t : Nat} : ∀ {l : List Oper} {i : Nat} {d : DS} {K K' : DS → Prop}, (∀ d, K d → K' d) → passW C p ops n0 t l i d K → passW C p ops n0 t l i d K'
  | [], _, d, K, K', hm, k => hm d k
  | o :: rest, i, d, K, K', hm, k => by
    simp only [passW] at k ⊢
    revert k
    cases Nat.beq (countIn (p.preds.getD i 0) p.acts) t with
    | false => exact passW_mono hm
    | true =>
      simp only [cond_true]
      intro k
      split at k
      · exact oK_mono (fun _ => oK_mono fun _ => passW_mono hm) k
      · exact oK_mono (fun _ => oK_mono fun _ => oK_mono fun _ => passW_mono hm) k
      · revert k
        cases wantedT ops d.tm o with
        | false => exact oK_mono fun _ => passW_mono hm
        | true =>
          simp only [cond_true]
          exact fun k => makeO_mono (fun _ _ => oK_mono fun _ => passW_mono hm) k
      · exact passW_mono hm k
theorem restW_mono {p : Plan} {ops : List Oper} {n0 : Nat} : ∀ {as : List Nat} {t : Nat} {d : DS} {K K' : DS → Prop}, (∀ d, K d → K' d) → restW C p ops n0 as t d K → restW C p ops n0 as t d K'
  | [], _, d, K, K', hm, k => hm d k
  | a :: as, t, d, K, K', hm, k => by
    simp only [restW] at k ⊢
    refine oK_mono (fun o => oK_mono fun st => ?_) k
    cases wantedT ops d.tm o with
    | false => exact oK_mono fun _ k => ⟨k.1, passW_mono (fun _ => restW_mono hm) k.2⟩
    | true =>
      simp only [cond_true]
      exact fun k => actW_mono (fun _ _ _ => oK_mono fun _ k => ⟨k.1, passW_mono (fun _ => restW_mono hm) k.2⟩) k
theorem LoopK.mono {rnd : Option Nat} {c : Code} {s : St} {Q Q' : X → St → Prop} (hq : ∀ x s, Q x s → Q' x s) (h : LoopK C rnd c s Q) : LoopK C rnd c s Q' :=
  ⟨fun ρ a w r S hr N => InLoop.mono (h.run ρ a w r S hr N) fun _ _ _ ⟨x, s', q, p⟩ => ⟨x, s', hq _ _ q, p⟩⟩
theorem wpC_mono {rnd : Option Nat} : ∀ {c : Code} {s : St} {Q Q' : X → St → Prop}, (∀ x s, Q x s → Q' x s) → wpC C rnd c s Q → wpC C rnd c s Q'
  | .skip, s, Q, Q', hm, k => hm _ _ k
  | .label _, s, Q, Q', hm, k => hm _ _ k
  | .exit id, s, Q, Q', hm, k => hm _ _ k
  | .goto l, s, Q, Q', hm, k => hm _ _ k
  | .ret, s, Q, Q', hm, k => hm _ _ k
  | .region id ops false, s, Q, Q', hm, k => wpOps_mono (hm _) k
  | .region id ops true, s, Q, Q', hm, k => oK_mono (fun _ => passW_mono fun _ => restW_mono fun _ => oK_mono fun _ k => hm _ _ k) k
  | .seq a b, s, Q, Q', hm, k => wpC_mono (c := a) (fun x s k => by
      cases x with
      | normal => exact wpC_mono (c := b) hm k
      | exit id => exact hm _ _ k
      | goto l => exact hm _ _ k
      | ret => exact hm _ _ k) k
  | .cond c a b, s, Q, Q', hm, k => oK_mono (fun t k => by
      cases t with
      | true => exact wpC_mono (c := a) hm k
      | false => exact wpC_mono (c := b) hm k) k
  | .block id body, s, Q, Q', hm, k => wpC_mono (c := body) (fun x s k => by
      cases x with
      | normal => exact hm _ _ k
      | exit id' =>
        revert k
        simp only
        cases Nat.beq id' id with
        | true => exact hm _ _
        | false => exact hm _ _
      | goto l => exact hm _ _ k
      | ret => exact hm _ _ k) k
  | .loop body, s, Q, Q', hm, k => LoopK.mono hm k
  | .scope body, s, Q, Q', hm, k => CodeK.mono k hm
  | .rangeFunc f ps as bd, s, Q, Q', hm, k => CodeK.mono k hm
  | .refuse _, _, _, _, _, k => k.elim
theorem Wp.mono {c : Code} {s : St} {Q Q' : X → St → Prop} (k : Wp C c s Q) (hm : ∀ x s, Q x s → Q' x s) : Wp C c s Q' := ⟨wpC_mono hm k.run⟩

/-! ### Calls -/
def retW (C : Ctx) (fn : Func) (K : V → Heap → Nat → Prop) : X → St → Prop := fun x s =>
  match x with
  | .normal | .ret => oK (dropDefs s.defs s.h) fun h => oK (resultsOf C s.tm h fn.results.toList) fun vs => K (oneOf vs) h s.n
  | _ => False

/-- The temporaries with which a call begins. -/
def initTm (fn : Func) (args : List V) : Tm := mkTm (args ++ List.replicate (fn.ntmps - args.length) undefV)

theorem callK_of (hC : GOk C) {f : FuncId} {fn : Func} {c : Code} {args : List V} {h : Heap} {n : Nat} {K : V → Heap → Nat → Prop} (hf : C.F.get f = some fn) (hb : fn.body = some c)
    (hn : Nat.ble args.length fn.ntmps = true) (hw : (∀ b o, h.get b = some o → b < n) → Wp C c { tm := initTm fn args, h, n, defs := [] } (retW C fn K)) : CallK C f args h n K := by
  have hn : args.length ≤ fn.ntmps := by simpa using hn
  refine ⟨?_⟩
  intro ρ w xs hxs H hfr hg
  have hfn := hC.ok.fn f fn hf
  have hlt : ∀ b o, h.get b = some o → b < n := by
    intro b o hb
    obtain ⟨c, sh, ex, x, q1, _⟩ := H.obj b o hb
    apply Nat.lt_of_not_le
    intro hle
    rw [hfr b hle] at q1; cases q1
  refine ⟨?_, fun N => ?_⟩
  · simp only [callFunc, Sem.run_bind, run_program, Result.andThen_ok, hfn, hC.ok.names f fn hf, hb]
    simp
  · refine callsIn_of_wp_marks hfn hb trivial ?_
    have S0 : SRel C ρ { tm := mkTm (args ++ List.replicate (fn.ntmps - args.length) undefV), h, n, defs := [] } { tmps := xs.toArray ++ Array.replicate (fn.ntmps - xs.toArray.size) undef, defers := [] } w := by
      refine ⟨?_, H, hfr, hg, .nil⟩
      have := argsTm_rel hxs hn
      refine ⟨?_, fun i => ?_⟩
      · rw [this.size, (argsTm_get fn.ntmps args 0 .leaf 0).1]; simp [mkTm]; omega
      · have e := this.get i
        rw [(argsTm_get fn.ntmps args 0 .leaf i).2] at e
        rw [mkTm_get]
        by_cases hi : i < args.length
        · rw [if_pos (by omega)] at e
          rw [List.getElem?_append_left hi]; simpa using e
        · rw [if_neg (by omega)] at e
          rw [List.getElem?_append_right (by omega), List.getElem?_replicate]
          split <;> simpa using e
    refine wpIn_mono (wpC_sound hC none c _ _ (hw hlt).run ρ _ w none S0 .none N) ?_
    rintro e a1 w1 ⟨x, s1, q, rfl, ρ1, e1, S1⟩
    have fin : (oK (dropDefs s1.defs s1.h) fun h => oK (resultsOf C s1.tm h fn.results.toList) fun vs => K (oneOf vs) h s1.n) →
        LeavesInM Fence.wide N C.P fn a1.tmps (fun e w' => ∃ v h' n', K v h' n' ∧ Gives ρ h n w v h' n' e w') a1.defers .returning w1 := by
      intro q
      obtain ⟨h', hd, q⟩ := of_oK q
      obtain ⟨vs, hr, q⟩ := of_oK q
      refine leaves (n := s1.n) hd S1.defs S1.heap fun w2 e2 => ?_
      obtain ⟨y, q1, q2⟩ := results_run hC.ok e2.hrel S1.tm hr
      exact ⟨y, q1, oneOf vs, h', s1.n, q, ρ1, y, rfl, e1.trans e2, q2⟩
    cases x with
    | normal => exact fin q
    | ret => exact fin q
    | exit id => exact q.elim
    | goto l => exact q.elim

theorem Gives.keep {ρ : Ren} {h : Heap} {n : Nat} {w : World} {v : V} {h' h'' : Heap} {n' : Nat} {e : Ending} {w' : World} (g : Gives ρ h n w v h' n' e w') (hs : ∀ b o, h''.get b = some o → h'.get b = some o) :
    Gives ρ h n w v h'' n' e w' := by
  obtain ⟨ρ', y, rfl, k1, k2⟩ := g
  refine ⟨ρ', y, rfl, ⟨k1.le, k1.new, k1.num, k1.hrel.weaken hs, k1.size, k1.frame, fun b o x h1 => k1.dom b o x (hs _ _ h1), fun b o h1 => k1.ros b o (hs _ _ h1), k1.side⟩, k2⟩

end Go.Ev
