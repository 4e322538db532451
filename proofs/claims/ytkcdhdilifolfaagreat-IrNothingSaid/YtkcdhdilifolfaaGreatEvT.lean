/- Rounds, ranges over functions, calls: out of the soundness of their parts. -/
import Derived.Test.YtkcdhdilifolfaaGreatEvS
namespace Go.Ev
variable {C : Ctx}

def CodeSound (C : Ctx) (rnd : Option Nat) (c : Code) (s : St) (x : X) (s' : St) : Prop :=
  ∀ ρ a w r, SRel C ρ s a w → RRel ρ rnd r → ∀ N, c.wpIn (Wd r) N C.P (Post C ρ s w x s') a w

theorem ORel.loop_inv {ρ : Ren} {sh ex : Nat} {st : LoopState} {pending : Option Code} {tm : Tm} {params : List Tmp} {assign body : Code} {x : Obj}
    (h : ORel ρ sh ex (.loop st pending tm params assign body) x) : ∃ L : Loop, x = .loop L ∧ sh = 0 ∧ L.state = st ∧ L.pending = pending ∧ TmRel ρ tm L.tmps ∧ L.params = params.toArray ∧ L.assign = assign ∧ L.body = body := by
  cases h with | @loop _ _ _ _ _ _ l hs h1 h2 h3 h4 h5 h6 => exact ⟨l, rfl, hs, h1, h2, h3, h4, h5, h6⟩

theorem endRound_run {ρ : Ren} {x : X} {l : Nat} {h h' : Heap} {n n' : Nat} {v : V} (he : endRound x l h n = some (v, h', n')) {w : World} (H : HRel ρ h w) {c sh ex : Nat} (hl : ρ l = some (c, sh, ex)) :
    ∃ y w', (Instr.endRound c (jumpOf x)).run C.P w = .ok y w' ∧ Evo ρ h n w ρ h' n' w' ∧ VRel ρ v y := by
  unfold endRound at he
  split at he
  · rename_i st pend tm ps as bd hg
    obtain ⟨o, g1, g2⟩ := H.at hg hl
    obtain ⟨L, rfl, h0, l1, l2, l3, l4, l5, l6⟩ := g2.loop_inv
    cases he
    refine ⟨_, _, run_endRound (jumpOf x) g1, ?_, .s _⟩
    refine Evo.turn H _ hg hl rfl rfl ?_
    refine .loop h0 ?_ rfl l3 l4 l5 l6
    cases (jumpOf x).isNone <;> rfl
  · cases he

theorem endLoop_run {ρ : Ren} {l : Nat} {h h' : Heap} {x : X} (he : endLoop l h = some (x, h')) (n : Nat) {w : World} (H : HRel ρ h w) {c sh ex : Nat} (hl : ρ l = some (c, sh, ex)) :
    ∃ jump w', (Instr.endLoop c).run C.P w = .ok jump w' ∧ Evo ρ h n w ρ h' n w' ∧ jump = jumpOf x := by
  unfold endLoop at he
  split at he
  · rename_i st pend tm ps as bd hg
    obtain ⟨o, g1, g2⟩ := H.at hg hl
    obtain ⟨L, rfl, h0, l1, l2, l3, l4, l5, l6⟩ := g2.loop_inv
    have key : st ≠ .busy → pend = jumpOf x → h' = h.set l (.loop .exhausted pend tm ps as bd) →
        ∃ jump w', (Instr.endLoop c).run C.P w = .ok jump w' ∧ Evo ρ h n w ρ h' n w' ∧ jump = jumpOf x := by
      rintro hst hp rfl
      refine ⟨_, _, run_endLoop g1 (by rw [l1]; exact hst), ?_, by rw [l2, hp]⟩
      exact Evo.turn H n hg hl rfl rfl (.loop h0 rfl l2 l3 l4 l5 l6)
    split at he
    · cases he
    · rename_i hst
      replace he := of_bind he
      obtain ⟨y, hy, he⟩ := he
      cases he
      refine key (by intro e; exact hst e) ?_ rfl
      split at hy <;> cases hy <;> rfl
  · cases he

theorem round_sound {l : Nat} {args : List V} {h h' : Heap} {n n' : Nat} {v : V} {pend : Option Code} {tm tm1 : Tm} {ps : List Tmp} {as bd : Code} {s1 s2 : St} {h1 : Heap} {x : X}
    (hl : h.get l = some (.loop .ready pend tm ps as bd)) (hp : putAll ps args tm = some tm1) (c1 : CodeSound C (some l) as { tm := tm1, h, n, defs := [] } .normal s1)
    (hb : setBusy l s1.h = some h1) (c2 : CodeSound C (some l) bd { s1 with h := h1 } x s2) (he : endRound x l s2.h s2.n = some (v, h', n')) : RoundSound C l args h n v h' n' := by
  intro ρ w c sh ex xs hρ hxs H hf hg
  obtain ⟨o, g1, g2⟩ := H.at hl hρ
  obtain ⟨L, rfl, h0, l1, l2, l3, l4, l5, l6⟩ := g2.loop_inv
  obtain ⟨k1, k2⟩ := putAll_rel hp hxs l3
  refine ⟨L.fn, _, L.assign, L.body, run_yield g1 (by rw [l4]; simpa using k2), fun N => ?_⟩
  have etm : (L.params.zip xs.toArray).foldl (fun tmps (x : Tmp × Value) => tmps.setIfInBounds x.1 x.2) L.tmps = (ps.zip xs).foldl (fun tmps (q : Tmp × Value) => tmps.setIfInBounds q.1 q.2) L.tmps := by
    rw [l4]; simp
  refine roundIn_of_wpIn trivial ?_
  rw [l5, l6]
  show as.wpIn (Wd (some c)) N C.P _ _ w
  have S0 : SRel C ρ { tm := tm1, h, n, defs := [] } { tmps := (L.params.zip xs.toArray).foldl (fun tmps (x : Tmp × Value) => tmps.setIfInBounds x.1 x.2) L.tmps, defers := [] } w :=
    ⟨by rw [etm]; exact k1, H, hf, hg, .nil⟩
  refine wpIn_mono (c1 ρ _ w (some c) S0 (.some hρ) N) ?_
  rintro e a1 w1 ⟨rfl, ρ1, e1, S1⟩
  unfold setBusy at hb
  split at hb
  · rename_i pend1 tm2 ps2 as2 bd2 hl1
    cases hb
    have hρ1 := e1.le _ _ hρ
    obtain ⟨o1, m1, m2⟩ := S1.heap.at hl1 hρ1
    obtain ⟨L1, rfl, n0, n1, n2, n3, n4, n5, n6⟩ := m2.loop_inv
    refine ⟨_, run_beginRound m1 n1, ?_⟩
    have e2 : Evo ρ1 s1.h s1.n w1 ρ1 (s1.h.set l (.loop .busy pend1 tm2 ps2 as2 bd2)) s1.n (w1.putObj c (.loop { L1 with state := .busy })) :=
      Evo.turn S1.heap _ hl1 hρ1 rfl rfl (.loop n0 rfl n2 n3 n4 n5 n6)
    have S2 : SRel C ρ1 { s1 with h := s1.h.set l (.loop .busy pend1 tm2 ps2 as2 bd2) } a1 (w1.putObj c (.loop { L1 with state := .busy })) :=
      ⟨S1.tm, e2.hrel, S1.fr, S1.glob, S1.defs⟩
    refine wpIn_mono (c2 ρ1 a1 _ (some c) S2 (.some hρ1) N) ?_
    rintro e a2 w2 ⟨rfl, ρ2, e3, S3⟩
    obtain ⟨y, w3, q1, q2, q3⟩ := endRound_run (C := C) he S3.heap (e3.le _ _ hρ1)
    have fin : Gives ρ h n w v h' n' (.returned y) w3 := ⟨ρ2, y, rfl, e1.trans (e2.trans (e3.trans q2)), q3⟩
    cases x <;> exact ⟨y, w3, q1, fin⟩
  · cases hb

theorem run_enterLoop_inner {P : Program} {w : World} {c : Nat} {L : Loop} (h : w.heap[c]? = some (.loop L)) (fn : FuncId) (tmps : Array Value) (ps : Array Tmp) (assign body : Code) :
    (Instr.enterLoop fn tmps ps assign body (some c)).run P w =
      .ok (w.heap.size, []) (w.alloc (.loop { state := .ready, pending := none, fn, tmps, params := ps, assign, body, defers := L.defers })) := by
  unfold Instr.enterLoop
  simp only [Sem.run_bind, run_getLoop h, run_newObj_alloc, Result.andThen, Sem.run_pure]

theorem beginLoop_run {rnd r : Option Nat} {ps : Array Tmp} {assign body : Code} {s : St} {q : Nat × St} (hq : beginLoop rnd ps.toList assign body s = some q) {ρ : Ren} {a : Act} {w : World}
    (S : SRel C ρ s a w) (hr : RRel ρ rnd r) (fn : FuncId) :
    ∃ c mark w1 ρ1, (Instr.enterLoop fn a.tmps ps assign body r).run C.P w = .ok (c, mark) w1 ∧ Evo ρ s.h s.n w ρ1 q.2.h q.2.n w1 ∧ ρ1 q.1 = some (c, 0, 0) ∧
      SRel C ρ1 q.2 { a with defers := mark ++ a.defers } w1 := by
  cases hr with
  | none =>
    simp only [beginLoop] at hq
    cases hq
    obtain ⟨ρ1, h1, e1⟩ := Evo.alloc (n := s.n) (ex := 0) S.heap (S.fr s.n (Nat.le_refl _)) (Nat.le_refl _) (s.n + 1) (Nat.lt_succ_self _) (o := .defd) (x := .deferred (some [])) rfl (fun ρ' _ => .defd rfl)
    have f1 := S.fr.evo e1
    obtain ⟨ρ2, h2, e2⟩ := Evo.alloc (n := s.n + 1) (ex := 0) e1.hrel (f1 _ (Nat.le_refl _)) (Nat.le_refl _) (s.n + 2) (Nat.lt_succ_self _)
      (o := .loop .ready none s.tm ps.toList assign body) (x := .loop { state := .ready, pending := none, fn, tmps := a.tmps, params := ps, assign, body, defers := w.heap.size })
      rfl (fun ρ' hle => .loop rfl rfl rfl (S.tm.mono (Ren.le_trans e1.le hle)) (by simp) rfl rfl)
    have ee := e1.trans e2
    refine ⟨_, _, _, ρ2, run_enterLoop_outer fn a.tmps ps assign body, ee, ?_, ?_⟩
    · rw [h2]; simp
    · exact ⟨S.tm.mono ee.le, ee.hrel, S.fr.evo ee, S.glob.mono ee.le, .cons (e2.le _ _ h1) (S.defs.mono ee.le)⟩
  | @some l c sh ex hl =>
    simp only [beginLoop] at hq
    split at hq
    · rename_i hg
      cases hq
      obtain ⟨o, g1, g2⟩ := S.heap.at hg hl
      obtain ⟨L, rfl, _⟩ := g2.loop_inv
      obtain ⟨ρ2, h2, e2⟩ := Evo.alloc (n := s.n) (ex := 0) S.heap (S.fr _ (Nat.le_refl _)) (Nat.le_refl _) (s.n + 1) (Nat.lt_succ_self _)
        (o := .loop .ready none s.tm ps.toList assign body) (x := .loop { state := .ready, pending := none, fn, tmps := a.tmps, params := ps, assign, body, defers := L.defers })
        rfl (fun ρ' hle => .loop rfl rfl rfl (S.tm.mono hle) (by simp) rfl rfl)
      refine ⟨_, _, _, ρ2, run_enterLoop_inner g1 fn a.tmps ps assign body, e2, h2, ?_⟩
      exact ⟨S.tm.mono e2.le, e2.hrel, S.fr.evo e2, S.glob.mono e2.le, S.defs.mono e2.le⟩
    · cases hq

theorem rangeFunc_sound {rnd : Option Nat} {f : Operand} {ps : Array Tmp} {assign body : Code} {s : St} {g : FuncId} {first caps : List V} {q : Nat × St} {v : V} {h' : Heap} {n' : Nat} {e : X × Heap}
    (hf : evalT C s.tm f = some (.func (.func g) first caps)) (hq : beginLoop rnd ps.toList assign body s = some q) (hc : CallSound C g (first ++ [.yield q.1] ++ caps) q.2.h q.2.n v h' n')
    (he : endLoop q.1 h' = some e) : CodeSound C rnd (.rangeFunc f ps assign body) s e.1 { q.2 with h := e.2, n := n' } := by
  intro ρ a w r S hr N
  refine wpIn_rangeFunc fun fn _ => ?_
  obtain ⟨c, mark, w1, ρ1, b1, e1, hl, S1⟩ := beginLoop_run hq S hr fn
  have hv := evalT_rel (a := a) S.glob (fun t _ => S.tm.get t) hf
  generalize hy : a.eval f = y at hv
  cases hv with | @func _ _ _ xs ys g1 g2 =>
  have hargs : VRels ρ1 (first ++ [.yield q.1] ++ caps) (xs ++ [.func (.yield c) #[] #[]] ++ ys) := ((g1.mono e1.le).append (.single (.yield hl))).append (g2.mono e1.le)
  obtain ⟨k1, k2⟩ := hc ρ1 w1 _ hargs S1.heap S1.fr S1.glob
  refine ⟨c, mark, w1, { target := .fn (.func g) ys.toArray, args := xs.toArray ++ #[Value.func (.yield c) #[] #[]] }, w1, g, (xs ++ [Value.func (.yield c) #[] #[]] ++ ys).toArray, w1, b1, ?_, fun _ _ => trivial, ?_, fun h => by simp [Fence.wide] at h, ?_⟩
  · have hc0 : a.eval (.const (.func (.yield c) #[] #[])) = .func (.yield c) #[] #[] := rfl
    simp [resolve, rangeCall, hy, Deferred.ofValue, hc0]
  · have : xs.toArray ++ #[Value.func (.yield c) #[] #[]] ++ ys.toArray = (xs ++ [Value.func (.yield c) #[] #[]] ++ ys).toArray := by simp
    simp only [invoke, this]
    exact k1
  · rw [callsIn_wd]
    refine CallsIn.mono (k2 _) ?_
    rintro en w2 ⟨ρ2, z, rfl, e2, _⟩
    obtain ⟨jump, w3, q1, q2, q3⟩ := endLoop_run (C := C) he n' e2.hrel (e2.le _ _ hl)
    refine ⟨jump, w3, q1, ?_⟩
    have ee := e1.trans (e2.trans q2)
    have fin : ∀ x, x = e.1 → Post C ρ s w e.1 { q.2 with h := e.2, n := n' } (xOf x) { a with defers := mark ++ a.defers } w3 := by
      rintro x rfl
      exact ⟨rfl, ρ2, ee, ⟨S1.tm.mono e2.le, q2.hrel, S1.fr.evo (e2.trans q2), S1.glob.mono e2.le, S1.defs.mono e2.le⟩⟩
    subst q3
    generalize he1 : e.1 = x at fin ⊢
    cases x with
    | normal => exact fin _ rfl
    | exit id => exact wpIn_exit (fin _ rfl)
    | goto l => exact wpIn_goto (fin _ rfl)
    | ret => exact wpIn_ret (fin _ rfl)

theorem call_sound (hC : C.Ok) {f : FuncId} {fn : Func} {c : Code} {args : List V} {h h' : Heap} {n : Nat} {x : X} {s : St} {vs : List V} (hf : C.F.get f = some fn) (hb : fn.body = some c)
    (hn : args.length ≤ fn.ntmps) (hc : CodeSound C none c { tm := argsTm fn.ntmps 0 args .leaf, h, n, defs := [] } x s) (hx : x = .normal ∨ x = .ret)
    (hd : dropDefs s.defs s.h = some h') (hr : resultsOf C s.tm h' fn.results.toList = some vs) : CallSound C f args h n (oneOf vs) h' s.n := by
  intro ρ w xs hxs H hfr hg
  have hfn := hC.fn f fn hf
  refine ⟨?_, fun N => ?_⟩
  · simp only [callFunc, Sem.run_bind, run_program, Result.andThen_ok, hfn, hC.names f fn hf, hb]
    simp
  · refine callsIn_of_wp_marks hfn hb trivial ?_
    have S0 : SRel C ρ { tm := argsTm fn.ntmps 0 args .leaf, h, n, defs := [] } { tmps := xs.toArray ++ Array.replicate (fn.ntmps - xs.toArray.size) undef, defers := [] } w :=
      ⟨argsTm_rel hxs hn, H, hfr, hg, .nil⟩
    refine wpIn_mono (hc ρ _ w none S0 .none N) ?_
    rintro e a1 w1 ⟨rfl, ρ1, e1, S1⟩
    have fin : LeavesInM Fence.wide N C.P fn a1.tmps (Gives ρ h n w (oneOf vs) h' s.n) a1.defers .returning w1 := by
      refine leaves (n := s.n) hd S1.defs S1.heap fun w2 e2 => ?_
      obtain ⟨y, q1, q2⟩ := results_run hC e2.hrel S1.tm hr
      exact ⟨y, q1, ρ1, y, rfl, e1.trans e2, q2⟩
    rcases hx with rfl | rfl <;> exact fin

end Go.Ev
