/- Ranges over functions, and their rounds, in the calculus. -/
import Derived.Test.YtkcdhdilifolfaaGreatEvKH
namespace Go.Ev
variable {C : Ctx}

/-- A range over a function: it is called with a yield of its own. -/
theorem rangeFuncK {rnd : Option Nat} {f : Operand} {ps : Array Tmp} {assign body : Code} {s : St} {Q : X → St → Prop} {g : FuncId} {first caps : List V} {q : Nat × St}
    (hf : evalT C s.tm f = some (.func (.func g) first caps)) (hq : beginLoop rnd ps.toList assign body s = some q)
    (hc : CallK C g (first ++ [.yield q.1] ++ caps) q.2.h q.2.n fun _ h' n' => oK (endLoop q.1 h') fun e => Q e.1 { q.2 with h := e.2, n := n' }) : CodeK C rnd (.rangeFunc f ps assign body) s Q := by
  intro ρ a w r S hr N
  refine wpIn_rangeFunc fun fn _ => ?_
  obtain ⟨c, mark, w1, ρ1, b1, e1, hl, S1⟩ := beginLoop_run hq S hr fn
  have hv := evalT_rel (a := a) S.glob (fun t _ => S.tm.get t) hf
  generalize hy : a.eval f = y at hv
  cases hv with | @func _ _ _ xs ys g1 g2 =>
  have hargs : VRels ρ1 (first ++ [.yield q.1] ++ caps) (xs ++ [.func (.yield c) #[] #[]] ++ ys) := ((g1.mono e1.le).append (.single (.yield hl))).append (g2.mono e1.le)
  obtain ⟨k1, k2⟩ := hc.run ρ1 w1 _ hargs S1.heap S1.fr S1.glob
  refine ⟨c, mark, w1, { target := .fn (.func g) ys.toArray, args := xs.toArray ++ #[Value.func (.yield c) #[] #[]] }, w1, g, (xs ++ [Value.func (.yield c) #[] #[]] ++ ys).toArray, w1, b1, ?_, fun _ _ => trivial, ?_, fun h => by simp [Fence.wide] at h, ?_⟩
  · have hc0 : a.eval (.const (.func (.yield c) #[] #[])) = .func (.yield c) #[] #[] := rfl
    simp [resolve, rangeCall, hy, Deferred.ofValue, hc0]
  · have : xs.toArray ++ #[Value.func (.yield c) #[] #[]] ++ ys.toArray = (xs ++ [Value.func (.yield c) #[] #[]] ++ ys).toArray := by simp
    simp only [invoke, this]
    exact k1
  · rw [callsIn_wd]
    refine CallsIn.mono (k2 _) ?_
    rintro en w2 ⟨v, h', n', hK, ρ2, z, rfl, e2, _⟩
    obtain ⟨e, he, hK⟩ := of_oK hK
    obtain ⟨jump, w3, q1, q2, q3⟩ := endLoop_run (C := C) he n' e2.hrel (e2.le _ _ hl)
    refine ⟨jump, w3, q1, ?_⟩
    have ee := e1.trans (e2.trans q2)
    have fin : ∀ x, x = e.1 → PostK C ρ s w Q (xOf x) { a with defers := mark ++ a.defers } w3 := by
      rintro x rfl
      exact ⟨_, _, hK, rfl, ρ2, ee, ⟨S1.tm.mono e2.le, q2.hrel, S1.fr.evo (e2.trans q2), S1.glob.mono e2.le, S1.defs.mono e2.le⟩⟩
    subst q3
    generalize he1 : e.1 = x at fin ⊢
    cases x with
    | normal => exact fin _ rfl
    | exit id => exact wpIn_exit (fin _ rfl)
    | goto l => exact wpIn_goto (fin _ rfl)
    | ret => exact wpIn_ret (fin _ rfl)

/-- A round: what it is called with is laid, the body done. -/
theorem roundK {l : Nat} {args : List V} {h : Heap} {n : Nat} {K : V → Heap → Nat → Prop} {pend : Option Code} {tm tm1 : Tm} {ps : List Tmp} {as bd : Code}
    (hl : h.get l = some (.loop .ready pend tm ps as bd)) (hp : putAll ps args tm = some tm1)
    (c1 : CodeK C (some l) as { tm := tm1, h, n, defs := [] } fun x s1 => x = .normal ∧ oK (setBusy l s1.h) fun h1 =>
      CodeK C (some l) bd { s1 with h := h1 } fun x s2 => oK (endRound x l s2.h s2.n) fun r => K r.1 r.2.1 r.2.2) : RoundK C l args h n K := by
  intro ρ w c sh ex xs hρ hxs H hf hg
  obtain ⟨o, g1, g2⟩ := H.at hl hρ
  obtain ⟨L, rfl, h0, l1, l2, l3, l4, l5, l6⟩ := g2.loop_inv
  obtain ⟨k1, k2⟩ := putAll_rel hp hxs l3
  refine ⟨L.fn, _, L.assign, L.body, run_yield g1 (by rw [l4]; simpa using k2), fun N => ?_⟩
  have etm : (L.params.zip xs.toArray).foldl (fun tmps (x : Tmp × Value) => tmps.setIfInBounds x.1 x.2) L.tmps = (ps.zip xs).foldl (fun tmps (q : Tmp × Value) => tmps.setIfInBounds q.1 q.2) L.tmps := by
    rw [l4]; simp
  refine roundIn_of_wpIn trivial ?_
  rw [l5, l6]
  show as.wpIn (Wd (some c)) N C.P _ _ w
  have S0 : SRel C ρ { tm := tm1, h, n, defs := [] } { tmps := (L.params.zip xs.toArray).foldl (fun tmps (x : Tmp × Value) => tmps.setIfInBounds x.1 x.2) L.tmps, defers := [] } w :=
    ⟨by rw [etm]; exact k1, H, hf, hg, .nil⟩
  refine wpIn_mono (c1 ρ _ w (some c) S0 (.some hρ) N) ?_
  rintro e a1 w1 ⟨x1, s1, ⟨rfl, hb⟩, rfl, ρ1, e1, S1⟩
  obtain ⟨h1, hb, c2⟩ := of_oK hb
  unfold setBusy at hb
  split at hb
  · rename_i pend1 tm2 ps2 as2 bd2 hl1
    cases hb
    have hρ1 := e1.le _ _ hρ
    obtain ⟨o1, m1, m2⟩ := S1.heap.at hl1 hρ1
    obtain ⟨L1, rfl, n0, n1, n2, n3, n4, n5, n6⟩ := m2.loop_inv
    refine ⟨_, run_beginRound m1 n1, ?_⟩
    have e2 : Evo ρ1 s1.h s1.n w1 ρ1 (s1.h.set l (.loop .busy pend1 tm2 ps2 as2 bd2)) s1.n (w1.putObj c (.loop { L1 with state := .busy })) :=
      Evo.turn S1.heap _ hl1 hρ1 rfl rfl (.loop n0 rfl n2 n3 n4 n5 n6)
    have S2 : SRel C ρ1 { s1 with h := s1.h.set l (.loop .busy pend1 tm2 ps2 as2 bd2) } a1 (w1.putObj c (.loop { L1 with state := .busy })) :=
      ⟨S1.tm, e2.hrel, S1.fr, S1.glob, S1.defs⟩
    refine wpIn_mono (c2 ρ1 a1 _ (some c) S2 (.some hρ1) N) ?_
    rintro e a2 w2 ⟨x, s2, he, rfl, ρ2, e3, S3⟩
    obtain ⟨⟨v, h', n'⟩, he, hK⟩ := of_oK he
    obtain ⟨y, w3, q1, q2, q3⟩ := endRound_run (C := C) he S3.heap (e3.le _ _ hρ1)
    have fin : ∃ v h' n', K v h' n' ∧ Gives ρ h n w v h' n' (.returned y) w3 := ⟨v, h', n', hK, ρ2, y, rfl, e1.trans (e2.trans (e3.trans q2)), q3⟩
    cases x <;> exact ⟨y, w3, q1, fin⟩
  · cases hb
end Go.Ev
