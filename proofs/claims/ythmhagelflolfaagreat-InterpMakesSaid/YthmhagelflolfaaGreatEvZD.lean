/- A closed call that answers a slice of scalars: in whatever memory, a new block. -/
import Derived.Test.YthmhagelflolfaaGreatEvZC
namespace Go.Ev

def scalarL : List V → Option (List Value)
  | [] => some []
  | .s x :: vs => (scalarL vs).bind fun l => some (x :: l)
  | _ => none
def rowOf (r : V × Heap) : Option (List Value × Nat × Nat × Nat × Bool × Nat) :=
  match r.1 with
  | .slice b off len cap op =>
    match r.2.get b with
    | some (.cells c es) => (scalarL c.toList).bind fun l => some (l, off, len, cap, op, es)
    | _ => none
  | _ => none
def answersRow (C : Ctx) (f : FuncId) : Option (List Value × Nat × Nat × Nat × Bool × Nat) := (call C 1000000000 f [] .leaf C.ng).bind fun r => rowOf (r.1, r.2.1)

theorem scalarL_rel {ρ ρ' : Ren} : ∀ {vs : List V} {l xs : List Value}, scalarL vs = some l → VRels ρ vs xs → vs = l.map V.s ∧ VRels ρ' (l.map V.s) xs
  | [], l, xs, h, hr => by cases h; cases hr; exact ⟨rfl, .nil⟩
  | v :: vs, l, xs, h, hr => by
    cases v <;> simp only [scalarL] at h
    case s x =>
      obtain ⟨m, hm, h⟩ := of_bind h
      cases h
      cases hr with
      | cons h1 h2 =>
        cases h1
        obtain ⟨e1, e2⟩ := scalarL_rel (ρ' := ρ') hm h2
        rw [e1]
        exact ⟨rfl, .cons (.s _) e2⟩
    all_goals cases h

theorem closedRow {P : Program} (hf : typesOk (Ctx.of P 0) = true) (hn : namesOk P = true) (hmix : P.follows .mixedOrders = true) {f : FuncId} {l : List Value} {off len cap es : Nat} {op : Bool}
    (ha : answersRow (Ctx.of P 0) f = some (l, off, len, cap, op, es)) (h : Heap) (n : Nat) :
    CallK (Ctx.of P 0) f [] h n fun v h' n' => v = .slice n off len cap op ∧ h' = h.set n (.cells (.lst (l.map V.s)) es) ∧ n' = n + 1 := by
  refine ⟨?_⟩
  intro ρ w xs h1 h2 h3 h4
  cases h1
  have hC := Ctx.of_ok P 0 hf hn
  unfold answersRow at ha
  obtain ⟨r, hr, ha⟩ := of_bind ha
  have hs := (sound hC hmix 1000000000).call f [] .leaf 0 r hr
  have hρ : Fr (fun _ => none) 0 := fun _ _ => rfl
  obtain ⟨k1, k2⟩ := hs (fun _ => none) w [] .nil (HRel.leaf _ w) hρ (fun g hg => by simp [Ctx.of] at hg)
  refine ⟨k1, fun N => (k2 N).mono ?_⟩
  rintro e w' ⟨ρ', y, rfl, ev, hy⟩
  have hb := ev.below
  obtain ⟨v, hh, m⟩ := r
  simp only [rowOf] at ha
  cases v <;> simp only at ha
  case slice b o2 len2 cap2 op2 =>
    simp only at ev hy
    cases hg : hh.get b with
    | none => rw [hg] at ha; cases ha
    | some ob =>
      rw [hg] at ha
      cases ob <;> simp only at ha
      case cells c es2 =>
        obtain ⟨l2, hl2, ha⟩ := of_bind ha
        cases ha
        obtain ⟨c0, sh, ex, x, q1, q2, q3⟩ := ev.hrel.obj b _ hg
        have hfresh : w.heap.size ≤ c0 := by
          rcases ev.dom b _ _ hg rfl q1 with ⟨b0, o0, x0, hx, _⟩ | hx
          · simp [Tree.get] at hx
          · exact hx
        cases hy with
        | slice hρb hl ho =>
          rw [q1] at hρb
          cases hρb
          refine ⟨_, _, _, ⟨rfl, rfl, rfl⟩, ρ.put n (c0, sh, ex), _, rfl, ?_, .slice (by unfold Ren.put; rw [if_pos rfl]) hl ho⟩
          have hle : ρ.le (ρ.put n (c0, sh, ex)) := Ren.le_put (h3 n (Nat.le_refl _))
          have hold : ∀ b' o', h.get b' = some o' → b' ≠ n := fun b' o' hb' e => by
            subst e
            obtain ⟨_, _, _, _, q, _⟩ := h2.obj _ _ hb'
            rw [h3 _ (Nat.le_refl _)] at q; cases q
          have h2' := h2.below hb
          refine ⟨hle, ?_, by omega, ⟨?_, ?_⟩, hb.size, fun c hc _ => hb.block c hc, ?_, ?_, ⟨hb.tape, hb.os, hb.output⟩⟩
          · intro b' x' hb' hn'
            unfold Ren.put at hb'
            split at hb'
            · omega
            · rw [hn'] at hb'; cases hb'
          · intro b' o' hb'
            rw [Tree.get_set] at hb'
            split at hb'
            · rename_i e
              subst e
              cases hb'
              refine ⟨c0, sh, ex, x, by unfold Ren.put; rw [if_pos rfl], q2, ?_⟩
              cases q3 with
              | cells hok pre mid post ha hp hm hc hx hz =>
                exact .cells trivial pre mid post ha hp (scalarL_rel hl2 hm).2 hc hx hz
            · obtain ⟨c', sh', ex', x', p1, p2, p3⟩ := h2'.obj b' o' hb'
              exact ⟨c', sh', ex', x', hle _ _ p1, p2, p3.mono hle⟩
          · have key : ∀ b' o', b' ≠ n → (h.set n (.cells (.lst (l.map V.s)) es)).get b' = some o' → ∀ x', ρ.put n (c0, sh, ex) b' = some x' → x'.1 ≠ c0 := by
              intro b' o' hne hb' x' hx' e
              rw [Tree.get_set, if_neg hne] at hb'
              unfold Ren.put at hx'
              rw [if_neg hne] at hx'
              have := h2.lt hb' hx'
              omega
            intro b1 b2 o1 o2 x1 x2 g1 g2 ho hx1 hx2 he
            by_cases e1 : b1 = n
            · by_cases e2 : b2 = n
              · rw [e1, e2]
              · subst e1
                have : x1 = (c0, sh, ex) := by unfold Ren.put at hx1; rw [if_pos rfl] at hx1; cases hx1; rfl
                exact absurd (by rw [← he, this]) (key b2 o2 e2 g2 x2 hx2)
            · by_cases e2 : b2 = n
              · subst e2
                have : x2 = (c0, sh, ex) := by unfold Ren.put at hx2; rw [if_pos rfl] at hx2; cases hx2; rfl
                exact absurd (by rw [he, this]) (key b1 o1 e1 g1 x1 hx1)
              · rw [Tree.get_set, if_neg e1] at g1
                rw [Tree.get_set, if_neg e2] at g2
                unfold Ren.put at hx1 hx2
                rw [if_neg e1] at hx1
                rw [if_neg e2] at hx2
                exact h2.inj b1 b2 o1 o2 x1 x2 g1 g2 ho hx1 hx2 he
          · intro b' o' x' hb' ho' hx'
            by_cases e : b' = n
            · subst e
              unfold Ren.put at hx'
              rw [if_pos rfl] at hx'
              cases hx'
              exact .inr hfresh
            · rw [Tree.get_set, if_neg e] at hb'
              unfold Ren.put at hx'
              rw [if_neg e] at hx'
              exact .inl ⟨b', o', x', hb', ho', hx', rfl⟩
          · intro b' o' hb' ho'
            rw [Tree.get_set] at hb'
            split at hb'
            · cases hb'; cases ho'
            · exact hb'
      all_goals cases ha
  all_goals cases ha

/-! ### A call with scalars that answers scalars -/
def answersTup (C : Ctx) (f : FuncId) (args : List Value) : Option (List Value) := (call C 1000000000 f (args.map V.s) .leaf C.ng).bind fun r => match r.1 with | .tup vs => scalarL vs | _ => none
def answersOne (C : Ctx) (f : FuncId) (args : List Value) : Option Value := (call C 1000000000 f (args.map V.s) .leaf C.ng).bind fun r => match r.1 with | .s x => some x | _ => none
theorem VRels_sRev {ρ : Ren} : ∀ {l xs : List Value}, VRels ρ (l.map V.s) xs → xs = l
  | [], _, h => by cases h; rfl
  | x :: l, _, h => by
    cases h with
    | cons h1 h2 => cases h1; rw [VRels_sRev h2]
theorem closedTup {P : Program} (hf : typesOk (Ctx.of P 0) = true) (hn : namesOk P = true) (hmix : P.follows .mixedOrders = true) {f : FuncId} {args xs : List Value}
    (ha : answersTup (Ctx.of P 0) f args = some xs) (h : Heap) (n : Nat) : CallK (Ctx.of P 0) f (args.map V.s) h n fun v h' n' => v = .tup (xs.map V.s) ∧ h' = h ∧ n' = n := by
  refine ⟨?_⟩
  intro ρ w ys h1 h2 h3 h4
  have hys := VRels_sRev h1
  subst hys
  have hC := Ctx.of_ok P 0 hf hn
  obtain ⟨r, hr, ha⟩ := of_bind ha
  have hs := (sound hC hmix 1000000000).call f (ys.map V.s) .leaf 0 r hr
  have hρ : Fr (fun _ => none) 0 := fun _ _ => rfl
  obtain ⟨k1, k2⟩ := hs (fun _ => none) w ys (by have := VRels_s (ρ := fun _ => none) (fun x : Value => x) ys; simpa using this) (HRel.leaf _ w) hρ (fun g hg => by simp [Ctx.of] at hg)
  refine ⟨k1, fun N => (k2 N).mono ?_⟩
  rintro e w' ⟨ρ', y, rfl, ev, hy⟩
  have hb := ev.below
  obtain ⟨v, hh, m⟩ := r
  simp only at ha hy
  cases v <;> simp only at ha
  case tup vs =>
    cases hy with
    | tup hv =>
      obtain ⟨e1, e2⟩ := scalarL_rel (ρ' := ρ) ha hv
      exact ⟨_, h, n, ⟨rfl, rfl, rfl⟩, ρ, _, rfl, Evo.ofBelow h2 hb, .tup e2⟩
  all_goals cases ha
theorem closedOne {P : Program} (hf : typesOk (Ctx.of P 0) = true) (hn : namesOk P = true) (hmix : P.follows .mixedOrders = true) {f : FuncId} {args : List Value} {x : Value}
    (ha : answersOne (Ctx.of P 0) f args = some x) (h : Heap) (n : Nat) : CallK (Ctx.of P 0) f (args.map V.s) h n fun v h' n' => v = .s x ∧ h' = h ∧ n' = n := by
  refine ⟨?_⟩
  intro ρ w ys h1 h2 h3 h4
  have hys := VRels_sRev h1
  subst hys
  have hC := Ctx.of_ok P 0 hf hn
  obtain ⟨r, hr, ha⟩ := of_bind ha
  have hs := (sound hC hmix 1000000000).call f (ys.map V.s) .leaf 0 r hr
  have hρ : Fr (fun _ => none) 0 := fun _ _ => rfl
  obtain ⟨k1, k2⟩ := hs (fun _ => none) w ys (by have := VRels_s (ρ := fun _ => none) (fun x : Value => x) ys; simpa using this) (HRel.leaf _ w) hρ (fun g hg => by simp [Ctx.of] at hg)
  refine ⟨k1, fun N => (k2 N).mono ?_⟩
  rintro e w' ⟨ρ', y, rfl, ev, hy⟩
  have hb := ev.below
  obtain ⟨v, hh, m⟩ := r
  simp only at ha hy
  cases v <;> simp only at ha
  case s z =>
    cases ha
    cases hy
    exact ⟨_, h, n, ⟨rfl, rfl, rfl⟩, ρ, _, rfl, Evo.ofBelow h2 hb, .s _⟩
  all_goals cases ha
end Go.Ev
