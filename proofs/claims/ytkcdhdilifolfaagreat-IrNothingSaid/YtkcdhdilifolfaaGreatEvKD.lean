/- Drawn regions in the calculus. -/
import Derived.Test.YtkcdhdilifolfaaGreatEvKA
namespace Go.Ev
variable {C : Ctx}

/-- What a call answers, when it answers but this. -/
def CallD (C : Ctx) (f : FuncId) (args : List V) (h : Heap) (n : Nat) (v : V) (h' : Heap) (n' : Nat) : Prop :=
  CallK C f args h n fun a b c => a = v ∧ b = h' ∧ c = n'
theorem CallD.sound {f : FuncId} {args : List V} {h : Heap} {n : Nat} {v : V} {h' : Heap} {n' : Nat} (hd : CallD C f args h n v h' n') : CallSound C f args h n v h' n' := by
  intro ρ w xs h1 h2 h3 h4
  obtain ⟨k1, k2⟩ := CallK.run hd ρ w xs h1 h2 h3 h4
  refine ⟨k1, fun N => (k2 N).mono ?_⟩
  rintro e w' ⟨a, b, c, ⟨rfl, rfl, rfl⟩, g⟩
  exact g

/-- An act, with one answer. -/
def actD (C : Ctx) (ev : Operand → Option V) (o : Oper) (h : Heap) (n : Nat) (K : V → Heap → Nat → Prop) : Prop :=
  match o.op with
  | .store t a x => oK ((ev a).bind asPtr) fun p => oK (ev x) fun v => oK (store C h t p.1 p.2 v) fun h => K undefV h n
  | .insert t m k x | .mapUpdate t m k x => oK (ev m) fun m => oK (ev k) fun k => oK (ev x) fun x => oK (mapUpdate C h t m k x) fun h => K undefV h n
  | .call c => oK (evs ev c.args.toList) fun args =>
    match c.callee with
    | .value f => oK (ev f) fun f => oK (callFn0 f args) fun q => ∃ v h' n', CallD C q.1 q.2 h n v h' n' ∧ K v h' n'
    | .builtin .append => match args with
      | [a, x] => oK (c.argTypes[0]?) fun t0 => oK (c.argTypes[1]?) fun t1 => oK (append C h n t0 t1 a x) fun r => K r.1 r.2.1 r.2.2
      | _ => False
    | .builtin .copy => match args with
      | [a, x] => oK (c.argTypes[0]?) fun t0 => oK (copy C h t0 a x) fun r => K r.1 r.2 n
      | _ => False
    | _ => False
  | _ => False
where
  /-- The function that a value is, and what it is called with. -/
  callFn0 (f : V) (args : List V) : Option (FuncId × List V) :=
    match f with
    | .func (.func g) first caps => match C.X.get g with
      | some true => none
      | _ => some (g, (first ++ args) ++ caps)
    | _ => none

theorem actD_sound (hC : C.Ok) {o : Oper} {tm : Tm} {h : Heap} {n : Nat} {K : V → Heap → Nat → Prop} (hw : actD C (evalT C tm) o h n K) :
    ∃ v h' n', ActSound C o tm h n v h' n' ∧ K v h' n' := by
  have val : ∀ {v : V} {h' : Heap} {n' : Nat}, act C (evalT C tm) o h n = some (.val v h' n') → ActSound C o tm h n v h' n' := by
    intro v h' n' hr
    refine actSound_of hC hr ?_ ?_ ?_
    · rintro _ _ _ e; cases e; exact ⟨rfl, rfl, rfl⟩
    · rintro _ _ e; cases e
    · rintro _ _ e; cases e
  unfold actD at hw
  split at hw
  · rename_i t a x e
    obtain ⟨p, h1, hw⟩ := of_oK hw
    obtain ⟨v, h2, hw⟩ := of_oK hw
    obtain ⟨h', h3, hw⟩ := of_oK hw
    obtain ⟨u, h4, h5⟩ := of_bind h1
    exact ⟨_, _, _, val (by simp only [act, e, h4, h5, h2, h3, Option.bind_some]), hw⟩
  · rename_i t m k x e
    obtain ⟨m', h1, hw⟩ := of_oK hw
    obtain ⟨k', h2, hw⟩ := of_oK hw
    obtain ⟨x', h3, hw⟩ := of_oK hw
    obtain ⟨h', h4, hw⟩ := of_oK hw
    exact ⟨_, _, _, val (by simp only [act, e, h1, h2, h3, h4, Option.bind_some]), hw⟩
  · rename_i t m k x e
    obtain ⟨m', h1, hw⟩ := of_oK hw
    obtain ⟨k', h2, hw⟩ := of_oK hw
    obtain ⟨x', h3, hw⟩ := of_oK hw
    obtain ⟨h', h4, hw⟩ := of_oK hw
    exact ⟨_, _, _, val (by simp only [act, e, h1, h2, h3, h4, Option.bind_some]), hw⟩
  · rename_i c e
    obtain ⟨args, h1, hw⟩ := of_oK hw
    split at hw
    · rename_i f ec
      obtain ⟨fv, h2, hw⟩ := of_oK hw
      obtain ⟨q, h3, v, h', n', hd, hw⟩ := of_oK hw
      refine ⟨v, h', n', ?_, hw⟩
      unfold actD.callFn0 at h3
      split at h3
      · rename_i g first caps
        split at h3
        · cases h3
        · rename_i hx
          cases h3
          have hr : act C (evalT C tm) o h n = some (.enter g ((first ++ args) ++ caps)) := by
            simp only [act, e, h1, ec, h2, Option.bind_some, callFn]
          refine actSound_of hC hr ?_ ?_ ?_
          · rintro _ _ _ e; cases e
          · rintro _ _ e; cases e; exact hd.sound
          · rintro _ _ e; cases e
      · cases h3
    · rename_i ec
      split at hw
      · rename_i a x
        obtain ⟨t0, h2, hw⟩ := of_oK hw
        obtain ⟨t1, h3, hw⟩ := of_oK hw
        obtain ⟨r, h4, hw⟩ := of_oK hw
        exact ⟨_, _, _, val (by simp only [act, e, h1, ec, h2, h3, h4, Option.bind_some]), hw⟩
      · exact hw.elim
    · rename_i ec
      split at hw
      · rename_i a x
        obtain ⟨t0, h2, hw⟩ := of_oK hw
        obtain ⟨r, h4, hw⟩ := of_oK hw
        exact ⟨_, _, _, val (by simp only [act, e, h1, ec, h2, h4, Option.bind_some]), hw⟩
      · exact hw.elim
    · exact hw.elim
  · exact hw.elim

def drawW (C : Ctx) (p : Plan) (ops : List Oper) (n0 : Nat) : List Oper → Nat → DS → (DS → Prop) → Prop
  | [], _, d, K => K d
  | o :: rest, i, d, K =>
    match kindOf C o with
    | .quiet => oK (bif wantedT ops d.tm o then rdN C (evalT C d.tm) o .leaf else some undefV) fun v => putW d.tm o.dst v fun tm => drawW C p ops n0 rest (i + 1) { d with tm } K
    | .read => bif wantedT ops d.tm o then
        oK (topStage d.stages) fun t => oK (rdN C (evalT C d.tm) o (withMade (p.preds.getD i 0) t.joined d.made t.h)) fun v => putW d.tm o.dst v fun tm =>
          drawW C p ops n0 rest (i + 1) { d with tm, rds := { i, o, tm := d.tm, v } :: d.rds } K
      else putW d.tm o.dst undefV fun tm => drawW C p ops n0 rest (i + 1) { d with tm } K
    | .make => bif wantedT ops d.tm o then
        makeO C (evalT C d.tm) o (n0 + i) fun v ob => putW d.tm o.dst v fun tm => drawW C p ops n0 rest (i + 1) { d with tm, made := { i, id := n0 + i, o := ob } :: d.made } K
      else putW d.tm o.dst undefV fun tm => drawW C p ops n0 rest (i + 1) { d with tm } K
    | .act => oK (topStage d.stages) fun t => bif wantedT ops d.tm o then
        actD C (evalT C d.tm) o (withMade (p.preds.getD i 0) t.joined d.made t.h) t.n fun v h n => putW d.tm o.dst v fun tm =>
          drawW C p ops n0 rest (i + 1) { d with tm, stages := { h, joined := joinMade (p.preds.getD i 0) d.made t.joined, n } :: d.stages } K
      else putW d.tm o.dst undefV fun tm => drawW C p ops n0 rest (i + 1) { d with tm, stages := t :: d.stages } K

theorem drawW_facts (hC : C.Ok) {L : List Oper} {p : Plan} (hp : PlanOk C L p) {n0 : Nat} {K : DS → Prop} : ∀ (l L0 : List Oper) (i t : Nat) (d : DS), L = L0 ++ l → L0.length = i → drawW C p L n0 l i d K →
    (∀ m ∈ d.made, m.i < i) → d.stages.length = t + 1 →
    ∃ d', K d' ∧ ∃ lm ls lr, d'.made = lm ++ d.made ∧ d'.stages = ls ++ d.stages ∧ d'.rds = lr ++ d.rds ∧ (∀ m ∈ lm, i ≤ m.i ∧ m.i < L.length ∧ m.id = n0 + m.i) ∧ ls.length = (actsOf C i l).length ∧
      Chain C p L n0 d'.made d'.stages.reverse d'.rds l i t d.tm d'.tm := by
  intro l
  induction l with
  | nil =>
    intro L0 i t d _ _ h _ _
    exact ⟨d, h, [], [], [], rfl, rfl, rfl, by simp, rfl, .nil _ _ _⟩
  | cons o rest ih =>
    intro L0 i t d hL h0 h hmade hst
    have hLi : L[i]? = some o := by rw [hL, List.getElem?_append_right (by omega), h0]; simp
    have hlen : i < L.length := (List.getElem?_eq_some_iff.1 hLi).1
    have hL' : L = (L0 ++ [o]) ++ rest := by rw [hL]; simp
    have h0' : (L0 ++ [o]).length = i + 1 := by simp [h0]
    have plain : ∀ (tm : Tm) (v : V) (rds : List Rd), d.tm.put o.dst v = some tm → kindOf C o ≠ .act → (∃ x, rds = x ++ d.rds) →
        drawW C p L n0 rest (i + 1) { d with tm, rds } K →
        (∀ d' : DS, (∃ lr, d'.rds = lr ++ rds) → mO d'.made i = none → OpFact C p L n0 d'.made d'.stages.reverse d'.rds i t o d.tm v) →
        ∃ d', K d' ∧ ∃ lm ls lr, d'.made = lm ++ d.made ∧ d'.stages = ls ++ d.stages ∧ d'.rds = lr ++ d.rds ∧ (∀ m ∈ lm, i ≤ m.i ∧ m.i < L.length ∧ m.id = n0 + m.i) ∧ ls.length = (actsOf C i (o :: rest)).length ∧
          Chain C p L n0 d'.made d'.stages.reverse d'.rds (o :: rest) i t d.tm d'.tm := by
      intro tm v rds hput hk hx hrest hfact
      obtain ⟨x, rfl⟩ := hx
      obtain ⟨d', hK, lm, ls, lr, g1, g2, g3, g4, g5, g6⟩ := ih (L0 ++ [o]) (i + 1) t _ hL' h0' hrest (fun m hm => by have := hmade m hm; omega) hst
      have hno : mO d'.made i = none := by
        rw [g1]
        refine mO_none fun m hm => ?_
        rcases List.mem_append.1 hm with hm | hm
        · have := (g4 m hm).1; omega
        · have := hmade m hm; omega
      have hf := hfact d' ⟨lr, g3⟩ hno
      refine ⟨d', hK, lm, ls, lr ++ x, g1, g2, by simpa using g3, fun m hm => ⟨by have := (g4 m hm).1; omega, (g4 m hm).2⟩, ?_, .cons hf hput ?_⟩
      · rw [g5]; simp only [actsOf]
      · split
        · rename_i hk'; exact absurd hk' hk
        · exact g6
    simp only [drawW] at h
    split at h
    · rename_i hk
      obtain ⟨v, hv, h⟩ := of_oK h
      obtain ⟨tm, hput, h2⟩ := of_oK h
      cases hw : wantedT L d.tm o with
      | false =>
        rw [hw] at hv
        have e : undefV = v := Option.some.inj hv
        subst e
        exact plain tm _ d.rds hput (by rw [hk]; simp) ⟨[], rfl⟩ h2 fun d' _ hM => .skip hw rfl hM (.inl (by rw [hk]; simp))
      | true =>
        rw [hw] at hv
        exact plain tm _ d.rds hput (by rw [hk]; simp) ⟨[], rfl⟩ h2 fun d' _ hM => .quiet hw (by rw [hk]; simp) (of_rdN hv) hM
    · rename_i hk
      cases hw : wantedT L d.tm o with
      | false =>
        rw [hw] at h
        simp only [cond_false] at h
        obtain ⟨tm, hput, h⟩ := of_oK h
        exact plain tm _ d.rds hput (by rw [hk]; simp) ⟨[], rfl⟩ h fun d' _ hM => .skip hw rfl hM (.inl (by rw [hk]; simp))
      | true =>
        rw [hw] at h
        simp only [cond_true] at h
        obtain ⟨st, hs, h⟩ := of_oK h
        obtain ⟨v, hv, h⟩ := of_oK h
        obtain ⟨tm, hput, h⟩ := of_oK h
        exact plain tm _ ({ i, o, tm := d.tm, v } :: d.rds) hput (by rw [hk]; simp) ⟨[_], rfl⟩ h fun d' ⟨lr, e⟩ hM => .read hw (by rw [hk]; simp) (by rw [e]; simp) hM
    · rename_i hk
      cases hw : wantedT L d.tm o with
      | false =>
        rw [hw] at h
        simp only [cond_false] at h
        obtain ⟨tm, hput, h⟩ := of_oK h
        exact plain tm _ d.rds hput (by rw [hk]; simp) ⟨[], rfl⟩ h fun d' _ hM => .skip hw rfl hM (.inl (by rw [hk]; simp))
      | true =>
        rw [hw] at h
        simp only [cond_true] at h
        obtain ⟨mm, hmm, h⟩ := makeO_mk h
        obtain ⟨tm, hput, h⟩ := of_oK h
        obtain ⟨d', hK, lm, ls, lr, g1, g2, g3, g4, g5, g6⟩ := ih (L0 ++ [o]) (i + 1) t _ hL' h0' h (fun m hm => by
          rcases List.mem_cons.1 hm with rfl | hm
          · exact Nat.lt_succ_self _
          · have := hmade m hm; omega) hst
        have hyes : mO d'.made i = some mm.1 := by
          rw [g1, mO_append fun m hm => by have := (g4 m hm).1; omega]
          simp [mO, List.find?_cons]
        refine ⟨d', hK, lm ++ [⟨i, n0 + i, mm.1⟩], ls, lr, by rw [g1]; simp, g2, g3, ?_, ?_, .cons (.make hw (by rw [hk]; simp) mm hmm rfl hyes) hput ?_⟩
        · intro m hm
          rcases List.mem_append.1 hm with hm | hm
          · exact ⟨by have := (g4 m hm).1; omega, (g4 m hm).2⟩
          · simp at hm; subst hm; exact ⟨Nat.le_refl _, hlen, rfl⟩
        · simp only [actsOf, hk]; exact g5
        · rw [hk]; exact g6
    · rename_i hk
      obtain ⟨st, hs, h⟩ := of_oK h
      obtain ⟨tail, htail⟩ := topStage_some hs
      have ht : tail.length = t := by rw [htail] at hst; simpa using hst
      cases hw : wantedT L d.tm o with
      | false =>
        rw [hw] at h
        simp only [cond_false] at h
        obtain ⟨tm, hput, h⟩ := of_oK h
        obtain ⟨d', hK, lm, ls, lr, g1, g2, g3, g4, g5, g6⟩ := ih (L0 ++ [o]) (i + 1) (t + 1) _ hL' h0' h (fun m hm => by have := hmade m hm; omega) (by simp [hst])
        have hno : mO d'.made i = none := by
          rw [g1]
          refine mO_none fun m hm => ?_
          rcases List.mem_append.1 hm with hm | hm
          · have := (g4 m hm).1; omega
          · have := hmade m hm; omega
        simp only [htail] at g2
        have hG := rev_get2 ls tail st st
        rw [← g2, ht] at hG
        refine ⟨d', hK, lm, ls ++ [st], lr, g1, by rw [g2, htail]; simp, g3, fun m hm => ⟨by have := (g4 m hm).1; omega, (g4 m hm).2⟩, ?_, .cons (.skip hw rfl hno (.inr ⟨st, hG.1, hG.2⟩)) hput ?_⟩
        · simp only [actsOf, hk]; simp [g5]
        · rw [hk]; exact g6
      | true =>
        rw [hw] at h
        simp only [cond_true] at h
        obtain ⟨v, hh, nn, hact, h⟩ := actD_sound hC h
        obtain ⟨tm, hput, h⟩ := of_oK h
        obtain ⟨d', hK, lm, ls, lr, g1, g2, g3, g4, g5, g6⟩ := ih (L0 ++ [o]) (i + 1) (t + 1) _ hL' h0' h (fun m hm => by have := hmade m hm; omega) (by simp [hst])
        have hno : mO d'.made i = none := by
          rw [g1]
          refine mO_none fun m hm => ?_
          rcases List.mem_append.1 hm with hm | hm
          · have := (g4 m hm).1; omega
          · have := hmade m hm; omega
        have hbit : ∀ m ∈ lm, bit (p.preds.getD i 0) m.i = false := by
          intro m hm
          cases hb : bit (p.preds.getD i 0) m.i with
          | false => rfl
          | true => have := hp.preds.lt hLi _ hb; have := (g4 m hm).1; omega
        simp only [htail] at g2
        have hG := rev_get2 ls tail st { h := hh, joined := joinMade (p.preds.getD i 0) d.made st.joined, n := nn }
        rw [← g2, ht] at hG
        refine ⟨d', hK, lm, ls ++ [{ h := hh, joined := joinMade (p.preds.getD i 0) d.made st.joined, n := nn }], lr, g1, by rw [g2, htail]; simp, g3, fun m hm => ⟨by have := (g4 m hm).1; omega, (g4 m hm).2⟩, ?_,
          .cons (.act hw hk st _ hG.1 hG.2 (v := v) ?_ ?_ hno) hput ?_⟩
        · simp only [actsOf, hk]; simp [g5]
        · rw [g1, withMade_append hbit]; exact hact
        · rw [g1, joinMade_append hbit]
        · rw [hk]; exact g6

/-- What was read is there in all memories that it may meet. -/
def readAllP (C : Ctx) (made : List Made) (pred lo hi : Nat) (r : Rd) : Nat → List Stage → Prop
  | _, [] => True
  | k, s :: l => (bif Nat.ble lo k && Nat.ble k hi then rdN C (evalT C r.tm) r.o (withMade pred s.joined made s.h) = some r.v else True) ∧ readAllP C made pred lo hi r (k - 1) l
def readsP (C : Ctx) (p : Plan) (made : List Made) (stages : List Stage) : List Rd → Prop
  | [] => True
  | r :: l => readAllP C made (p.preds.getD r.i 0) (countIn (p.preds.getD r.i 0) p.acts) (countNotAhead p.preds r.i p.acts) r (stages.length - 1) stages ∧ readsP C p made stages l

theorem readAllP_spec {M : List Made} {pred lo hi : Nat} {r : Rd} : ∀ {l : List Stage} {K : Nat}, readAllP C M pred lo hi r K l → ∀ pos st, l[pos]? = some st → pos ≤ K → lo ≤ K - pos → K - pos ≤ hi →
    rdN C (evalT C r.tm) r.o (withMade pred st.joined M st.h) = some r.v
  | [], _, _, pos, st, h, _, _, _ => by simp at h
  | s :: l, K, h, pos, st, hp, hK, h1, h2 => by
    simp only [readAllP] at h
    cases pos with
    | zero =>
      simp at hp; subst hp
      have h := h.1
      have c1 : Nat.ble lo K = true := by simpa using h1
      have c2 : Nat.ble K hi = true := by simpa using h2
      rw [c1, c2] at h
      exact h
    | succ pos =>
      exact readAllP_spec h.2 pos st (by simpa using hp) (by omega) (by omega) (by omega)
theorem readsP_spec {p : Plan} {M : List Made} {S : List Stage} : ∀ {R : List Rd}, readsP C p M S R → ∀ r ∈ R, ∀ k st, S.reverse[k]? = some st →
    countIn (p.preds.getD r.i 0) p.acts ≤ k → k ≤ countNotAhead p.preds r.i p.acts → rdN C (evalT C r.tm) r.o (withMade (p.preds.getD r.i 0) st.joined M st.h) = some r.v
  | [], _, r, hr, _, _, _, _, _ => by simp at hr
  | x :: R, h, r, hr, k, st, hk, h1, h2 => by
    simp only [readsP] at h
    rcases List.mem_cons.1 hr with rfl | hr
    · have hlt : k < S.length := by have := (List.getElem?_eq_some_iff.1 hk).1; simpa using this
      rw [List.getElem?_reverse hlt] at hk
      refine readAllP_spec h.1 _ st hk (by omega) ?_ ?_ <;> omega
    · exact readsP_spec h.2 r hr k st hk h1 h2

def regionW (C : Ctx) (ops : List Oper) (s : St) (Q : X → St → Prop) : Prop :=
  oK (planOf C ops) fun p =>
    drawW C p ops s.n ops 0 { tm := s.tm, stages := [{ h := s.h, joined := 0, n := s.n + ops.length }], made := [], rds := [] } fun d =>
      oK (topStage d.stages) fun t => readsP C p d.made d.stages d.rds ∧ Q .normal { tm := d.tm, h := withMade (one ops.length - 1) t.joined d.made t.h, n := t.n, defs := s.defs }

theorem regionW_sound (hC : C.Ok) (hmix : C.P.follows .mixedOrders = true) {id : Nat} {ops : Array Oper} {s : St} {Q : X → St → Prop} (hw : regionW C ops.toList s Q) (rnd : Option Nat) : CodeK C rnd (.region id ops true) s Q := by
  obtain ⟨p, hp, hw⟩ := of_oK hw
  have hplan := planOf_spec hp
  obtain ⟨d, hK, lm, ls, lr, g1, g2, g3, g4, g5, g6⟩ := drawW_facts hC hplan (n0 := s.n) ops.toList [] 0 0 _ rfl rfl hw (by simp) rfl
  obtain ⟨t, ht, hch, hQ⟩ := of_oK hK
  have hlen : ops.toList.length = ops.size := by simp
  rw [hlen] at hQ g2
  obtain ⟨tmA, vA, k1, k2, k3⟩ := g6.funs
  simp only [List.append_nil] at g1 g3
  have hsize : ops.size = ops.toList.length := by simp
  have g : Reg C ops.toList p s d.made d.stages.reverse d.rds tmA vA := by
    refine ⟨hplan, k1, fun j o h => (k3 j o h).1, fun j o h => ?_, fun m hm => ?_, ?_, ?_, ?_⟩
    · obtain ⟨_, t', q1, q2⟩ := k3 j o h
      rw [Nat.zero_add] at q1 q2
      exact ⟨t', fun hk => by rw [hplan.acts]; exact (q1 hk).2, q2⟩
    · rw [g1] at hm; exact (g4 m hm).2
    · rw [List.length_reverse, g2, hplan.acts]; simp [g5]
    · rw [g2, ← hsize]; simp
    · intro r hr k st e1 e2 e3
      exact of_rdN (readsP_spec hch r hr k st e1 e2 e3)
  intro ρ a w r S hr N
  refine wpIn_mono ?_ (fun e a' w' (k : Post C ρ s w .normal { tm := d.tm, h := withMade (one ops.size - 1) t.joined d.made t.h, n := t.n, defs := s.defs } e a' w') => ⟨_, _, hQ, k⟩)
  refine wpIn_region_any hmix ?_
  have hfin : ∀ mask k ρ' st listed a' w', Inv C ops.toList p s d.made d.stages.reverse vA ρ w.drew a.defers mask k ρ' st listed a' w' → (∀ j, j < ops.toList.length → listed.getD j false = true) →
      Post C ρ s w .normal { tm := d.tm, h := withMade (one ops.size - 1) t.joined d.made t.h, n := t.n, defs := s.defs } .normal a' w' := by
    intro mask k ρ' st listed a' w' I hall
    have hid : ∀ m ∈ d.made, m.id = s.n + m.i := fun m hm => (g.made m hm).2
    have hmlt : ∀ m ∈ d.made, m.i < ops.toList.length := fun m hm => (g.made m hm).1
    obtain ⟨tail, htail⟩ := topStage_some ht
    have hkq : k = tail.length := by
      have hl := g.glen
      rw [List.length_reverse, htail, List.length_cons] at hl
      have := I.kq
      by_cases e : k = p.acts.length
      · omega
      · exfalso
        have hlt : k < p.acts.length := by omega
        obtain ⟨x0, hx⟩ : ∃ x0, p.acts[k]? = some x0 := ⟨_, List.getElem?_eq_getElem hlt⟩
        have hmem := List.mem_of_getElem? hx
        rw [hplan.acts] at hmem
        obtain ⟨q, o, e1, e2, _⟩ := actsOf_mem.1 hmem
        have hxl : x0 < ops.toList.length := by
          have := (List.getElem?_eq_some_iff.1 e2).1
          omega
        have := (I.acts k _ hx).1 (hall _ hxl)
        omega
    have hst : st = t := by
      have := I.stage
      rw [hkq, htail] at this
      have e := rev_get [] tail t
      simp only [List.nil_append] at e
      rw [e] at this; cases this; rfl
    subst hst
    have hevo : Evo ρ s.h s.n w ρ' (withMade (one ops.size - 1) st.joined d.made st.h) st.n w' := by
      refine ((Evo.drew S.heap s.n).trans I.evo).congr fun b => ?_
      rw [withMade_get hid, withMade_get hid]
      have : ovr (one ops.size - 1) st.joined d.made s.n b = ovr mask st.joined d.made s.n b := by
        unfold ovr
        cases ho : mO d.made (b - s.n) with
        | none =>
          cases (Nat.ble s.n b && (bit (one ops.size - 1) (b - s.n) && !bit st.joined (b - s.n))) <;> cases (Nat.ble s.n b && (bit mask (b - s.n) && !bit st.joined (b - s.n))) <;> rfl
        | some o =>
          have hlt := mO_lt hmlt ho
          rw [bit_all (by omega), I.masked, hall _ hlt]
      rw [this]
    refine ⟨rfl, ρ', hevo, ⟨?_, hevo.hrel, I.fr, S.glob.mono hevo.le, by rw [I.defs]; exact S.defs.mono hevo.le⟩⟩
    obtain ⟨q1, q2⟩ := g.tm_get _ (Nat.le_refl _)
    rw [k2] at q1 q2
    refine ⟨by rw [I.tsize, q1], fun x => ?_⟩
    have : d.tm.get x = cur ops.toList s vA (fun q => listed.getD q false) x := by
      rw [q2]
      unfold cur
      split
      · rename_i q hq
        obtain ⟨q', o', e1, e2, _⟩ := writer_some hq
        have hlt := (List.getElem?_eq_some_iff.1 e2).1
        have hql : q < ops.toList.length := by omega
        show (bif Nat.blt q ops.toList.length then vA q else s.tm.get x) = bif listed.getD q false then vA q else s.tm.get x
        rw [hall q hql, show Nat.blt q ops.toList.length = true from by simpa using hql]
      · rfl
    show VRel ρ' (d.tm.get x) _
    rw [this]; exact I.tm x
  refine region_walk (ρ0 := ρ) (w0 := w.drew) (ds := a.defers) hC g S.glob rfl hfin ops.size 0 0 ρ { h := s.h, joined := 0, n := s.n + ops.size } (Array.replicate ops.size false) a w.drew ?_ ?_
  · have hrep : ∀ j, (Array.replicate ops.size false).getD j false = false := by intro j; simp [Array.getElem?_replicate]; split <;> rfl
    refine ⟨fun j => (by rw [bit_zero, hrep]), by simp, fun i j h => (by rw [hrep] at h; cases h), fun x y _ => (by rw [hrep]; simp), Nat.zero_le _, by rw [hsize]; exact g.g0, by rw [← hsize]; exact Nat.le_refl _,
      S.tm.size, fun x => ?_, rfl, ?_, fun j hj x hx => ?_, fun j h => (by rw [bit_zero] at h; cases h), fun j hj _ => ?_, fun b hb => S.fr b (by simp at hb; omega)⟩
    · have : cur ops.toList s vA (fun q => (Array.replicate ops.size false).getD q false) x = s.tm.get x := by
        unfold cur
        split
        · simp only [hrep]; rfl
        · rfl
      rw [this]; exact S.tm.get x
    · refine ((Evo.refl s.n (S.heap.drew)).congr fun b => ?_).bump (Nat.le_add_right _ _)
      rw [withMade_get (fun m hm => (g.made m hm).2)]
      unfold ovr
      rw [bit_zero]
      simp
    · rw [S.fr _ (Nat.le_add_right _ _)] at hx; cases hx
    · show s.h.get (s.n + j) = none
      cases hx : s.h.get (s.n + j) with
      | none => rfl
      | some o =>
        obtain ⟨c, sh, ex, x, q1, _⟩ := S.heap.obj _ o hx
        rw [S.fr _ (Nat.le_add_right _ _)] at q1; cases q1
  · unfold unl
    exact Nat.le_trans (List.countP_le_length) (by simp)

end Go.Ev
