/- The state of an activation; what soundness says. -/
import Derived.Test.YtkcdhdilifolfaaGreatEvQ
import Derived.Test.YtkcdhdilifolfaaGreatEvB
namespace Go.Ev
variable {C : Ctx}

/-! ### Temporaries -/
theorem TmRel.put {ρ : Ren} {tm tm' : Tm} {a : Act} {dst : Option Tmp} {v : V} {y : Value} (h : TmRel ρ tm a.tmps) (hp : tm.put dst v = some tm') (hv : VRel ρ v y) :
    TmRel ρ tm' (a.put dst y).tmps ∧ (a.put dst y).defers = a.defers := by
  unfold Tm.put at hp
  cases dst with
  | none => cases hp; exact ⟨h, rfl⟩
  | some d =>
    replace hp := of_cond_some hp
    obtain ⟨hlt, hp⟩ := hp
    cases hp
    have hlt : d < tm.n := by simpa using hlt
    refine ⟨⟨by simp [Act.put, h.size], fun i => ?_⟩, rfl⟩
    simp only [Act.put, Tm.get, Tree.get_set]
    by_cases e : i = d
    · subst e
      rw [if_pos rfl]
      have : i < a.tmps.size := by rw [h.size]; exact hlt
      simp [this]
      exact hv
    · rw [if_neg e]
      have hi := h.get i
      unfold Tm.get at hi
      simp only [Array.getD_eq_getD_getElem?, Array.getElem?_setIfInBounds_ne (fun x => e x.symm)]
      simpa using hi

theorem evalT_rel {ρ : Ren} (hg : GRel C ρ) {tm : Tm} {a : Act} {x : Operand} {u : V} (ht : ∀ t, x = .tmp t → VRel ρ (tm.get t) (a.tmps.getD t undef)) (h : evalT C tm x = some u) : VRel ρ u (a.eval x) := by
  cases x with
  | tmp t => simp only [evalT] at h; cases h; exact ht t rfl
  | const v => exact (ofValue_rel ρ h).1
  | global g =>
    simp only [evalT] at h
    obtain ⟨h1, h2⟩ := of_cond_some h
    cases h2
    exact .ptr (off := 0) (hg g (by simpa using h1))
  | func f => simp only [evalT] at h; cases h; exact .func (xs := []) (ys := []) .nil .nil

theorem VRel.bool_inv {ρ : Ren} {v : V} {b : Bool} (h : VRel ρ v (.bool b)) : v = .s (.bool b) := by cases h; rfl

theorem wantedT_eq {ρ : Ren} {ops : Array Oper} {tm : Tm} {a : Act} {o : Oper} (hsz : a.tmps.size = tm.n)
    (hg : ∀ t, t ∈ guardTmps ops.toList o → VRel ρ (tm.get t) (a.tmps.getD t undef)) : Region.wanted o (yielded ops a.tmps) = wantedT ops.toList tm o := by
  unfold Region.wanted wantedT
  unfold guardTmps at hg
  cases hgd : o.guard with
  | none => rfl
  | some q =>
    obtain ⟨j, want⟩ := q
    simp only [hgd, Array.getElem?_toList] at hg
    simp only [yielded, Array.getElem?_toList]
    cases hd : (ops[j]?).bind (·.dst) with
    | none => simp
    | some t =>
      rw [hd] at hg
      have hv := hg t (by simp)
      simp only [Option.bind_some]
      have hno : ∀ y : Option Value, (∀ b, y ≠ some (.bool b)) → ((match y with | some (.bool b) => some b | _ => none : Option Bool) == some want) = false := by
        intro y hy
        split
        · exact absurd rfl (hy _)
        · rfl
      by_cases ht : t < tm.n
      · have hlt : t < a.tmps.size := by rw [hsz]; exact ht
        have hbl : Nat.blt t tm.n = true := by simpa using ht
        have e : a.tmps.getD t undef = a.tmps[t] := by simp [hlt]
        rw [e] at hv
        have e2 : a.tmps[t]? = some a.tmps[t] := by simp [hlt]
        rw [e2]
        generalize a.tmps[t] = y at hv
        by_cases hb : ∃ b, y = .bool b
        · obtain ⟨b, rfl⟩ := hb
          rw [hv.bool_inv, hbl]
          cases b <;> cases want <;> rfl
        · refine Eq.trans (hno (some y) (fun b e => hb ⟨b, by simpa using e⟩)) ?_
          split
          · rename_i b e3
            rw [e3] at hv
            cases hv
            exact absurd ⟨_, rfl⟩ hb
          · rfl
      · have hbl : Nat.blt t tm.n = false := by simpa using Nat.le_of_not_lt ht
        have hge : a.tmps[t]? = none := by rw [Array.getElem?_eq_none]; rw [hsz]; exact Nat.le_of_not_lt ht
        rw [hge]
        refine Eq.trans (hno none (by simp)) ?_
        split
        · rw [hbl]; rfl
        · rfl

/-! ### States -/
/-- The marks of deferred calls. -/
inductive DRel (ρ : Ren) : List Nat → List Deferred → Prop
  | nil : DRel ρ [] []
  | cons {d c sh ex : Nat} {ds : List Nat} {es : List Deferred} (h : ρ d = some (c, sh, ex)) (hs : DRel ρ ds es) : DRel ρ (d :: ds) ({ target := .collected c, args := #[] } :: es)
theorem DRel.mono {ρ ρ' : Ren} (hle : ρ.le ρ') {ds : List Nat} {es : List Deferred} (h : DRel ρ ds es) : DRel ρ' ds es := by
  induction h with
  | nil => exact .nil
  | cons h hs ih => exact .cons (hle _ _ h) ih

structure SRel (C : Ctx) (ρ : Ren) (s : St) (a : Act) (w : World) : Prop where
  tm : TmRel ρ s.tm a.tmps
  heap : HRel ρ s.h w
  fr : Fr ρ s.n
  glob : GRel C ρ
  defs : DRel ρ s.defs a.defers

def xOf : X → Exit
  | .normal => .normal
  | .exit id => .exit id
  | .goto l => .goto l
  | .ret => .ret

def Post (C : Ctx) (ρ : Ren) (s : St) (w : World) (x : X) (s' : St) : Exit → Act → World → Prop :=
  fun e a' w' => e = xOf x ∧ ∃ ρ', Evo ρ s.h s.n w ρ' s'.h s'.n w' ∧ SRel C ρ' s' a' w'

inductive RRel (ρ : Ren) : Option Nat → Option Nat → Prop
  | none : RRel ρ none none
  | some {l c sh ex : Nat} (h : ρ l = some (c, sh, ex)) : RRel ρ (some l) (some c)
theorem RRel.mono {ρ ρ' : Ren} (hle : ρ.le ρ') {a b : Option Nat} (h : RRel ρ a b) : RRel ρ' a b := by
  cases h with
  | none => exact .none
  | some h => exact .some (hle _ _ h)

/-- A value is come to. -/
def Gives (ρ : Ren) (h : Heap) (n : Nat) (w : World) (v : V) (h' : Heap) (n' : Nat) : Ending → World → Prop :=
  fun e w' => ∃ ρ' y, e = .returned y ∧ Evo ρ h n w ρ' h' n' w' ∧ VRel ρ' v y

def CallSound (C : Ctx) (f : FuncId) (args : List V) (h : Heap) (n : Nat) (v : V) (h' : Heap) (n' : Nat) : Prop :=
  ∀ ρ w xs, VRels ρ args xs → HRel ρ h w → Fr ρ n → GRel C ρ →
    (callFunc f xs.toArray).run C.P w = .ok (.enter f xs.toArray) w ∧ ∀ N, CallsIn Fence.wide N C.P f xs.toArray w (Gives ρ h n w v h' n')

def RoundSound (C : Ctx) (l : Nat) (args : List V) (h : Heap) (n : Nat) (v : V) (h' : Heap) (n' : Nat) : Prop :=
  ∀ ρ w c sh ex xs, ρ l = some (c, sh, ex) → VRels ρ args xs → HRel ρ h w → Fr ρ n → GRel C ρ →
    ∃ f tmps assign body, (Instr.yield c xs.toArray).run C.P w = .ok (.round c f tmps assign body) w ∧
      ∀ N, RoundIn Fence.wide N C.P c f tmps assign body w (Gives ρ h n w v h' n')

/-- What an act achieves: of any temporaries in which its operands stand for those of tm. -/
def ActSound (C : Ctx) (o : Oper) (tm : Tm) (h : Heap) (n : Nat) (v : V) (h' : Heap) (n' : Nat) : Prop :=
  ∀ ρ a w r, (∀ x ∈ o.op.operands, ∀ u, evalT C tm x = some u → VRel ρ u (a.eval x)) → HRel ρ h w → Fr ρ n → GRel C ρ →
    ∀ N next Q, (∀ ρ' y w', Evo ρ h n w ρ' h' n' w' → VRel ρ' v y → next (a.put o.dst y) w') → o.wpIn (Wd r) N C.P a w next Q

theorem about_wd (r : Option Nat) (P : Program) (w : World) (o : Oper) (a : Act) : ∀ f, o.about P w a.eval = some f → (Wd r).fn f := fun _ _ => trivial

/-- Kinds of operations that no frame looks at apart. -/
theorem act_noDefer {ev : Operand → Option V} {o : Oper} {h : Heap} {n : Nat} {r : Out} (hr : act C ev o h n = some r) : ∀ c, o.op ≠ .defer c := by
  intro c e; simp [act, e] at hr
theorem rd_noDefer {ev : Operand → Option V} {o : Oper} {h : Heap} {v : V} (hr : rd C ev o h = some v) : ∀ c, o.op ≠ .defer c := by
  intro c e; simp [rd, e] at hr
theorem mk_noDefer {ev : Operand → Option V} {o : Oper} {m : O × Mk} (hr : mk C ev o = some m) : ∀ c, o.op ≠ .defer c := by
  intro c e; simp [mk, e] at hr

/-- An operation that answers at once. -/
theorem wpIn_value {o : Oper} {a : Act} {w w' : World} {y : Value} {r : Option Nat} {N : Nat} {P : Program} {next : Act → World → Prop} {Q : Exit → Act → World → Prop}
    (hd : ∀ c, o.op ≠ .defer c) (h : (execOp a.eval o).run P w = .ok (.value y) w') (hn : next (a.put o.dst y) w') : o.wpIn (Wd r) N P a w next Q := by
  refine ⟨about_wd r P w o a, ?_⟩
  rw [Oper.semAt_eq _ _ _ hd, h]
  exact hn

theorem actSound_of {o : Oper} {tm : Tm} {h : Heap} {n : Nat} {out : Out} (hC : C.Ok) (hr : act C (evalT C tm) o h n = some out) {v : V} {h' : Heap} {n' : Nat}
    (hv : ∀ v1 h1 n1, out = .val v1 h1 n1 → v = v1 ∧ h' = h1 ∧ n' = n1) (hc : ∀ f args, out = .enter f args → CallSound C f args h n v h' n')
    (hy : ∀ l args, out = .round l args → RoundSound C l args h n v h' n') : ActSound C o tm h n v h' n' := by
  intro ρ a w r hev H hf hg N next Q hnext
  have := act_run hC H hf hr (σ := a.eval) hev
  have hd := act_noDefer hr
  refine ⟨about_wd r C.P w o a, ?_⟩
  rw [Oper.semAt_eq _ _ _ hd]
  cases out with
  | val v1 h1 n1 =>
    obtain ⟨rfl, rfl, rfl⟩ := hv _ _ _ rfl
    obtain ⟨y, w', ρ', hrun, e1, e2⟩ := this
    rcases hrun with hrun | ⟨hrun, rfl⟩
    · rw [hrun]; exact hnext _ _ _ e1 e2
    · rw [hrun]; exact hnext _ _ _ e1 e2
  | enter f args =>
    obtain ⟨xs, hrun, e1⟩ := this
    obtain ⟨g1, g2⟩ := hc f args rfl ρ w xs e1 H hf hg
    rw [hrun, g1]
    refine ⟨fun h => by simp [Fence.wide] at h, ?_⟩
    rw [callsIn_wd]
    refine CallsIn.mono (g2 _) ?_
    rintro e w' ⟨ρ', y, rfl, k1, k2⟩
    exact hnext _ _ _ k1 k2
  | round l args =>
    obtain ⟨c, sh, ex, xs, hl, hrun, e1⟩ := this
    obtain ⟨f, tmps, as, bd, g1, g2⟩ := hy l args rfl ρ w c sh ex xs hl e1 H hf hg
    rw [hrun, g1]
    refine ⟨fun h => by simp [Fence.wide] at h, ?_⟩
    rw [roundIn_wd]
    refine RoundIn.mono (g2 _) ?_
    rintro e w' ⟨ρ', y, rfl, k1, k2⟩
    exact hnext _ _ _ k1 k2

end Go.Ev
