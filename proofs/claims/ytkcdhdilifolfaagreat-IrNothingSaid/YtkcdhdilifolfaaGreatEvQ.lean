/- Loops unrolled and scopes with jumps, inside a fence. -/
import Derived.Test.YtkcdhdilifolfaaGreatEvP
namespace Go.Ev
variable {F : Fence} {n : Nat} {P : Program} {Q : Exit → Act → World → Prop} {a : Act} {w : World}

section
variable {b : Frame} {k : List Item} {cs : List Frame}
theorem stepR_scope {c : Code} : step P (lone (b.atR a (.code (.scope c) :: k)) cs w) = .next (lone (b.atR a (.code c :: .inScope c :: k)) cs w) :=
  step_lone_go (by simp [stepG, stepG.exec, Frame.atR])
theorem stepR_inScope {c : Code} : step P (lone (b.atR a (.inScope c :: k)) cs w) = .next (lone (b.atR a k) cs w) :=
  step_lone_go (by simp [stepG, stepG.exec, Frame.atR])
end

/-- A loop's round begins. -/
def InLoop (F : Fence) (n : Nat) (P : Program) (c : Code) (Q : Exit → Act → World → Prop) (a : Act) (w : World) : Prop :=
  ∀ (b : Frame) (k : List Item) (cs : List Frame), b.roundOf = F.round → F.fn b.fn → F.room (cs.length + 1 + n) →
    ∃ e a' w', Q e a' w' ∧ ArrivesIn (Machine.fenced P F) P (lone (b.atR a (.code c :: .inLoop c :: k)) cs w) b k cs e a' w'

theorem wpIn_of_inLoop {c : Code} (h : InLoop F n P c Q a w) : (Code.loop c).wpIn F n P Q a w := by
  intro b k cs hro hb hr
  obtain ⟨e, a', w', hq, harr⟩ := h b k cs hro hb hr
  exact ⟨e, a', w', hq, .of_steps (.one (fenced_calm hb hr rfl) stepR_loop) harr⟩

theorem inLoop_of_wpIn {c : Code} (h : c.wpIn F n P (Exit.then (InLoop F n P c Q) Q) a w) : InLoop F n P c Q a w := by
  intro b k cs hro hb hr
  obtain ⟨e, a₁, w₁, hq, harr⟩ := h b (.inLoop c :: k) cs hro hb hr
  cases e with
  | normal =>
    obtain ⟨e₂, a₂, w₂, hq₂, harr₂⟩ := hq b k cs hro hb hr
    exact ⟨e₂, a₂, w₂, hq₂, .of_steps (StepsIn.trans harr (.one (fenced_calm hb hr rfl) stepR_inLoop)) harr₂⟩
  | exit id => exact ⟨_, a₁, w₁, hq, .pass (x := .inLoop c) rfl (fun _ _ => .inl (by simp)) harr⟩
  | goto l => exact ⟨_, a₁, w₁, hq, .pass (x := .inLoop c) rfl (fun _ _ => .inl (by simp)) harr⟩
  | ret => exact ⟨_, a₁, w₁, hq, .pass (x := .inLoop c) rfl (fun _ _ => .inl (by simp)) harr⟩
  | panic ch => exact ⟨_, a₁, w₁, hq, .pass (x := .inLoop c) rfl (fun _ _ => .inl (by simp)) harr⟩
  | outgrown => exact ⟨_, a₁, w₁, hq, .pass (x := .inLoop c) rfl (fun _ _ => .inl (by simp)) harr⟩

/-- A jump to l has come to the scope of c. -/
def Jump (F : Fence) (n : Nat) (P : Program) (c : Code) (Q : Exit → Act → World → Prop) (l : Nat) (a : Act) (w : World) : Prop :=
  ∀ (b : Frame) (k : List Item) (cs : List Frame), b.roundOf = F.round → F.fn b.fn → F.room (cs.length + 1 + n) →
    ∀ m, ArrivesIn (Machine.fenced P F) P m b (.inScope c :: k) cs (.goto l) a w → ∃ e a' w', Q e a' w' ∧ ArrivesIn (Machine.fenced P F) P m b k cs e a' w'

def caught (F : Fence) (n : Nat) (P : Program) (c : Code) (Q : Exit → Act → World → Prop) : Exit → Act → World → Prop
  | .goto l, a, w => Jump F n P c Q l a w
  | e, a, w => Q e a w

theorem caught_arrives {c x : Code} {b : Frame} {k : List Item} {cs : List Frame} (hro : b.roundOf = F.round) (hb : F.fn b.fn) (hr : F.room (cs.length + 1 + n))
    (h : x.wpIn F n P (caught F n P c Q) a w) :
    ∃ e a' w', Q e a' w' ∧ ArrivesIn (Machine.fenced P F) P (lone (b.atR a (.code x :: .inScope c :: k)) cs w) b k cs e a' w' := by
  obtain ⟨e, a₁, w₁, hq, harr⟩ := h b (.inScope c :: k) cs hro hb hr
  cases e with
  | normal => exact ⟨.normal, a₁, w₁, hq, StepsIn.trans harr (.one (fenced_calm hb hr rfl) stepR_inScope)⟩
  | exit id =>
    have hx : exitTo id (.inScope c :: k) = exitTo id k := by simp [exitTo]
    refine ⟨.exit id, a₁, w₁, hq, fun k' hk => harr.1 k' (by rw [hx]; exact hk), fun hr' hk => harr.2 hr' (by rw [hx]; exact hk)⟩
  | goto l => exact hq b k cs hro hb hr _ harr
  | ret => exact ⟨_, a₁, w₁, hq, harr⟩
  | panic ch => exact ⟨_, a₁, w₁, hq, harr⟩
  | outgrown => exact ⟨_, a₁, w₁, hq, harr⟩

theorem wpIn_scope {c : Code} (h : c.wpIn F n P (caught F n P c Q) a w) : (Code.scope c).wpIn F n P Q a w := by
  intro b k cs hro hb hr
  obtain ⟨e, a', w', hq, harr⟩ := caught_arrives (k := k) hro hb hr h
  exact ⟨e, a', w', hq, .of_steps (.one (fenced_calm hb hr rfl) stepR_scope) harr⟩

theorem jump_some {c rest : Code} {l : Nat} (hf : findLabel c l = some rest) (h : rest.wpIn F n P (caught F n P c Q) a w) : Jump F n P c Q l a w := by
  intro b k cs hro hb hr m hm
  have hg : gotoIn l (.inScope c :: k) = some (.code rest :: .inScope c :: k) := by simp [gotoIn, hf]
  obtain ⟨e, a', w', hq, harr⟩ := caught_arrives (k := k) hro hb hr h
  exact ⟨e, a', w', hq, .of_steps (hm.1 _ hg) harr⟩

theorem jump_none {c : Code} {l : Nat} (hf : findLabel c l = none) (h : Q (.goto l) a w) : Jump F n P c Q l a w := by
  intro b k cs hro hb hr m hm
  have hg : gotoIn l (.inScope c :: k) = gotoIn l k := by simp [gotoIn, hf]
  exact ⟨.goto l, a, w, h, fun k' hk => hm.1 k' (by rw [hg]; exact hk), fun hr' hk => hm.2 hr' (by rw [hg]; exact hk)⟩

/-- The fence around all there is, for an activation or a round. -/
abbrev Wd (r : Option Nat) : Fence := { Fence.wide with round := r }
theorem wd_none : Wd none = Fence.wide := rfl
theorem wd_inRound (r : Option Nat) (l : Nat) : (Wd r).inRound l = Wd (some l) := rfl
theorem callsIn_wd (r : Option Nat) (n : Nat) (P : Program) (f : FuncId) (args : Array Value) (w : World) (R : Ending → World → Prop) : CallsIn (Wd r) n P f args w R = CallsIn Fence.wide n P f args w R := rfl
theorem roundIn_wd (r : Option Nat) (n : Nat) (P : Program) (l : Nat) (f : FuncId) (tmps : Array Value) (assign body : Code) (w : World) (R : Ending → World → Prop) :
    RoundIn (Wd r) n P l f tmps assign body w R = RoundIn Fence.wide n P l f tmps assign body w R := rfl

end Go.Ev
