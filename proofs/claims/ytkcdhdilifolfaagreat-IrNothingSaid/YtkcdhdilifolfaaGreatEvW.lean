/- A drawn region: whatever order is drawn, it does what its evaluation says. -/
import Derived.Test.YtkcdhdilifolfaaGreatEvV
namespace Go.Ev
variable {C : Ctx}

/-! ### Values that are the same -/
theorem okB_ok {α : Type} : ∀ {r : Rope α}, r.okB = true → r.Ok
  | .nil, _ => trivial
  | .one _, _ => trivial
  | .lst _, _ => trivial
  | .cat n a b, h => by
    simp only [Rope.okB, Bool.and_eq_true] at h
    exact ⟨by simpa using h.1, okB_ok h.2.1, okB_ok h.2.2⟩
theorem sameS_eq {a b : Value} (h : sameS a b = true) : a = b := by
  unfold sameS at h
  split at h <;> (try simp only [Bool.and_eq_true, kindEq_iff, intEq_eq, beq_iff_eq, bytes_beq] at h) <;> first
    | rfl
    | (obtain ⟨rfl, rfl⟩ := h; rfl)
    | (subst h; rfl)
    | (simp at h; subst h; rfl)
    | (simp at h; obtain ⟨rfl, rfl⟩ := h; rfl)
    | (exact absurd h (by simp))
theorem same1_eq {a b : V} (h : same1 a b = true) : a = b := by
  unfold same1 at h
  split at h <;> (try simp only [Bool.and_eq_true, beq_iff_eq] at h) <;> first
    | (rw [sameS_eq h]; done)
    | (obtain ⟨h1, h2, h3, h4, h5⟩ := h; simp at h1 h2 h3 h4; subst h1; subst h2; subst h3; subst h4; subst h5; rfl)
    | (obtain ⟨h1, h2, h3⟩ := h; simp at h1 h2 h3; subst h1; subst h2; subst h3; rfl)
    | (obtain ⟨h1, h2⟩ := h; simp at h1 h2; subst h1; subst h2; rfl)
    | (simp at h; subst h; rfl)
    | (exact absurd h (by simp))
theorem sameL_eq : ∀ {a b : List V}, sameL a b = true → a = b
  | [], [], _ => rfl
  | a :: l, b :: m, h => by
    simp only [sameL, Bool.and_eq_true] at h
    rw [same1_eq h.1, sameL_eq h.2]
  | [], _ :: _, h => by simp [sameL] at h
  | _ :: _, [], h => by simp [sameL] at h
theorem same_rel {ρ : Ren} {v u : V} {y : Value} (h : same v u = true) (hv : VRel ρ v y) : VRel ρ u y := by
  unfold same at h
  split at h
  · rename_i a b
    simp only [Bool.and_eq_true] at h
    have e := sameL_eq h.2
    cases hv with | agg hok h1 hc => exact .agg (okB_ok h.1) (by rw [← e]; exact h1) hc
  · rw [← sameL_eq h]; exact hv
  · rw [← same1_eq h]; exact hv

/-! ### Memory, up to what is got from it -/
theorem HRel.congr {ρ : Ren} {h h2 : Heap} {w : World} (H : HRel ρ h w) (e : ∀ b, h2.get b = h.get b) : HRel ρ h2 w := H.weaken fun b o hb => by rw [← e]; exact hb
theorem Evo.congr {ρ ρ' : Ren} {h h1 h2 : Heap} {n n' : Nat} {w w' : World} (a : Evo ρ h n w ρ' h1 n' w') (e : ∀ b, h2.get b = h1.get b) : Evo ρ h n w ρ' h2 n' w' :=
  ⟨a.le, a.new, a.num, a.hrel.congr e, a.size, a.frame, fun b o x hb hr => a.dom b o x (by rw [← e]; exact hb) hr, fun b o hb ho => a.ros b o (by rw [← e]; exact hb) ho, a.side⟩
/-- Blocks that were kept apart for it are named. -/
theorem Evo.trans' {ρ0 ρ1 ρ2 : Ren} {h0 h1 h2 : Heap} {n0 n1 m m' : Nat} {w0 w1 w2 : World} (a : Evo ρ0 h0 n0 w0 ρ1 h1 n1 w1) (b : Evo ρ1 h1 m w1 ρ2 h2 m' w2) (hm : n0 ≤ m) (hm' : m' ≤ n1) :
    Evo ρ0 h0 n0 w0 ρ2 h2 n1 w2 := by
  have b' : Evo ρ1 h1 n1 w1 ρ2 h2 n1 w2 → Evo ρ0 h0 n0 w0 ρ2 h2 n1 w2 := fun b' => a.trans b'
  refine ⟨Ren.le_trans a.le b.le, ?_, a.num, b.hrel, Nat.le_trans a.size b.size, ?_, ?_, fun k o hk ho => a.ros k o (b.ros k o hk ho) ho, a.side.trans b.side⟩
  · intro k x h2 h0
    cases h1 : ρ1 k with
    | none => have := b.new k x h2 h1; omega
    | some y => exact a.new k y h1 h0
  · intro c hc hno
    rw [b.frame c (by have := a.size; omega) ?_, a.frame c hc hno]
    intro k o x hk ho hr e
    rcases a.dom k o x hk ho hr with ⟨b0, o0, x0, g1, g0, g2, g3⟩ | hge
    · exact hno b0 o0 x0 g1 g0 g2 (by rw [g3, e])
    · omega
  · intro k o x hk ho hr
    rcases b.dom k o x hk ho hr with ⟨b1, o1, x1, g1, g0, g2, g3⟩ | hge
    · rcases a.dom b1 o1 x1 g1 g0 g2 with ⟨b0, o0, x0, k1, k0, k2, k3⟩ | hge
      · exact .inl ⟨b0, o0, x0, k1, k0, k2, k3.trans g3⟩
      · right; omega
    · right; have := a.size; omega
/-- More memory lies beside. -/
theorem Evo.widen {ρ ρ' : Ren} {h1 h1' h2 h2' : Heap} {n n' : Nat} {w w' : World} (e : Evo ρ h1 n w ρ' h1' n' w') (H : HRel ρ h2 w) (hsub : ∀ b o, h1.get b = some o → h2.get b = some o)
    (hout : ∀ b o, h2'.get b = some o → h1'.get b = some o ∨ (h2.get b = some o ∧ h1.get b = none)) : Evo ρ h2 n w ρ' h2' n' w' := by
  have far : ∀ b o x, h2.get b = some o → h1.get b = none → ρ b = some x → ∀ b0 o0 x0, h1.get b0 = some o0 → (o0.own = true ∨ o.own = true) → ρ b0 = some x0 → x0.1 ≠ x.1 := by
    intro b o x hb hn hr b0 o0 x0 hb0 ho hr0 e1
    have : b0 = b := by
      rcases ho with ho | ho
      · exact H.inj b0 b o0 o x0 x (hsub _ _ hb0) hb ho hr0 hr e1
      · exact (H.inj b b0 o o0 x x0 hb (hsub _ _ hb0) ho hr hr0 e1.symm).symm
    subst this
    rw [hb0] at hn; cases hn
  refine ⟨e.le, e.new, e.num, ⟨?_, ?_⟩, e.size, ?_, ?_, ?_, e.side⟩
  · intro b o hb
    rcases hout b o hb with hb | ⟨hb, hn⟩
    · exact e.hrel.obj b o hb
    · obtain ⟨c, sh, ex, x, g1, g2, g3⟩ := H.obj b o hb
      refine ⟨c, sh, ex, x, e.le _ _ g1, ?_, g3.mono e.le⟩
      rw [e.frame c (Array.getElem?_eq_some_iff.1 g2).1 (fun b0 o0 x0 k1 k0 k2 => far b o _ hb hn g1 b0 o0 x0 k1 (.inl k0) k2)]
      exact g2
  · have cross : ∀ b b' o o' x x', h1'.get b = some o → h2.get b' = some o' → h1.get b' = none → (o.own = true ∨ o'.own = true) → ρ' b = some x → ρ' b' = some x' → x.1 = x'.1 → False := by
      intro b b' o o' x x' k1 k2 k3 k0 k4 k5 k6
      obtain ⟨c, sh, ex, y, g1, g2, _⟩ := H.obj b' o' k2
      have : ρ' b' = some (c, sh, ex) := e.le _ _ g1
      rw [k5] at this; cases this
      cases hoo : o.own with
      | true =>
        rcases e.dom b o x k1 hoo k4 with ⟨b0, o0, x0, m1, m0, m2, m3⟩ | hge
        · exact far b' o' _ k2 k3 g1 b0 o0 x0 m1 (.inl m0) m2 (by rw [m3, k6])
        · have := (Array.getElem?_eq_some_iff.1 g2).1
          simp at k6; omega
      | false =>
        have hb1 := e.ros b o k1 hoo
        obtain ⟨c1, sh1, ex1, y1, m1, m2, _⟩ := H.obj b o (hsub _ _ hb1)
        have := e.le _ _ m1
        rw [k4] at this; cases this
        exact far b' o' _ k2 k3 g1 b o _ hb1 (.inr (k0.resolve_left (by simp [hoo]))) m1 k6
    intro b b' o o' x x' k1 k2 k0 k3 k4 k5
    rcases hout b o k1 with k1 | ⟨k1, n1⟩ <;> rcases hout b' o' k2 with k2 | ⟨k2, n2⟩
    · exact e.hrel.inj b b' o o' x x' k1 k2 k0 k3 k4 k5
    · exact (cross b b' o o' x x' k1 k2 n2 (.inl k0) k3 k4 k5).elim
    · exact (cross b' b o' o x' x k2 k1 n1 (.inr k0) k4 k3 k5.symm).elim
    · obtain ⟨c, sh, ex, y, g1, g2, _⟩ := H.obj b o k1
      obtain ⟨c', sh', ex', y', g1', g2', _⟩ := H.obj b' o' k2
      have e1 := e.le _ _ g1
      have e2 := e.le _ _ g1'
      rw [k3] at e1; rw [k4] at e2; cases e1; cases e2
      exact H.inj b b' o o' _ _ k1 k2 k0 g1 g1' k5
  · intro c hc hno
    exact e.frame c hc fun b o x hb ho hr => hno b o x (hsub b o hb) ho hr
  · intro b o x hb ho hr
    rcases hout b o hb with hb | ⟨hb, hn⟩
    · rcases e.dom b o x hb ho hr with ⟨b0, o0, x0, g1, g0, g2, g3⟩ | hge
      · exact .inl ⟨b0, o0, x0, hsub _ _ g1, g0, g2, g3⟩
      · exact .inr hge
    · obtain ⟨c, sh, ex, y, g1, g2, _⟩ := H.obj b o hb
      have : ρ' b = some (c, sh, ex) := e.le _ _ g1
      rw [hr] at this; cases this
      exact .inl ⟨b, o, _, hb, ho, g1, rfl⟩
  · intro b o hb ho
    rcases hout b o hb with hb | ⟨hb, hn⟩
    · exact hsub _ _ (e.ros b o hb ho)
    · exact hb

end Go.Ev
