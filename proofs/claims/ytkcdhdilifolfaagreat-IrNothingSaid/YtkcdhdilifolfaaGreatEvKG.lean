/- A value of whole numbers alone is equal to itself. -/
import Derived.Test.YtkcdhdilifolfaaGreatEvKF
namespace Go.Ev

def eqPlain (C : Ctx) : Nat → TypeId → Bool
  | 0, _ => false
  | d + 1, t => match ty C t with
    | none => false
    | some i => match i.desc with
      | .struct fs => !i.stood && i.agg && fs.toList.all fun f => f.name == "_" || (match ty C f.type with | none => false | some j => Nat.ble (f.offset + j.size) i.size && eqPlain C d f.type)
      | .array len e => i.agg && (match ty C e with | none => false | some j => Nat.ble (len * j.size) i.size && eqPlain C d e)
      | .int _ => !i.agg && Nat.beq i.size 1
      | _ => false
def IntCell (x : V) : Prop := ∃ k a, x = .s (.int k a)
/-- What a value of such a type is. -/
def PlainV (i : Ty) (x : V) : Prop := if i.agg = true then ∃ l, x = .agg (.lst l) ∧ l.length = i.size ∧ ∀ y ∈ l, IntCell y else IntCell x

theorem part_plain {C : Ctx} {d : Nat} {t : TypeId} {j : Ty} (hj : ty C t = some j) (hp : eqPlain C d t = true) {l : List V} (hl : ∀ y ∈ l, IntCell y) {off : Nat} (ho : off + j.size ≤ l.length) : ∃ x, part j (.lst l) off = some x ∧ PlainV j x := by
  unfold part PlainV
  cases ha : j.agg with
  | true =>
    have : Nat.ble (off + j.size) l.length = true := by simpa using ho
    simp only [cond_true, Rope.size_lst, this, Rope.ext]
    refine ⟨_, rfl, ?_⟩
    rw [if_pos trivial]
    refine ⟨_, rfl, by simp; omega, fun y hy => hl y ?_⟩
    exact List.mem_of_mem_drop (List.mem_of_mem_take hy)
  | false =>
    have h1 : j.size = 1 := by
      cases d with
      | zero => cases hp
      | succ d =>
        unfold eqPlain at hp
        simp only [hj] at hp
        split at hp
        · simp [ha] at hp
        · simp [ha] at hp
        · simp [ha] at hp; exact hp
        · cases hp
    have ho' : off < l.length := by omega
    simp only [cond_false, Rope.get_lst, List.getElem?_eq_getElem ho']
    refine ⟨_, rfl, ?_⟩
    first | rw [if_neg (by decide)] | skip
    exact hl _ (List.getElem_mem ho')

theorem eqIn_plain (C : Ctx) : ∀ (d e : Nat) (t : TypeId) (i : Ty) (x : V), ty C t = some i → eqPlain C d t = true → PlainV i x → eqIn C (d + e) t x x = some true
  | 0, _, _, _, _, _, h, _ => by cases h
  | d + 1, e, t, i, x, hi, hp, hx => by
    have ih := eqIn_plain C d e
    rw [show d + 1 + e = (d + e) + 1 by omega]
    unfold eqPlain at hp
    unfold eqIn
    simp only [hi, Option.bind_some] at hp ⊢
    split at hp
    · rename_i fs hd
      simp only [Bool.and_eq_true, Bool.not_eq_true'] at hp
      obtain ⟨⟨hs, ha⟩, hf⟩ := hp
      unfold PlainV at hx
      rw [if_pos ha] at hx
      obtain ⟨l, rfl, hl, hc⟩ := hx
      rw [hd]
      simp only [hs, cond_false]
      have : ∀ L : List Field, (L.all fun f => f.name == "_" || (match ty C f.type with | none => false | some j => Nat.ble (f.offset + j.size) i.size && eqPlain C d f.type)) = true → eqFields C (eqIn C (d + e)) L (.lst l) (.lst l) = some true := by
        intro L
        induction L with
        | nil => intro _; rfl
        | cons f L ihL =>
          intro h
          simp only [List.all_cons, Bool.and_eq_true] at h
          unfold eqFields
          have h2 := ihL h.2
          cases hn : (f.name == "_") with
          | true => simp only [cond_true]; exact h2
          | false =>
            simp only [hn, Bool.false_or] at h
            have h1 := h.1
            split at h1
            · cases h1
            · rename_i j hj
              simp only [Bool.and_eq_true] at h1
              have hle : f.offset + j.size ≤ l.length := by have := h1.1; rw [hl]; simpa using this
              obtain ⟨y, hy, hpy⟩ := part_plain hj h1.2 hc hle
              simp only [cond_false, hj, Option.bind_some, hy, ih f.type j y hj h1.2 hpy, cond_true]
              exact h2
      exact this _ hf
    · rename_i len el hd
      simp only [Bool.and_eq_true] at hp
      obtain ⟨ha, hp⟩ := hp
      unfold PlainV at hx
      rw [if_pos ha] at hx
      obtain ⟨l, rfl, hl, hc⟩ := hx
      rw [hd]
      split at hp
      · cases hp
      · rename_i j hj
        simp only [Bool.and_eq_true] at hp
        have hle : len * j.size ≤ l.length := by have := hp.1; rw [hl]; simpa using this
        simp only [hj, Option.bind_some]
        have : ∀ n k, k + n = len → eqElems (eqIn C (d + e)) el j n k (.lst l) (.lst l) = some true := by
          intro n
          induction n with
          | zero => intro k _; rfl
          | succ n ihn =>
            intro k hk
            have h1 : (k + 1) * j.size ≤ len * j.size := Nat.mul_le_mul_right _ (by omega)
            rw [Nat.add_mul] at h1
            obtain ⟨y, hy, hpy⟩ := part_plain hj hp.2 hc (off := k * j.size) (by omega)
            unfold eqElems
            simp only [hy, Option.bind_some, ih el j y hj hp.2 hpy, cond_true]
            exact ihn (k + 1) (by omega)
        exact this len 0 (by omega)
    · rename_i k hd
      simp only [Bool.and_eq_true, Bool.not_eq_true'] at hp
      unfold PlainV at hx
      rw [hp.1] at hx
      rw [if_neg (by decide)] at hx
      obtain ⟨k', a, rfl⟩ := hx
      rw [hd]
      simp only [kindEq_self, cond_true, intEq_dec, decide_true]
    · cases hp
theorem binop_plain {C : Ctx} {t : TypeId} {i : Ty} (hi : ty C t = some i) (hp : eqPlain C 6 t = true) (hg : i.guard = false) (ha : i.agg = true) (cst : Bool) {l : List V} (hl : l.length = i.size) (hc : ∀ y ∈ l, IntCell y) :
    binop C .eql t cst (.agg (.lst l)) (.agg (.lst l)) = some (.s (.bool true)) ∧ binop C .neq t cst (.agg (.lst l)) (.agg (.lst l)) = some (.s (.bool false)) := by
  have h := eqIn_plain C 6 9994 t i (.agg (.lst l)) hi hp (by unfold PlainV; rw [if_pos ha]; exact ⟨l, rfl, hl, hc⟩)
  simp only [binop, hi, Option.bind_some, hg, cond_false]
  rw [show 10000 = 6 + 9994 from rfl, h]
  exact ⟨rfl, rfl⟩
theorem Val.l_ints (v : Val) : ∀ y ∈ v.l, IntCell y := by
  intro y hy
  simp [Val.l] at hy
  rcases hy with rfl | rfl | rfl <;> exact ⟨_, _, rfl⟩
theorem bytesV'_ints (l : List Int) : ∀ y ∈ bytesV' l, IntCell y := by
  intro y hy
  simp [bytesV'] at hy
  obtain ⟨a, _, rfl⟩ := hy
  exact ⟨_, _, rfl⟩
theorem flat_ints {α : Type} {g : α → List V} (H : ∀ x, ∀ y ∈ g x, IntCell y) (l : List α) : ∀ y ∈ flat g l, IntCell y := by
  intro y hy
  simp only [flat, List.mem_flatten, List.mem_map] at hy
  obtain ⟨_, ⟨x, _, rfl⟩, hy⟩ := hy
  exact H x y hy
theorem Slot.l_ints (s : Slot) : ∀ y ∈ s.l, IntCell y := by
  intro y hy
  simp only [Slot.l, List.mem_append, List.mem_singleton] at hy
  rcases hy with (hy | hy) | rfl
  · exact s.val.l_ints y hy
  · exact bytesV'_ints _ y hy
  · exact ⟨_, _, rfl⟩
theorem Frame.l_ints (f : Frame) : ∀ y ∈ f.l, IntCell y := by
  intro y hy
  simp only [Frame.l, List.mem_append] at hy
  rcases hy with hy | hy | hy
  · simp at hy
    rcases hy with rfl | rfl | rfl <;> exact ⟨_, _, rfl⟩
  · exact flat_ints Val.l_ints _ y hy
  · exact flat_ints Slot.l_ints _ y hy
end Go.Ev
