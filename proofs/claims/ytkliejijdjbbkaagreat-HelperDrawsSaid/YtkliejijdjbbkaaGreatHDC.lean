import Derived.Test.YtkliejijdjbbkaaGreatHDB
namespace Go.Ev
set_option maxRecDepth 20000

/-! ### Draws -/
def U (l : List Int) : List V := l.map fun x => .s (.int .u32 x)
@[simp] theorem U_length (l : List Int) : (U l).length = l.length := by simp [U]
/-- Draws that lie at block d, their cells at block a. -/
def DrawsAt (h : Heap) (d a : Nat) (l : List Int) : Prop := ∃ v, h.get d = some (.cells (.lst [v]) 1) ∧
  ((v = .s (.slice none 0 0) ∧ l = [] ∧ a = d) ∨ (a ≠ d ∧ ∃ o A, v = .slice a o l.length l.length true ∧ h.get a = some (.cells (.lst A) 1) ∧ A.drop o = U l ∧ A.length = o + l.length))
/-- What changed between two memories: new blocks, and blocks of a list. -/
def Same (n : Nat) (fp : List Nat) (h h' : Heap) : Prop := ∀ b, b < n → b ∉ fp → h'.get b = h.get b

theorem next_ok {d a : Nat} {x : Int} {l : List Int} {h : Heap} (n : Nat) (hd : DrawsAt h d a (x :: l)) :
    CallK CC 85 [.ptr d 0] h n fun v h' n' => v = .s (.int .u32 x) ∧ DrawsAt h' d a l ∧ Same n [d, a] h h' ∧ n' = n := by
  obtain ⟨v, h1, ⟨_, h2, _⟩ | ⟨h2, o, A, rfl, h3, h4, h5⟩⟩ := hd
  · cases h2
  refine F85_call fun hlt => ?_
  rw [F85_eq]
  have g : A[o]? = some (.s (.int .u32 x)) := by
    have : (A.drop o)[0]? = A[o]? := by simp
    rw [← this, h4]; rfl
  have g' : A.drop (o + 1) = U l := by
    rw [← List.drop_drop, h4]; rfl
  simp [cellsAt, h1, h3, g, asNat_int, bounds, bound, ble_dec, blt_dec, storeCells, cellsOwn, beq_dec, Rope.put]
  have e : ¬ ((l.length : Int) + 1 = 0) := by omega
  simp [e, g]
  refine ⟨⟨_, by rw [Tree.get_set, if_pos rfl], .inr ⟨h2, o + 1, A, rfl, ?_, g', ?_⟩⟩, ?_⟩
  · rw [Tree.get_set, if_neg h2]; exact h3
  · simp at h5 ⊢; omega
  · intro b hb hn
    simp at hn
    rw [Tree.get_set, if_neg hn.1]

theorem next_none {d a : Nat} {h : Heap} (n : Nat) (hd : DrawsAt h d a []) :
    CallK CC 85 [.ptr d 0] h n fun v h' n' => v = .s (.int .u32 0) ∧ h' = h ∧ n' = n := by
  refine F85_call fun hlt => ?_
  rw [F85_eq]
  obtain ⟨v, h1, ⟨rfl, _, h2⟩ | ⟨h2, o, A, rfl, h3, h4, h5⟩⟩ := hd
  · simp [cellsAt, h1]
  · simp [cellsAt, h1]

theorem left_ok {d a : Nat} {l : List Int} {h : Heap} (n : Nat) (hd : DrawsAt h d a l) :
    CallK CC 17 [.ptr d 0] h n fun v h' n' => v = .s (.int .i64 l.length) ∧ h' = h ∧ n' = n := by
  refine F17_call fun hlt => ?_
  rw [F17_eq]
  obtain ⟨v, h1, ⟨rfl, rfl, h2⟩ | ⟨h2, o, A, rfl, h3, h4, h5⟩⟩ := hd
  · simp [cellsAt, h1]
  · simp [cellsAt, h1]

theorem add_first {d a : Nat} (x : Int) {h : Heap} {n : Nat} (hd : DrawsAt h d a []) (hn : a = d) :
    CallK CC 38 [.ptr d 0, .s (.int .u32 x)] h n fun v h' n' => ∃ a', n ≤ a' ∧ a' < n' ∧ DrawsAt h' d a' [x] ∧ Same n [d] h h' := by
  refine F38_call fun hlt => ?_
  rw [F38_eq]
  obtain ⟨v, h1, ⟨rfl, _, h2⟩ | ⟨h2, _⟩⟩ := hd
  · have hdn := hlt d _ h1
    have e : ¬ (d = n) := by omega
    have e' : ¬ (d = n + 1) := by omega
    simp [cellsAt, h1, Rope.rep_1, fillA, Rope.put, beq_dec, ble_dec, appendW, grownW, firstCells, normB, Tree.get_set, e, e', storeCells, cellsOwn]
    refine ⟨n + 1, by omega, by omega, ⟨_, by rw [Tree.get_set, if_pos rfl]; rfl, .inr ⟨by omega, 0, U [x], rfl, ?_, rfl, rfl⟩⟩, ?_⟩
    · simp [Tree.get_set]
      rw [if_neg (by omega)]
      rfl
    · intro b hb hn
      simp at hn
      simp only [Tree.get_set]
      rw [if_neg hn, if_neg (by omega), if_neg (by omega), if_neg (by omega)]
  · exact absurd hn h2

theorem add_more {d a : Nat} (x : Int) {l : List Int} (hl : l ≠ []) (hs : l.length < 1000) {h : Heap} {n : Nat} (hd : DrawsAt h d a l) :
    CallK CC 38 [.ptr d 0, .s (.int .u32 x)] h n fun v h' n' => ∃ a', n ≤ a' ∧ a' < n' ∧ DrawsAt h' d a' (l ++ [x]) ∧ Same n [d, a] h h' := by
  refine F38_call fun hlt => ?_
  rw [F38_eq]
  obtain ⟨v, h1, ⟨rfl, h2, _⟩ | ⟨h2, o, A, rfl, h3, h4, h5⟩⟩ := hd
  · exact absurd h2 hl
  · have hdn := hlt d _ h1
    have han := hlt a _ h3
    have hp : 0 < l.length := List.length_pos_iff.2 hl
    have e : ¬ (d = n) := by omega
    have e1 : ¬ (a = n) := by omega
    have e2 : ¬ (a = n + 1) := by omega
    have e3 : ¬ (d = n + 1) := by omega
    have e4 : ¬ (d = a) := by omega
    have e5 : ¬ (l.length + 1 ≤ l.length) := by omega
    have e6 : (2 * (l.length + 1) + 192) * 4 ≤ 281474976710656 := by omega
    have e7 : ¬ (n = a) := by omega
    simp [cellsAt, h1, h3, h5, Rope.rep_1, fillA, Rope.put, beq_dec, ble_dec, appendW, grownW, firstCells, normB, Tree.get_set, e, e1, e2, e3, e4, e5, e6, e7, h2, hl, storeCells, cellsOwn, Rope.app, Tree.get_del, Rope.toList]
    have g : List.take l.length (List.drop o A) = U l := by rw [h4, List.take_of_length_le (by simp)]
    refine ⟨n + 1, by omega, by omega, ⟨_, by rw [Tree.get_set, if_pos rfl], .inr ⟨by omega, 0, U l ++ U [x], by simp, ?_, by simp [U], by simp⟩⟩, ?_⟩
    · rw [Tree.get_set, if_neg (by omega), Tree.get_set, if_pos rfl, g]; rfl
    · intro b hb hn
      simp at hn
      simp only [Tree.get_set, Tree.get_del]
      rw [if_neg hn.1, if_neg (by omega), if_neg (by omega), if_neg hn.2, if_neg (by omega)]
end Go.Ev
