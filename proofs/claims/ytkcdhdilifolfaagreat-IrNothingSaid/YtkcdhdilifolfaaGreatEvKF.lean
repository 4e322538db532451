/- Append, told by what memory holds behind it. -/
import Derived.Test.YtkcdhdilifolfaaGreatEvKE
namespace Go.Ev

/-- The cells of a slice of n things of k cells. -/
inductive Row (h : Heap) (k n : Nat) (cs : List V) : V → Prop
  | nil (hn : n = 0) (hc : cs = []) : Row h k n cs (.s (.slice none 0 0))
  | void {a : Addr} (hn : n = 0) (hc : cs = []) : Row h k n cs (.s (.slice (some a) 0 0))
  | row {b o c : Nat} {op : Bool} {A : List V} {es : Nat} (h1 : cellsAt h b = some (.lst A, es)) (h2 : (A.drop o).take (n * k) = cs) (h3 : cs.length = n * k) : Row h k n cs (.slice b o n c op)

theorem Row.length {h : Heap} {k n : Nat} {cs : List V} {v : V} (H : Row h k n cs v) : cs.length = n * k := by
  cases H with
  | nil hn hc => subst hn; subst hc; simp
  | void hn hc => subst hn; subst hc; simp
  | row h1 h2 h3 => exact h3
theorem Row.lenOf {h : Heap} {k n : Nat} {cs : List V} {v : V} (H : Row h k n cs v) : lenOf v = some n := by
  cases H with
  | nil hn hc => subst hn; rfl
  | void hn hc => subst hn; rfl
  | row h1 h2 h3 => rfl
/-- All of its cells. -/
theorem Row.all {h : Heap} {k n : Nat} {cs : List V} {v : V} (H : Row h k n cs v) : ∃ r : Rope V, firstCells h k n v = some r ∧ r.toList = cs ∧ r.size = n * k := by
  cases H with
  | nil hn hc => subst hn; subst hc; exact ⟨.nil, rfl, rfl, by simp⟩
  | void hn hc => subst hn; subst hc; exact ⟨.nil, rfl, rfl, by simp⟩
  | @row b o c op A es h1 h2 h3 =>
    by_cases hz : n * k = 0
    · refine ⟨.nil, firstCells_zero (Nat.le_refl _) hz, ?_, hz.symm⟩
      have : cs = [] := List.length_eq_zero_iff.1 (by rw [h3, hz])
      rw [this]; rfl
    · have hs : o + n * k ≤ A.length := by
        have := congrArg List.length h2
        rw [h3] at this
        simp at this; omega
      refine ⟨_, firstCells_lst h1 (Nat.le_refl _) hz hs, h2, ?_⟩
      rw [Rope.size_lst, h2, h3]
theorem app_toList (a b : Rope V) : (a.app b).toList = a.toList ++ b.toList := rfl

/-- Onto a nil slice. -/
theorem append_nil {sz bytes m n : Nat} {h : Heap} {cs : List V} {x : V} (hz : sz ≠ 0) (hx : Row h sz m cs x) (hm : m ≠ 0) (hb : (2 * m + 192) * bytes ≤ 281474976710656) {K : V → Heap → Nat → Prop}
    (hK : ∀ h', h'.get n = some (.cells (.lst cs) sz) → (∀ b, b ≠ n → h'.get b = h.get b) → K (.slice n 0 m m true) h' (n + 1)) :
    appendWK sz bytes h n (.s (.slice none 0 0)) x K := by
  obtain ⟨r, r1, r2, r3⟩ := hx.all
  have e1 : Nat.beq m 0 = false := by simpa using hm
  have e2 : Nat.beq r.size (m * sz) = true := by simpa using r3
  have e3 : Nat.ble ((2 * m + 192) * bytes) 281474976710656 = true := by simpa using hb
  simp only [appendWK, appendW, hx.lenOf, r1, Option.bind_some, e2, Bool.not_true, cond_false, e1, grownW, e3, cond_true, oK_some, normB, Tree.get_set_same]
  refine hK _ (by rw [Tree.get_set_same, r2]) (fun b hb => by rw [Tree.get_set_ne _ _ hb, Tree.get_set_ne _ _ hb])
/-- Nothing onto a nil slice. -/
theorem append_nil0 {sz bytes n : Nat} {h : Heap} {cs : List V} {x : V} (hx : Row h sz 0 cs x) {K : V → Heap → Nat → Prop} (hK : K (.s (.slice none 0 0)) h n) :
    appendWK sz bytes h n (.s (.slice none 0 0)) x K := by
  obtain ⟨r, r1, r2, r3⟩ := hx.all
  have e2 : Nat.beq r.size (0 * sz) = true := by simpa using r3
  simp only [appendWK, appendW, hx.lenOf, r1, Option.bind_some, e2, Bool.not_true, cond_false, show Nat.beq 0 0 = true from rfl, cond_true, oK_some]
  exact hK
/-- Onto a slice that has no room, and whose row may be met elsewhere too. -/
theorem append_new {sz bytes m n b o len c : Nat} {h : Heap} {cs old : List V} {x : V} (hz : sz ≠ 0) (hx : Row h sz m cs x) (hs : Row h sz len old (.slice b o len c false)) (hm : c < len + m) (hb : (2 * (len + m) + 192) * bytes ≤ 281474976710656) {K : V → Heap → Nat → Prop}
    (hK : ∀ h', h'.get n = some (.cells (.lst (old ++ cs)) sz) → (∀ b, b ≠ n → h'.get b = h.get b) → K (.slice n 0 (len + m) (len + m) true) h' (n + 1)) :
    appendWK sz bytes h n (.slice b o len c false) x K := by
  obtain ⟨r, r1, r2, r3⟩ := hx.all
  obtain ⟨q, q1, q2, q3⟩ := hs.all
  have e2 : Nat.beq r.size (m * sz) = true := by simpa using r3
  have e3 : Nat.ble ((2 * (len + m) + 192) * bytes) 281474976710656 = true := by simpa using hb
  have e4 : Nat.ble (len + m) c = false := by simpa using hm
  simp only [appendWK, appendW, hx.lenOf, r1, q1, Option.bind_some, e2, Bool.not_true, cond_false, e4, grownW, e3, cond_true, oK_some, normB, Tree.get_set_same]
  refine hK _ (by rw [Tree.get_set_same, app_toList, r2, q2]) (fun b hb => by rw [Tree.get_set_ne _ _ hb, Tree.get_set_ne _ _ hb])
/-- Onto a slice that is all of its own row: the row goes. -/
theorem append_own {sz bytes m n b o len c : Nat} {h : Heap} {cs old A : List V} {x : V} (hz : sz ≠ 0) (hx : Row h sz m cs x) (hs : h.get b = some (.cells (.lst A) sz)) (hl : o + c * sz = A.length) (hc : len ≤ c) (ho : (A.drop o).take (len * sz) = old) (hm : c < len + m) (hb : (2 * (len + m) + 192) * bytes ≤ 281474976710656) (hbn : b ≠ n) {K : V → Heap → Nat → Prop}
    (hK : ∀ h', h'.get n = some (.cells (.lst (old ++ cs)) sz) → h'.get b = none → (∀ b', b' ≠ n → b' ≠ b → h'.get b' = h.get b') → K (.slice n 0 (len + m) (len + m) true) h' (n + 1)) :
    appendWK sz bytes h n (.slice b o len c true) x K := by
  obtain ⟨r, r1, r2, r3⟩ := hx.all
  have hle : len * sz ≤ c * sz := Nat.mul_le_mul_right _ hc
  have hlen : old.length = len * sz := by rw [← ho]; simp; omega
  obtain ⟨q, q1, q2, q3⟩ := (Row.row (h := h) (k := sz) (n := len) (cs := old) (b := b) (o := o) (c := c) (op := true) (A := A) (es := sz) (by simp [cellsAt, hs]) ho hlen).all
  have e2 : Nat.beq r.size (m * sz) = true := by simpa using r3
  have e3 : Nat.ble ((2 * (len + m) + 192) * bytes) 281474976710656 = true := by simpa using hb
  have e4 : Nat.ble (len + m) c = false := by simpa using hm
  have e5 : Nat.beq (o + c * sz) A.length = true := by simpa using hl
  simp only [appendWK, appendW, hx.lenOf, r1, q1, Option.bind_some, e2, Bool.not_true, cond_false, e4, cond_true, cellsOwn, hs, Rope.size_lst, e5, show Nat.beq sz sz = true by simp, Bool.and_self, grownW, e3, oK_some, normB, Tree.get_set_same]
  refine hK _ (by rw [Tree.get_set_same, app_toList, r2, q2]) ?_ (fun b' h1 h2 => by rw [Tree.get_set_ne _ _ h1, Tree.get_set_ne _ _ h1, Tree.get_del, if_neg h2])
  rw [Tree.get_set_ne _ _ hbn, Tree.get_set_ne _ _ hbn, Tree.get_del, if_pos rfl]
/-- Into the room that there is. -/
theorem append_in {sz bytes m n b o len c es : Nat} {op : Bool} {h : Heap} {cs A : List V} {x : V} (hz : sz ≠ 0) (hx : Row h sz m cs x) (hm0 : m ≠ 0) (hs : h.get b = some (.cells (.lst A) es)) (hl : o + (len + m) * sz ≤ A.length) (hm : len + m ≤ c) {K : V → Heap → Nat → Prop}
    (hK : ∀ h', h'.get b = some (.cells (.lst (splice A (o + len * sz) cs)) es) → (∀ b', b' ≠ b → h'.get b' = h.get b') → K (.slice b o (len + m) c op) h' n) :
    appendWK sz bytes h n (.slice b o len c op) x K := by
  obtain ⟨r, r1, r2, r3⟩ := hx.all
  have hp : 0 < m * sz := Nat.mul_pos (by omega) (by omega)
  have e2 : Nat.beq r.size (m * sz) = true := by simpa using r3
  have e4 : Nat.ble (len + m) c = true := by simpa using hm
  have e5 : Nat.beq r.size 0 = false := by simp; omega
  have e6 : Nat.beq m 0 = false := by simpa using hm0
  have e7 : o + len * sz + r.size ≤ A.length := by rw [r3]; rw [Nat.add_mul] at hl; omega
  simp only [appendWK, appendW, hx.lenOf, r1, Option.bind_some, e2, Bool.not_true, cond_false, e4, cond_true, e5, e6, storeCells_lst hs e7, oK_some, normB, Tree.get_set_same]
  refine hK _ ?_ (fun b' h1 => by rw [Tree.get_set_ne _ _ h1, Tree.get_set_ne _ _ h1])
  rw [Tree.get_set_same]
  simp only [splice, Rope.toList_lst, r2]
  rw [show r.size = cs.length by rw [r3, hx.length]]
/-- Nothing onto a slice. -/
theorem append_none {sz bytes n b o len c es : Nat} {op : Bool} {h : Heap} {cs A : List V} {x : V} (hx : Row h sz 0 cs x) (hs : h.get b = some (.cells (.lst A) es)) (hc : len ≤ c) {K : V → Heap → Nat → Prop}
    (hK : ∀ h', (∀ b', h'.get b' = h.get b') → K (.slice b o len c op) h' n) :
    appendWK sz bytes h n (.slice b o len c op) x K := by
  obtain ⟨r, r1, r2, r3⟩ := hx.all
  have e2 : Nat.beq r.size (0 * sz) = true := by simpa using r3
  have e4 : Nat.ble len c = true := by simpa using hc
  have e5 : Nat.beq r.size 0 = true := by simp; simpa using r3
  simp only [appendWK, appendW, hx.lenOf, r1, Option.bind_some, e2, Bool.not_true, cond_false, Nat.add_zero, e4, cond_true, e5, oK_some, normB, hs]
  refine hK _ fun b' => ?_
  rw [Tree.get_set]
  split
  · rename_i e; subst e; exact hs.symm
  · rfl

/-- A slice of n things of k cells: its cells, in block b. -/
def SliceAt (h : Heap) (b : Nat) (v : V) (k n : Nat) (cs : List V) : Prop :=
  (v = .s (.slice none 0 0) ∧ n = 0 ∧ cs = []) ∨ ∃ o c op A es, v = .slice b o n c op ∧ cellsAt h b = some (.lst A, es) ∧ (A.drop o).take (n * k) = cs ∧ cs.length = n * k
theorem SliceAt.of {h h' : Heap} {b : Nat} {v : V} {k n : Nat} {cs : List V} (H : SliceAt h b v k n cs) (e : h'.get b = h.get b) : SliceAt h' b v k n cs := by
  rcases H with H | ⟨o, c, op, A, es, h1, h2, h3⟩
  · exact .inl H
  · exact .inr ⟨o, c, op, A, es, h1, by unfold cellsAt at h2 ⊢; rw [e]; exact h2, h3⟩
theorem SliceAt.row {h : Heap} {b : Nat} {v : V} {k n : Nat} {cs : List V} (H : SliceAt h b v k n cs) : Row h k n cs v := by
  rcases H with ⟨rfl, h1, h2⟩ | ⟨o, c, op, A, es, rfl, h1, h2, h3⟩
  · exact .nil h1 h2
  · exact .row h1 h2 h3
/-- A slice that alone has its row, and all room in it: what append makes. -/
def GrowAt (h : Heap) (a : Nat) (v : V) (k n : Nat) (cs : List V) : Prop :=
  (v = .s (.slice none 0 0) ∧ n = 0 ∧ cs = []) ∨ ∃ o c op A, v = .slice a o n c op ∧ n ≤ c ∧ h.get a = some (.cells (.lst A) k) ∧ o + c * k ≤ A.length ∧ (op = true → o + c * k = A.length) ∧ (A.drop o).take (n * k) = cs
theorem GrowAt.nil (h : Heap) (a k : Nat) : GrowAt h a (.s (.slice none 0 0)) k 0 [] := .inl ⟨rfl, rfl, rfl⟩
theorem GrowAt.at {h : Heap} {a : Nat} {v : V} {k n : Nat} {cs : List V} (H : GrowAt h a v k n cs) : SliceAt h a v k n cs := by
  rcases H with H | ⟨o, c, op, A, h1, h2, h3, h4, _, h5⟩
  · exact .inl H
  · refine .inr ⟨o, c, op, A, k, h1, by simp [cellsAt, h3], h5, ?_⟩
    have : n * k ≤ c * k := Nat.mul_le_mul_right _ h2
    rw [← h5]; simp; omega
theorem GrowAt.of {h h' : Heap} {b : Nat} {v : V} {k n : Nat} {cs : List V} (H : GrowAt h b v k n cs) (e : h'.get b = h.get b) : GrowAt h' b v k n cs := by
  rcases H with H | ⟨o, c, op, A, h1, h2, h3, h4⟩
  · exact .inl H
  · exact .inr ⟨o, c, op, A, h1, h2, by rw [e]; exact h3, h4⟩
theorem take_splice {A cs : List V} {o i : Nat} (h : o + i + cs.length ≤ A.length) : ((splice A (o + i) cs).drop o).take (i + cs.length) = (A.drop o).take i ++ cs := by
  unfold splice
  rw [List.append_assoc, List.drop_append, List.take_append, List.drop_take]
  have e1 : (List.take (o + i) A).length = o + i := by simp; omega
  rw [show o + i - o = i by omega, e1, show o - (o + i) = 0 by omega, List.drop_zero]
  have e2 : (List.take i (List.drop o A)).length = i := by simp; omega
  rw [e2, List.take_of_length_le (by rw [e2]; omega), show i + cs.length - i = cs.length by omega]
  rw [List.take_append, List.take_of_length_le (Nat.le_refl _), show cs.length - cs.length = 0 by omega]
  simp
theorem grow_ok {sz bytes m n a len : Nat} {h : Heap} {cs new : List V} {v x : V} (hz : sz ≠ 0) (hG : GrowAt h a v sz len cs) (hx : Row h sz m new x) (ha : a < n) (hb : (2 * (len + m) + 192) * bytes ≤ 281474976710656) {K : V → Heap → Nat → Prop}
    (hK : ∀ v' a' h' n', (a' = a ∨ a' = n) → a' < n' → n ≤ n' → GrowAt h' a' v' sz (len + m) (cs ++ new) → (∀ b, b ≠ a → b ≠ n → h'.get b = h.get b) → K v' h' n') :
    appendWK sz bytes h n v x K := by
  by_cases hm : m = 0
  · subst hm
    have e : new = [] := List.length_eq_zero_iff.1 (by rw [hx.length]; simp)
    subst e
    rcases hG with ⟨rfl, rfl, rfl⟩ | ⟨o, c, op, A, rfl, h2, h3, h4, h4', h5⟩
    · exact append_nil0 hx (hK _ a h n (.inl rfl) ha (Nat.le_refl _) (.inl ⟨rfl, rfl, rfl⟩) (fun _ _ _ => rfl))
    · refine append_none hx h3 h2 fun h' he => hK _ a h' n (.inl rfl) ha (Nat.le_refl _) (.inr ⟨o, c, op, A, rfl, h2, by rw [he]; exact h3, h4, h4', by simpa using h5⟩) (fun b _ _ => he b)
  · rcases hG with ⟨rfl, rfl, rfl⟩ | ⟨o, c, op, A, rfl, h2, h3, h4, h4', h5⟩
    · refine append_nil hz hx hm (by simpa using hb) fun h' h1 h2 => ?_
      refine hK _ n h' (n + 1) (.inr rfl) (by omega) (by omega) (.inr ⟨0, m, true, new, by simp, by omega, h1, by rw [hx.length]; omega, fun _ => by rw [hx.length]; omega, ?_⟩) (fun b _ hb => h2 b hb)
      rw [List.drop_zero, Nat.zero_add, List.nil_append, List.take_of_length_le (by rw [hx.length]; exact Nat.le_refl _)]
    · have hlen : cs.length = len * sz := by
        have hle : len * sz ≤ c * sz := Nat.mul_le_mul_right _ h2
        rw [← h5]; simp; omega
      by_cases hc : len + m ≤ c
      · have hle : (len + m) * sz ≤ c * sz := Nat.mul_le_mul_right _ hc
        refine append_in hz hx hm h3 (by omega) hc fun h' h6 h7 => ?_
        have hl := hx.length
        have h8 : o + len * sz + new.length ≤ A.length := by rw [hl]; rw [Nat.add_mul] at hle; omega
        refine hK _ a h' n (.inl rfl) ha (Nat.le_refl _) (.inr ⟨o, c, op, _, rfl, hc, h6, by rw [splice_length h8]; exact h4, fun e => by rw [splice_length h8]; exact h4' e, ?_⟩) (fun b hb _ => h7 b hb)
        rw [Nat.add_mul, ← hl, take_splice h8, h5]
      · have fin : ∀ h', h'.get n = some (.cells (.lst (cs ++ new)) sz) → GrowAt h' n (.slice n 0 (len + m) (len + m) true) sz (len + m) (cs ++ new) := by
          intro h' h6
          refine .inr ⟨0, len + m, true, cs ++ new, rfl, Nat.le_refl _, h6, by simp [hlen, hx.length, Nat.add_mul], fun _ => by simp [hlen, hx.length, Nat.add_mul], ?_⟩
          rw [List.drop_zero, List.take_of_length_le (by simp [hlen, hx.length, Nat.add_mul])]
        cases op with
        | true =>
          refine append_own hz hx h3 (h4' rfl) h2 h5 (by omega) hb (by omega) fun h' h6 _ h7 => ?_
          exact hK _ n h' (n + 1) (.inr rfl) (by omega) (by omega) (fin h' h6) (fun b h8 h9 => h7 b h9 h8)
        | false =>
          refine append_new hz hx (.row (A := A) (es := sz) (by simp [cellsAt, h3]) h5 hlen) (by omega) hb fun h' h6 h7 => ?_
          exact hK _ n h' (n + 1) (.inr rfl) (by omega) (by omega) (fin h' h6) (fun b _ h9 => h7 b h9)

/-- The first things of a slice. -/
theorem Row.first {h : Heap} {k n : Nat} {cs : List V} {v : V} (H : Row h k n cs v) {m : Nat} (hm : m ≤ n) : ∃ r : Rope V, firstCells h k m v = some r ∧ r.toList = cs.take (m * k) ∧ r.size = m * k := by
  cases H with
  | nil hn hc =>
    subst hn; subst hc
    have : m = 0 := by omega
    subst this
    exact ⟨.nil, rfl, by simp [Rope.toList], by simp⟩
  | void hn hc =>
    subst hn; subst hc
    have : m = 0 := by omega
    subst this
    exact ⟨.nil, rfl, by simp [Rope.toList], by simp⟩
  | @row b o c op A es h1 h2 h3 =>
    by_cases hz : m * k = 0
    · exact ⟨.nil, firstCells_zero hm hz, by rw [hz]; rfl, hz.symm⟩
    · have hmn : m * k ≤ n * k := Nat.mul_le_mul_right _ hm
      have hs : o + m * k ≤ A.length := by
        have := congrArg List.length h2
        rw [h3] at this
        simp at this; omega
      refine ⟨_, firstCells_lst h1 hm hz hs, ?_, ?_⟩
      · show (A.drop o).take (m * k) = cs.take (m * k)
        rw [← h2, List.take_take, Nat.min_eq_left hmn]
      · rw [Rope.size_lst]; simp; omega
/-- Copied: as many as there are, and as there is room for. -/
theorem copy_ok {sz b o len c es m : Nat} {op : Bool} {h : Heap} {cs A : List V} {x : V} (hz : sz ≠ 0) (hs : h.get b = some (.cells (.lst A) es)) (hl : o + len * sz ≤ A.length) (hx : Row h sz m cs x) {K : V → Heap → Prop}
    (hK : ∀ h', h'.get b = some (.cells (.lst (splice A o (cs.take (min m len * sz)))) es) → (∀ b', b' ≠ b → h'.get b' = h.get b') → K (.s (.int .i64 (min m len : Nat))) h') :
    copyWK sz h (.slice b o len c op) x K := by
  have e0 : (bif Nat.ble m len then m else len) = min m len := by
    cases hb : Nat.ble m len with
    | true => have : m ≤ len := by simpa using hb
              simp; omega
    | false => have : ¬ m ≤ len := by intro h; rw [show Nat.ble m len = true by simpa using h] at hb; cases hb
               simp; omega
  obtain ⟨r, r1, r2, r3⟩ := hx.first (Nat.min_le_left m len)
  simp only [copyWK, copyW, hx.lenOf, Option.bind_some, e0, r1, goInt_eq]
  by_cases hm : min m len = 0
  · have e1 : Nat.beq r.size 0 = true := by rw [r3, hm]; simp
    simp only [e1, cond_true, oK_some]
    refine hK h ?_ (fun _ _ => rfl)
    rw [hm]; simp [splice, hs]
  · have hp : 0 < min m len * sz := Nat.mul_pos (by omega) (by omega)
    have e1 : Nat.beq r.size 0 = false := by simp; omega
    have e2 : Nat.beq (min m len) 0 = false := by simpa using hm
    have hle : min m len * sz ≤ len * sz := Nat.mul_le_mul_right _ (Nat.min_le_right m len)
    have e3 : o + r.size ≤ A.length := by rw [r3]; omega
    simp only [e1, e2, cond_false, storeCells_lst hs e3, Option.bind_some, oK_some]
    refine hK _ ?_ (fun b' hb => Tree.get_set_ne _ _ hb)
    rw [Tree.get_set_same, r2]
    have : (cs.take (min m len * sz)).length = r.size := by
      rw [List.length_take, hx.length, r3]
      exact Nat.min_eq_left (Nat.mul_le_mul_right _ (Nat.min_le_left m len))
    simp only [splice, this]
end Go.Ev
