import Derived.Test.YthmhagelflolfaaGreatRI
import Derived.Test.YthmhagelflolfaaGreatEvN0
import Derived.Test.YthmhagelflolfaaGreatEvZD
namespace Go.Ev
set_option maxRecDepth 20000

/-- A slice of instructions. -/
def InsnsAt (h : Heap) (b : Nat) (v : V) (l : List Insn) : Prop := SliceAt h b v 5 l.length (flat Insn.l l)
def GrowI (h : Heap) (a : Nat) (v : V) (l : List Insn) : Prop := GrowAt h a v 5 l.length (flat Insn.l l)
theorem flatI_length (l : List Insn) : (flat Insn.l l).length = l.length * 5 := flat_length (fun _ _ => rfl)
theorem InsnsAt.of {h h' : Heap} {b : Nat} {v : V} {l : List Insn} (H : InsnsAt h b v l) (e : h'.get b = h.get b) : InsnsAt h' b v l := SliceAt.of H e
theorem GrowI.of {h h' : Heap} {b : Nat} {v : V} {l : List Insn} (H : GrowI h b v l) (e : h'.get b = h.get b) : GrowI h' b v l := GrowAt.of H e
theorem GrowI.at {h : Heap} {b : Nat} {v : V} {l : List Insn} (H : GrowI h b v l) : InsnsAt h b v l := GrowAt.at H
theorem InsnsAt.vcl {h : Heap} {b : Nat} {sl : V} {l : List Insn} (H : InsnsAt h b sl l) : vcl sl = some [sl] ∧ normV sl = sl ∧ V.cells sl = some (.one sl) := by
  rcases H with ⟨rfl, _⟩ | ⟨o, c, op, A, es, rfl, _⟩
  · simp
  · simp
theorem InsnsAt.len {h : Heap} {b : Nat} {v : V} {l : List Insn} (H : InsnsAt h b v l) (h' : Heap) : lenV CC h' 22 v = some (.s (.int .i64 l.length)) := by
  rcases H with ⟨rfl, h2, _⟩ | ⟨o, c, op, A, es, rfl, _⟩
  · rw [h2]; simp
  · simp
theorem flatI_get {l : List Insn} {i : Nat} (hi : i < l.length) (j : Nat) (hj : j < 5) : (flat Insn.l l)[i * 5 + j]? = (l[i].l)[j]? := by
  induction l generalizing i with
  | nil => simp at hi
  | cons x l ih =>
    rw [flat_cons]
    cases i with
    | zero => rw [Nat.zero_mul, Nat.zero_add, List.getElem?_append_left (by simpa using hj)]; rfl
    | succ i =>
      rw [List.getElem?_append_right (by simp; omega), Insn.l_length, show (i + 1) * 5 + j - 5 = i * 5 + j by omega, ih (by simpa using hi)]
      rfl
theorem flatI_row {l : List Insn} {i : Nat} (hi : i < l.length) : ((flat Insn.l l).drop (i * 5)).take 5 = l[i].l := by
  apply List.ext_getElem?
  intro j
  rw [List.getElem?_take]
  by_cases hj : j < 5
  · rw [if_pos hj, List.getElem?_drop, flatI_get hi j hj]
  · rw [if_neg hj, List.getElem?_eq_none (by simp; omega)]
/-- One of them: where it stands, and its cells. -/
theorem InsnsAt.ix {h : Heap} {b : Nat} {v : V} {l : List Insn} (H : InsnsAt h b v l) {i : Nat} (hi : i < l.length) : ∃ p A es, indexAddr CC 22 v (.s (.int .i64 i)) = some (.ptr b p) ∧ cellsAt h b = some (.lst A, es) ∧ (A.drop p).take 5 = l[i].l ∧ p + 5 ≤ A.length := by
  rcases H with ⟨rfl, h2, _⟩ | ⟨o, c, op, A, es, rfl, h2, h3, h4⟩
  · omega
  · have h5 : o + l.length * 5 ≤ A.length := by
      have := congrArg List.length h3
      rw [h4] at this
      simp at this; omega
    refine ⟨o + i * 5, A, es, by simp [asNat_int, blt_dec, hi], h2, ?_, by omega⟩
    have := flatI_row hi
    rw [← h3, List.drop_take, List.drop_drop, List.take_take, Nat.min_eq_left (by omega)] at this
    exact this

theorem flatI_take {l : List Insn} {i : Nat} (hi : i < l.length) : flat Insn.l (l.take (i + 1)) = flat Insn.l (l.take i) ++ l[i].l := by
  rw [List.take_succ_eq_append_getElem hi, flat_append]; simp
theorem InsnsAt.row {h : Heap} {b : Nat} {v : V} {l : List Insn} (H : InsnsAt h b v l) : Row h 5 l.length (flat Insn.l l) v := SliceAt.row H
theorem oneI_row (h : Heap) (n : Nat) (x : Insn) : Row (h.set n (.cells (.lst x.l) 5)) 5 1 (flat Insn.l [x]) (.slice n 0 1 1 false) :=
  .row (A := x.l) (es := 5) (by simp [cellsAt, Tree.get_set]) (by simp [flat, Insn.l]) (by simp [flat, Insn.l])

theorem copyInsns_loop {b : Nat} {sl : V} {l : List Insn} (hl : l.length ≤ 2000) {Q : X → St → Prop} {n0 : Nat} {h0 : Heap} (hb : b < n0) (hs : InsnsAt h0 b sl l)
    (hQ : ∀ t3 t4 a h n s, F15_L110100 sl t3 t4 h n s → n0 ≤ n → GrowI h a t3 l → n0 ≤ a → (l ≠ [] → a < n) → Same n0 [] h0 h → Q (.exit 0) s) :
    ∀ m s, (∃ i h n t3 a, m = l.length - i ∧ i ≤ l.length ∧ F15_L110100 sl t3 (.s (.int .i64 i)) h n s ∧ n0 ≤ n ∧ GrowI h a t3 (l.take i) ∧ n0 ≤ a ∧ a ≤ n ∧ (i ≠ 0 → a < n) ∧ Same n0 [] h0 h) →
      LoopK CC none (subC [1, 1, 0, 1, 0, 0] (bodyOf Go.Proofs.Tryz.f15)) s Q := by
  refine loopH CCok _ ?_
  rintro m s ⟨i, h, n, t3, a, hm, hi, hs', hn, hG, ha0, han, ha, hsame⟩ hlt
  obtain ⟨g, rfl⟩ := hs'
  rw [F15_b110100]
  replace hlt : ∀ b o, h.get b = some o → b < n := hlt
  have hs1 := hs.of (hsame b hb (by simp))
  by_cases hi' : i < l.length
  · have e3 : wrapF .i64 ((i : Int) + 1) = ((i + 1 : Nat) : Int) := by rw [wrapF_i64 (by omega) (by omega)]; rfl
    obtain ⟨p, A, es, p1, p2, p3, p4⟩ := hs1.ix hi'
    simp [hs1.len, hi', p1, p2, p3, p4, ble_dec, Insn.l]
    have hG' : GrowI (h.set n (.cells (.lst l[i].l) 5)) a t3 (l.take i) := by
      rcases hG with H | ⟨o, c, op, A, k1, k2, k3, k4⟩
      · exact .inl H
      · have := hlt _ _ k3
        exact .inr ⟨o, c, op, A, k1, k2, by rw [Tree.get_set, if_neg (by omega)]; exact k3, k4⟩
    refine grow_ok (m := 1) (new := flat Insn.l [l[i]]) (by omega) hG' (oneI_row h n l[i]) (by omega) (by simp; omega) ?_
    intro v' a' h2 n2 ha' han' hn2 hG2 hs2
    refine ⟨l.length - (i + 1), h2, by omega, fun hok b o hb => ⟨o, hb, hok b o hb⟩, i + 1, rfl, by omega, h2, n2, v', by rw [e3]; exact F15_L110100_of, by omega, a', ?_, by omega, by omega, by omega, ?_⟩
    · unfold GrowI
      rw [flatI_take hi']
      simpa [flat, Nat.min_eq_left hi, Nat.min_eq_left (show i + 1 ≤ l.length from hi')] using hG2
    · intro b' hb' hn'
      rw [hs2 b' (by omega) (by omega), Tree.get_set, if_neg (by omega), hsame b' hb' hn']
  · have : i = l.length := by omega
    subst this
    simp [hs1.len, roundQ]
    refine hQ t3 _ a h n _ F15_L110100_of hn (by simpa using hG) ha0 (fun h => ha (by simpa using h)) hsame
theorem copyInsns_ok {b : Nat} {sl : V} {l : List Insn} (hl : l.length ≤ 2000) {h : Heap} {n : Nat} (hb : b < n) (hs : InsnsAt h b sl l) :
    CallK CC 15 [sl] h n fun v h' n' => (∃ a, n ≤ a ∧ (l ≠ [] → a < n') ∧ GrowI h' a v l) ∧ Same n [] h h' := by
  refine F15_call fun hlt => ?_
  rw [F15_eq]
  refine copyInsns_loop hl (n0 := n) (h0 := h) hb hs ?_ _ _ ⟨0, h, n, _, n, rfl, by omega, F15_L110100_of, by omega, GrowAt.nil _ _ _, by omega, by omega, by omega, Same.refl _ _ _⟩
  intro t3 t4 a h' n' s hs hn hG ha ha' hsame
  obtain ⟨g, rfl⟩ := hs
  rw [F15_r110100_0]
  exact ⟨⟨a, ha, ha', hG⟩, hsame⟩

def markI (i : Int) : Insn := ⟨wrapF .i64 (250 + i), 0, 0, 0, wrapF .i64 (77 * i)⟩
theorem mark_ok (i : Int) (h : Heap) (n : Nat) : CallK CC 16 [.s (.int .i64 i)] h n fun v h' n' => v = .agg (.lst (markI i).l) ∧ Same n [] h h' := by
  refine F16_call fun hlt => ?_
  rw [F16_eq]
  simp [cellsAt, Tree.get_set, storeCells, cellsOwn, Rope.put, ble_dec]
  refine ⟨rfl, ?_⟩
  intro b hb _
  simp only [Tree.get_set]
  rw [if_neg (by omega), if_neg (by omega)]
/-- Five more, by which a list that was lent is known. -/
def lentI (l : List Insn) : Nat → List Insn
  | 0 => l
  | i + 1 => lentI l i ++ [markI i]
theorem lentI_length (l : List Insn) : ∀ i, (lentI l i).length = l.length + i
  | 0 => rfl
  | i + 1 => by simp [lentI, lentI_length l i]; omega
theorem lent_loop {l : List Insn} (hl : l.length ≤ 2000) {Q : X → St → Prop} {n0 : Nat} {h0 : Heap}
    (hQ : ∀ t3 t4 a h n s, F5_L110100 t3 t4 h n s → n0 ≤ n → GrowI h a t3 (lentI l 5) → n0 ≤ a → a < n → Same n0 [] h0 h → Q (.exit 0) s) :
    ∀ m s, (∃ i h n t3 a, m = 5 - i ∧ i ≤ 5 ∧ F5_L110100 t3 (.s (.int .i64 (i : Nat))) h n s ∧ n0 ≤ n ∧ GrowI h a t3 (lentI l i) ∧ n0 ≤ a ∧ (l ≠ [] → a < n) ∧ (i ≠ 0 → a < n) ∧ Same n0 [] h0 h) →
      LoopK CC none (subC [1, 1, 0, 1, 0, 0] (bodyOf Go.Proofs.Tryz.f5)) s Q := by
  refine loopH CCok _ ?_
  rintro m s ⟨i, h, n, t3, a, hm, hi, hs', hn, hG, ha0, ha1, ha, hsame⟩ hlt
  obtain ⟨g, rfl⟩ := hs'
  rw [F5_b110100]
  replace hlt : ∀ b o, h.get b = some o → b < n := hlt
  by_cases hi' : i < 5
  · have hi'' : (i : Int) < 5 := by omega
    have e3 : wrapF .i64 ((i : Int) + 1) = ((i + 1 : Nat) : Int) := by rw [wrapF_i64 (by omega) (by omega)]; rfl
    simp [hi'', Insn.l]
    refine CallK.monoN ?_ (mark_ok _ _ _)
    rintro v h1 n1 ⟨rfl, hs1⟩ hn1
    simp [Insn.l]
    obtain ⟨a2, b1, b2, hG'⟩ : ∃ a2, n0 ≤ a2 ∧ a2 ≤ n1 ∧ GrowI (h1.set n1 (.cells (.lst (markI (i : Int)).l) 5)) a2 t3 (lentI l i) := by
      rcases hG with H | ⟨o, c, op, A, k1, k2, k3, k4⟩
      · exact ⟨n1, by omega, by omega, .inl H⟩
      · have := hlt _ _ k3
        exact ⟨a, ha0, by omega, .inr ⟨o, c, op, A, k1, k2, by rw [Tree.get_set, if_neg (by omega), hs1 a (by omega) (by simp)]; exact k3, k4⟩⟩
    refine grow_ok (m := 1) (new := flat Insn.l [markI (i : Int)]) (by omega) hG' (oneI_row h1 n1 (markI (i : Int))) (by omega) (by rw [lentI_length]; omega) ?_
    intro v' a' h2 n2 ha' han' hn2 hG2 hs2
    refine ⟨5 - (i + 1), h2, by omega, fun hok b o hb => ⟨o, hb, hok b o hb⟩, i + 1, rfl, by omega, h2, n2, v', by rw [e3]; exact F5_L110100_of, by omega, a', ?_, by omega, by omega, by omega, ?_⟩
    · unfold GrowI
      rw [lentI, flat_append, List.length_append]
      exact hG2
    · intro b' hb' hn'
      rw [hs2 b' (by omega) (by omega), Tree.get_set, if_neg (by omega), hs1 b' (by omega) (by simp), hsame b' hb' hn']
  · have : i = 5 := by omega
    subst this
    simp [roundQ]
    exact hQ t3 _ a h n _ F5_L110100_of hn hG ha0 (ha (by decide)) hsame
theorem lent_ok {b : Nat} {sl : V} {l : List Insn} (hl : l.length ≤ 2000) {h : Heap} {n : Nat} (hb : b < n) (hs : InsnsAt h b sl l) :
    CallK CC 5 [sl] h n fun v h' n' => (∃ a, n ≤ a ∧ a < n' ∧ GrowI h' a v (lentI l 5)) ∧ Same n [] h h' := by
  refine F5_call fun hlt => ?_
  rw [F5_eq]
  refine CallK.monoN ?_ (copyInsns_ok hl hb hs)
  rintro v h1 n1 ⟨⟨a, ha, ha', hG⟩, hs1⟩ hn1
  refine lent_loop hl (n0 := n) (h0 := h) ?_ _ _ ⟨0, h1, n1, _, a, rfl, by omega, F5_L110100_of, by omega, hG, ha, ha', by omega, hs1⟩
  intro t3 t4 a h' n' s hs hn hG ha ha' hsame
  obtain ⟨g, rfl⟩ := hs
  rw [F5_r110100_0]
  exact ⟨⟨a, by omega, ha', hG⟩, hsame⟩

/-! ### Lists that are the same -/
theorem insn_eq (cst : Bool) (x : Insn) : binop CC .neq 54 cst (.agg (.lst x.l)) (.agg (.lst x.l)) = some (.s (.bool false)) := by
  have hq : ((ty CC 54).bind fun i => some (i.guard, i.agg, i.size)) = some (false, true, 5) := by kernel_rfl
  cases hi : ty CC 54 with
  | none => rw [hi] at hq; cases hq
  | some i =>
    rw [hi] at hq
    simp at hq
    exact (binop_plain hi (by kernel_rfl) hq.1 hq.2.1 cst (by rw [hq.2.2]; rfl) x.l_ints).2
theorem sameI_loop {a b : Nat} {x y : V} {l : List Insn} {Q : X → St → Prop} {h0 : Heap} (hx : InsnsAt h0 a x l) (hy : InsnsAt h0 b y l) (hl : l.length ≤ 1000000)
    (hQ : ∀ t5 n s, F10_L110100 x y t5 h0 n s → Q (.exit 0) s) :
    ∀ m s, (∃ i n, m = l.length - i ∧ i ≤ l.length ∧ F10_L110100 x y (.s (.int .i64 i)) h0 n s) →
      LoopK CC none (subC [1, 1, 0, 1, 0, 0] (bodyOf Go.Proofs.Tryz.f10)) s Q := by
  refine loopH CCok _ ?_
  rintro m s ⟨i, n, hm, hi, hs⟩ hlt
  obtain ⟨g, rfl⟩ := hs
  rw [F10_b110100]
  by_cases hi' : i < l.length
  · have e3 : wrapF .i64 ((i : Int) + 1) = ((i + 1 : Nat) : Int) := by rw [wrapF_i64 (by omega) (by omega)]; rfl
    obtain ⟨p, A, es, p1, p2, p3, p4⟩ := hx.ix hi'
    obtain ⟨q, B, es', q1, q2, q3, q4⟩ := hy.ix hi'
    simp [hx.len, hi', p1, p2, p3, p4, q1, q2, q3, q4, ble_dec, insn_eq]
    exact ⟨l.length - (i + 1), h0, by omega, fun hok b o hb => ⟨o, hb, hok b o hb⟩, i + 1, rfl, by omega, _, by rw [e3]; exact F10_L110100_of⟩
  · have : i = l.length := by omega
    subst this
    simp [hx.len, roundQ]
    exact hQ _ n _ F10_L110100_of
theorem sameI_ok {a b : Nat} {x y : V} {l : List Insn} {h : Heap} {n : Nat} (hx : InsnsAt h a x l) (hy : InsnsAt h b y l) (hl : l.length ≤ 1000000) :
    CallK CC 10 [x, y] h n fun v h' n' => v = .s (.bool true) ∧ h' = h := by
  refine F10_call fun hlt => ?_
  rw [F10_eq]
  simp [hx.len, hy.len]
  refine sameI_loop hx hy hl ?_ _ _ ⟨0, n, rfl, by omega, F10_L110100_of⟩
  intro t5 n' s hs
  obtain ⟨g, rfl⟩ := hs
  rw [F10_r110100_0]
  exact ⟨rfl, rfl⟩
/-- The first of a slice. -/
theorem GrowI.take {h : Heap} {b : Nat} {v : V} {l : List Insn} (H : GrowI h b v l) {k : Nat} (hk : k ≤ l.length) (h0 : l ≠ []) : ∃ v', sliceOp CC 22 v none (some (.s (.int .i64 k))) none = some v' ∧ InsnsAt h b v' (l.take k) := by
  rcases H with ⟨rfl, h2, _⟩ | ⟨o, c, op, A, rfl, h2, h3, h4, h4', h5⟩
  · exact absurd (List.length_eq_zero_iff.1 h2) h0
  · have hkc : k ≤ c := by omega
    refine ⟨.slice b o k c op, by simp [asNat_int, bounds, bound, ble_dec, hkc], ?_⟩
    have hkl : (l.take k).length = k := by simp; omega
    refine .inr ⟨o, c, op, A, 5, by rw [hkl], by simp [cellsAt, h3], ?_, by rw [flatI_length]⟩
    have e : flat Insn.l (l.take k) = (flat Insn.l l).take (k * 5) := by rw [← flat_take (k := 5) k (fun _ _ => rfl)]
    rw [hkl, e, ← h5, List.take_take, Nat.min_eq_left (Nat.mul_le_mul_right _ hk)]

theorem kept_loop {a b : Nat} {x y : V} {l : List Insn} {Q : X → St → Prop} {n0 : Nat} {h0 : Heap} (hx : InsnsAt h0 a x (lentI l 5)) (hy : InsnsAt h0 b y l) (hl : l.length ≤ 1000000) (ha : a < n0) (hb : b < n0)
    (hQ : ∀ t5 h n s, F8_L110100 x y t5 h n s → n0 ≤ n → Same n0 [] h0 h → Q (.exit 0) s) :
    ∀ m s, (∃ i h n, m = 5 - i ∧ i ≤ 5 ∧ F8_L110100 x y (.s (.int .i64 (i : Nat))) h n s ∧ n0 ≤ n ∧ Same n0 [] h0 h) →
      LoopK CC none (subC [1, 1, 0, 1, 0, 0] (bodyOf Go.Proofs.Tryz.f8)) s Q := by
  refine loopH CCok _ ?_
  rintro m s ⟨i, h, n, hm, hi, hs, hn, hsm⟩ hlt
  obtain ⟨g, rfl⟩ := hs
  rw [F8_b110100]
  have hx1 := hx.of (hsm a ha (by simp))
  have hy1 := hy.of (hsm b hb (by simp))
  by_cases hi' : i < 5
  · have hi'' : (i : Int) < 5 := by omega
    have e3 : wrapF .i64 ((i : Int) + 1) = ((i + 1 : Nat) : Int) := by rw [wrapF_i64 (by omega) (by omega)]; rfl
    obtain ⟨J, hJ⟩ : ∃ J : Nat, J = l.length + i := ⟨_, rfl⟩
    have e4 : wrapF .i64 ((l.length : Int) + i) = (J : Int) := by rw [wrapF_i64 (by omega) (by omega)]; omega
    have hJl : J < (lentI l 5).length := by rw [lentI_length]; omega
    have hget : (lentI l 5)[J] = markI (i : Int) := by
      have : ∀ k, k ≤ 5 → i < k → ∀ h, (lentI l k)[J]'h = markI (i : Int) := by
        intro k
        induction k with
        | zero => intro _ h; omega
        | succ k ih =>
          intro hk hik h
          by_cases e : i = k
          · subst e
            simp only [lentI]
            rw [List.getElem_append_right (by rw [lentI_length]; omega)]
            simp
          · simp only [lentI]
            rw [List.getElem_append_left (by rw [lentI_length]; omega)]
            exact ih (by omega) (by omega) _
      exact this 5 (by omega) hi' _
    obtain ⟨p, A, es, p1, p2, p3, p4⟩ := hx1.ix hJl
    rw [hget] at p3
    simp [hy1.len, hi'', e4, p1, p2, p3, p4, ble_dec]
    refine CallK.monoN ?_ (mark_ok _ _ _)
    rintro v h1 n1 ⟨rfl, hs1⟩ hn1
    have hy2 := hy1.of (hs1 b (by omega) (by simp))
    have p2' : cellsAt h1 a = some (.lst A, es) := by unfold cellsAt at p2 ⊢; rw [hs1 a (by omega) (by simp)]; exact p2
    simp [hy2.len, p2', p3, p4, ble_dec, insn_eq]
    exact ⟨5 - (i + 1), h1, by omega, fun hok b o hb => ⟨o, hb, hok b o hb⟩, i + 1, rfl, by omega, h1, n1, by rw [e3]; exact F8_L110100_of, by omega, fun b' hb' _ => by rw [hs1 b' (by omega) (by simp), hsm b' hb' (by simp)]⟩
  · have : i = 5 := by omega
    subst this
    simp [roundQ]
    exact hQ _ h n _ F8_L110100_of hn hsm
theorem kept_ok {a b : Nat} {x y : V} {l : List Insn} {h : Heap} {n : Nat} (hx : GrowI h a x (lentI l 5)) (hy : InsnsAt h b y l) (hl : l.length ≤ 1000000) (ha : a < n) (hb : b < n) :
    CallK CC 8 [x, y] h n fun v h' n' => v = .s (.bool true) ∧ Same n [] h h' := by
  refine F8_call fun hlt => ?_
  rw [F8_eq]
  have hx' := hx.at
  have hln : (lentI l 5).length = l.length + 5 := lentI_length l 5
  have e1 : wrapF .i64 ((l.length : Int) + 5) = ((l.length + 5 : Nat) : Int) := by rw [wrapF_i64 (by omega) (by omega)]; rfl
  have hne : lentI l 5 ≠ [] := fun e => by rw [e] at hln; simp at hln
  obtain ⟨v', s1, s2⟩ := hx.take (k := l.length) (by omega) hne
  have htk : (lentI l 5).take l.length = l := by
    have : ∀ k, (lentI l k).take l.length = l := by
      intro k
      induction k with
      | zero => simp [lentI]
      | succ k ih => rw [lentI, List.take_append_of_le_length (by rw [lentI_length]; omega), ih]
    exact this 5
  rw [htk] at s2
  have l1 := hx'.len h
  rw [hln] at l1
  simp [l1, hy.len, e1, s1]
  refine CallK.monoN ?_ (sameI_ok s2 hy hl)
  rintro v h1 n1 ⟨rfl, rfl⟩ hn1
  simp
  refine kept_loop hx' hy hl ha hb (n0 := n) (h0 := h1) ?_ _ _ ⟨0, h1, n1, rfl, by omega, F8_L110100_of, by omega, Same.refl _ _ _⟩
  intro t5 h' n' s hs hn hsm
  obtain ⟨g, rfl⟩ := hs
  rw [F8_r110100_0]
  exact ⟨rfl, hsm⟩

theorem spoil_loop {o c a N : Nat} {op : Bool} {Q : X → St → Prop} {n0 : Nat} {h0 : Heap} (hN : N ≤ c) (hl : N ≤ 1000000) (ha : a < n0)
    (hQ : ∀ t2 h n s, F9_L100 (.slice a o N c op) t2 h n s → n0 ≤ n → Same n0 [a] h0 h → Q (.exit 0) s) :
    ∀ m s, (∃ i h n A, m = N - i ∧ i ≤ N ∧ F9_L100 (.slice a o N c op) (.s (.int .i64 (i : Nat))) h n s ∧ n0 ≤ n ∧ h.get a = some (.cells (.lst A) 5) ∧ o + c * 5 ≤ A.length ∧ Same n0 [a] h0 h) →
      LoopK CC none (subC [1, 0, 0] (bodyOf Go.Proofs.Tryz.f9)) s Q := by
  refine loopH CCok _ ?_
  rintro m s ⟨i, h, n, A, hm, hi, hs, hn, hA, hAl, hsm⟩ hlt
  obtain ⟨g, rfl⟩ := hs
  rw [F9_b100]
  by_cases hi' : i < N
  · have e3 : wrapF .i64 ((i : Int) + 1) = ((i + 1 : Nat) : Int) := by rw [wrapF_i64 (by omega) (by omega)]; rfl
    simp [hi']
    refine CallK.monoN ?_ (mark_ok _ _ _)
    rintro v h1 n1 ⟨rfl, hs1⟩ hn1
    have hA1 : h1.get a = some (.cells (.lst A) 5) := by rw [hs1 a (by omega) (by simp), hA]
    have hle : (i + 1) * 5 ≤ c * 5 := Nat.mul_le_mul_right _ (by omega)
    have hp : o + i * 5 + 5 ≤ A.length := by rw [Nat.add_mul] at hle; omega
    simp [hi', asNat_int, blt_dec, storeCells, cellsOwn, hA1, put_lst, ble_dec, hp]
    refine ⟨N - (i + 1), _, by omega, fun hok b o hb => ⟨o, hb, hok b o hb⟩, i + 1, rfl, by omega, _, n1, by rw [e3]; exact F9_L100_of, by omega, _, by rw [Tree.get_set, if_pos rfl], ?_, ?_⟩
    · rw [splice_length (by rw [Insn.l_length]; exact hp)]; exact hAl
    · intro b' hb' hn'
      simp at hn'
      rw [Tree.get_set, if_neg hn', hs1 b' (by omega) (by simp), hsm b' hb' (by simp [hn'])]
  · have : i = N := by omega
    subst this
    simp [roundQ]
    exact hQ _ h n _ F9_L100_of hn hsm
theorem spoil_ok {a : Nat} {v : V} {l : List Insn} {h : Heap} {n : Nat} (hG : GrowI h a v l) (hl : l.length ≤ 1000000) (ha : a < n) :
    CallK CC 9 [v] h n fun r h' n' => Same n [a] h h' := by
  refine F9_call fun hlt => ?_
  rw [F9_eq]
  rcases hG with ⟨rfl, _, _⟩ | ⟨o, c, op, A, rfl, h2, h3, h4, _, _⟩
  · refine loop_once CCok ?_
    rw [F9_b100]
    simp [roundQ]
    rw [F9_r100_0]
    exact fun _ _ _ => rfl
  · refine spoil_loop (o := o) (c := c) (a := a) (N := l.length) (op := op) h2 hl ha (n0 := n) (h0 := h) ?_ _ _ ⟨0, h, n, A, rfl, by omega, F9_L100_of, by omega, h3, h4, fun _ _ _ => rfl⟩
    intro t2 h' n' s hs hn hsm
    obtain ⟨g, rfl⟩ := hs
    rw [F9_r100_0]
    exact hsm

/-! ### Lists of numbers -/
def intsV (l : List Int) : List V := l.map fun x => .s (.int .i64 x)
@[simp] theorem intsV_length (l : List Int) : (intsV l).length = l.length := by simp [intsV]
def IntsAt (h : Heap) (b : Nat) (v : V) (l : List Int) : Prop := SliceAt h b v 1 l.length (intsV l)
def GrowN (h : Heap) (a : Nat) (v : V) (l : List Int) : Prop := GrowAt h a v 1 l.length (intsV l)
theorem IntsAt.of {h h' : Heap} {b : Nat} {v : V} {l : List Int} (H : IntsAt h b v l) (e : h'.get b = h.get b) : IntsAt h' b v l := SliceAt.of H e
theorem GrowN.of {h h' : Heap} {b : Nat} {v : V} {l : List Int} (H : GrowN h b v l) (e : h'.get b = h.get b) : GrowN h' b v l := GrowAt.of H e
theorem GrowN.at {h : Heap} {b : Nat} {v : V} {l : List Int} (H : GrowN h b v l) : IntsAt h b v l := GrowAt.at H
theorem IntsAt.vcl {h : Heap} {b : Nat} {sl : V} {l : List Int} (H : IntsAt h b sl l) : vcl sl = some [sl] ∧ normV sl = sl ∧ V.cells sl = some (.one sl) := by
  rcases H with ⟨rfl, _⟩ | ⟨o, c, op, A, es, rfl, _⟩
  · simp
  · simp
theorem IntsAt.len {h : Heap} {b : Nat} {v : V} {l : List Int} (H : IntsAt h b v l) (h' : Heap) : lenV CC h' 25 v = some (.s (.int .i64 l.length)) := by
  rcases H with ⟨rfl, h2, _⟩ | ⟨o, c, op, A, es, rfl, _⟩
  · rw [h2]; simp
  · simp
theorem IntsAt.ix {h : Heap} {b : Nat} {v : V} {l : List Int} (H : IntsAt h b v l) {i : Nat} (hi : i < l.length) : ∃ p, indexAddr CC 25 v (.s (.int .i64 i)) = some (.ptr b p) ∧ (cellsAt h b).bind (fun c => c.1.get p) = some (.s (.int .i64 l[i])) := by
  rcases H with ⟨rfl, h2, _⟩ | ⟨o, c, op, A, es, rfl, h2, h3, h4⟩
  · omega
  · refine ⟨o + i, by simp [asNat_int, blt_dec, hi], ?_⟩
    rw [h2]
    simp
    have : ((A.drop o).take (l.length * 1))[i]? = (intsV l)[i]? := by rw [h3]
    rw [List.getElem?_take, if_pos (by omega), List.getElem?_drop] at this
    rw [this]
    simp [intsV, hi]
theorem sameN_loop {a b : Nat} {x y : V} {l : List Int} {Q : X → St → Prop} {h0 : Heap} (hx : IntsAt h0 a x l) (hy : IntsAt h0 b y l) (hl : l.length ≤ 1000000)
    (hQ : ∀ t5 n s, F11_L110100 x y t5 h0 n s → Q (.exit 0) s) :
    ∀ m s, (∃ i n, m = l.length - i ∧ i ≤ l.length ∧ F11_L110100 x y (.s (.int .i64 i)) h0 n s) →
      LoopK CC none (subC [1, 1, 0, 1, 0, 0] (bodyOf Go.Proofs.Tryz.f11)) s Q := by
  refine loopH CCok _ ?_
  rintro m s ⟨i, n, hm, hi, hs⟩ hlt
  obtain ⟨g, rfl⟩ := hs
  rw [F11_b110100]
  by_cases hi' : i < l.length
  · have e3 : wrapF .i64 ((i : Int) + 1) = ((i + 1 : Nat) : Int) := by rw [wrapF_i64 (by omega) (by omega)]; rfl
    obtain ⟨p, p1, p2⟩ := hx.ix hi'
    obtain ⟨q, q1, q2⟩ := hy.ix hi'
    simp [hx.len, hi', p1, p2, q1, q2]
    exact ⟨l.length - (i + 1), h0, by omega, fun hok b o hb => ⟨o, hb, hok b o hb⟩, i + 1, rfl, by omega, _, by rw [e3]; exact F11_L110100_of⟩
  · have : i = l.length := by omega
    subst this
    simp [hx.len, roundQ]
    exact hQ _ n _ F11_L110100_of
theorem sameN_ok {a b : Nat} {x y : V} {l : List Int} {h : Heap} {n : Nat} (hx : IntsAt h a x l) (hy : IntsAt h b y l) (hl : l.length ≤ 1000000) :
    CallK CC 11 [x, y] h n fun v h' n' => v = .s (.bool true) ∧ h' = h := by
  refine F11_call fun hlt => ?_
  rw [F11_eq]
  simp [hx.len, hy.len]
  refine sameN_loop hx hy hl ?_ _ _ ⟨0, n, rfl, by omega, F11_L110100_of⟩
  intro t5 n' s hs
  obtain ⟨g, rfl⟩ := hs
  rw [F11_r110100_0]
  exact ⟨rfl, rfl⟩

theorem within_ok (x lo hi : Int) (h : Heap) (n : Nat) : CallK CC 32 [.s (.int .i64 x), .s (.int .i64 lo), .s (.int .i64 hi)] h n fun v h' n' => v = .s (.bool (decide (lo ≤ x ∧ x ≤ hi))) ∧ h' = h ∧ n' = n := by
  refine F32_call fun hlt => ?_
  rw [F32_eq]
  by_cases a1 : lo ≤ x
  · by_cases a2 : x ≤ hi
    · simp [a1, a2]
    · simp [a1, a2]
  · simp [a1]
theorem has_ok (x : Int) (b : Nat) (hb : b = 16 ∨ b = 32) (h : Heap) (n : Nat) : CallK CC 33 [.s (.int .i64 x), .s (.int .i64 b)] h n fun v h' n' => v = .s (.bool (decide (-(2 ^ (b - 1) : Nat) ≤ x ∧ x ≤ (2 ^ (b - 1) : Nat) - 1))) ∧ h' = h := by
  refine F33_call fun hlt => ?_
  rw [F33_eq]
  rcases hb with rfl | rfl
  · have e0 : wrapF .i64 ((16 : Nat) - 1 : Int) = 15 := by decide
    have e1 : shlI .i64 (-1) 15 = -32768 := by decide
    have e2 : shlI .i64 1 15 = 32768 := by decide
    have e3 : wrapF .i64 (32768 - 1) = 32767 := by decide
    simp only [bin_sub, oK_some, e0, bin_shl _ _ _ _ _ (show (0 : Int) ≤ 15 by decide), e1, e2, e3]
    refine CallK.monoN ?_ (within_ok _ _ _ _ _)
    rintro v h' n' ⟨rfl, rfl, rfl⟩ _
    exact ⟨trivial, rfl, rfl⟩
  · have e0 : wrapF .i64 ((32 : Nat) - 1 : Int) = 31 := by decide
    have e1 : shlI .i64 (-1) 31 = -2147483648 := by decide
    have e2 : shlI .i64 1 31 = 2147483648 := by decide
    have e3 : wrapF .i64 (2147483648 - 1) = 2147483647 := by decide
    simp only [bin_sub, oK_some, e0, bin_shl _ _ _ _ _ (show (0 : Int) ≤ 31 by decide), e1, e2, e3]
    refine CallK.monoN ?_ (within_ok _ _ _ _ _)
    rintro v h' n' ⟨rfl, rfl, rfl⟩ _
    exact ⟨trivial, rfl, rfl⟩

def usesFit (op : Nat) (r : Option (List Value)) : Bool :=
  match r, useOf op with
  | some [.int .i64 b, .bool true], some u => decide (b = u.bits)
  | some [.int .i64 _, .bool false], none => true
  | _, _ => false
theorem uses_all : ((List.range 256).all fun op => usesFit op (answersTup (Ctx.of Go.Proofs.Tryz.prog 0) 31 [.int .i64 op])) = true := by kernel_rfl
theorem uses_ok (op : Int) (h : Heap) (n : Nat) : CallK CC 31 [.s (.int .i64 op)] h n fun v h' n' => h' = h ∧ ∃ (b : Int) (is : Bool), v = .tup [.s (.int .i64 b), .s (.bool is)] ∧
    ((is = false ∧ useOf op = none) ∨ ∃ u, is = true ∧ useOf op = some u ∧ b = u.bits) := by
  by_cases hop : 0 ≤ op ∧ op < 256
  · obtain ⟨k, rfl⟩ : ∃ k : Nat, op = k := ⟨op.toNat, by omega⟩
    have hall := List.all_eq_true.1 uses_all k (List.mem_range.2 (by omega))
    cases ha : answersTup (Ctx.of Go.Proofs.Tryz.prog 0) 31 [.int .i64 k] with
    | none => rw [ha] at hall; simp [usesFit] at hall
    | some xs =>
      rw [ha] at hall
      refine CallK.mono' ?_ (closedTup typesFine namesFine mixedFine ha h n)
      rintro v h' n' ⟨rfl, rfl, rfl⟩
      refine ⟨rfl, ?_⟩
      unfold usesFit at hall
      split at hall
      · rename_i b u h1 h2
        cases h1
        exact ⟨b, true, rfl, .inr ⟨u, rfl, h2, of_decide_eq_true hall⟩⟩
      · rename_i b h1 h2
        cases h1
        exact ⟨b, false, rfl, .inl ⟨rfl, h2⟩⟩
      · cases hall
  · refine F31_call fun hlt => ?_
    rw [F31_eq]
    refine CallK.monoN ?_ (within_ok _ _ _ _ _)
    rintro v h' n' ⟨rfl, rfl, rfl⟩ _
    have hd : decide (0 ≤ op ∧ op ≤ 255) = false := decide_eq_false (by omega)
    rw [hd]
    simp
    cases hu : useOf op with
    | none => rfl
    | some u => exact absurd (useOf_range hu) hop


theorem size_ok (x : Insn) (h : Heap) (n : Nat) : CallK CC 36 [.agg (.lst x.l)] h n fun v h' n' => v = .s (.int .i64 (sizeM x)) ∧ Same n [] h h' := by
  refine F36_call fun hlt => ?_
  rw [F36_eq]
  by_cases hx : x.op = 24
  · simp [Insn.l, cellsAt, Tree.get_set, hx, sizeM]
    exact fun b hb _ => by rw [Tree.get_set, if_neg (by omega)]
  · simp [Insn.l, cellsAt, Tree.get_set, hx, sizeM]
    exact fun b hb _ => by rw [Tree.get_set, if_neg (by omega)]

theorem bits_masks : ∀ a b c d e : Bool, bitsI .and .i64 ((Use.mk a b c d e).bits : Int) 1 = (if a then 1 else 0) ∧ bitsI .and .i64 ((Use.mk a b c d e).bits : Int) 2 = (if b then 2 else 0) ∧
    bitsI .and .i64 ((Use.mk a b c d e).bits : Int) 4 = (if c then 4 else 0) ∧ bitsI .and .i64 ((Use.mk a b c d e).bits : Int) 8 = (if d then 8 else 0) ∧ bitsI .and .i64 ((Use.mk a b c d e).bits : Int) 16 = (if e then 16 else 0) := by decide +kernel
def maskAt (i : Nat) : Int := [1, 2, 4, 8].getD i 0
def fieldAt (x : Insn) (i : Nat) : Int := [x.dst, x.src, x.off, x.imm].getD i 0
def usedAt (u : Use) (i : Nat) : Bool := [u.dst, u.src, u.off, u.imm].getD i false
theorem mask_used (u : Use) (i : Nat) (hi : i < 4) : (bitsI .and .i64 (u.bits : Int) (maskAt i) = 0) ↔ usedAt u i = false := by
  obtain ⟨a, b, c, d, e⟩ := u
  obtain ⟨h1, h2, h3, h4, _⟩ := bits_masks a b c d e
  have : i = 0 ∨ i = 1 ∨ i = 2 ∨ i = 3 := by omega
  rcases this with rfl | rfl | rfl | rfl
  · show bitsI .and .i64 _ 1 = 0 ↔ a = false
    rw [h1]; cases a <;> simp
  · show bitsI .and .i64 _ 2 = 0 ↔ b = false
    rw [h2]; cases b <;> simp
  · show bitsI .and .i64 _ 4 = 0 ↔ c = false
    rw [h3]; cases c <;> simp
  · show bitsI .and .i64 _ 8 = 0 ↔ d = false
    rw [h4]; cases d <;> simp
def badField (u : Use) (x : Insn) (i : Nat) : Prop := usedAt u i = false ∧ fieldAt x i ≠ 0
instance (u : Use) (x : Insn) (i : Nat) : Decidable (badField u x i) := inferInstanceAs (Decidable (_ ∧ _))
def fieldsV (x : Insn) : List V := [.s (.int .i64 1), .s (.int .i64 x.dst), .s (.int .i64 2), .s (.int .i64 x.src), .s (.int .i64 4), .s (.int .i64 x.off), .s (.int .i64 8), .s (.int .i64 x.imm)]
theorem fieldsV_at (x : Insn) (i : Nat) (hi : i < 4) : ((fieldsV x).drop (i * 2)).take 2 = [.s (.int .i64 (maskAt i)), .s (.int .i64 (fieldAt x i))] := by
  have : i = 0 ∨ i = 1 ∨ i = 2 ∨ i = 3 := by omega
  rcases this with rfl | rfl | rfl | rfl <;> rfl

theorem index_fields (x : Insn) (i : Nat) (hi : i < 4) : index CC 137 (.agg (.lst (fieldsV x))) (.s (.int .i64 i)) = some (.agg (.lst [.s (.int .i64 (maskAt i)), .s (.int .i64 (fieldAt x i))])) := by
  have : i = 0 ∨ i = 1 ∨ i = 2 ∨ i = 3 := by omega
  rcases this with rfl | rfl | rfl | rfl <;> (refine of_eq (a := index CC 137 _ _) ?_; kernel_rfl)
theorem fits_loop {x : Insn} {u : Use} {p : Nat} {Q : X → St → Prop} {n0 : Nat} {h0 : Heap}
    (hQ0 : ∀ t20 h n s, F34_L10100 (.s (.int .i64 u.bits)) (.ptr p 0) (.agg (.lst (fieldsV x))) t20 h n s → (∀ i, i < 4 → ¬ badField u x i) → n0 ≤ n → Same n0 [] h0 h → Q (.exit 0) s)
    (hQ1 : ∀ h n (L : List V), (∃ i, i < 4 ∧ badField u x i) → Same n0 [] h0 h → L[4]? = some (.s (.bool false)) → Q .ret ⟨mkTm L, h, n, []⟩) :
    ∀ m s, (∃ i h n, m = 4 - i ∧ i ≤ 4 ∧ F34_L10100 (.s (.int .i64 u.bits)) (.ptr p 0) (.agg (.lst (fieldsV x))) (.s (.int .i64 (i : Nat))) h n s ∧ (∀ j, j < i → ¬ badField u x j) ∧ n0 ≤ n ∧ Same n0 [] h0 h) →
      LoopK CC none (subC [1, 0, 1, 0, 0] (bodyOf Go.Proofs.Tryz.f34)) s Q := by
  refine loopH CCok _ ?_
  rintro m s ⟨i, h, n, hm, hi, hs, hbad, hn, hsm⟩ hlt
  obtain ⟨g, rfl⟩ := hs
  rw [F34_b10100]
  replace hlt : ∀ b o, h.get b = some o → b < n := hlt
  by_cases hi' : i < 4
  · have hi'' : (i : Int) < 4 := by omega
    have e3 : wrapF .i64 ((i : Int) + 1) = ((i + 1 : Nat) : Int) := by rw [wrapF_i64 (by omega) (by omega)]; rfl
    have hfl : (fieldsV x).length = 8 := rfl
    have hrow := fieldsV_at x i hi'
    have hle : i * 2 + 2 ≤ 8 := by omega
    have hmk := mask_used u i hi'
    simp [hi'', index_fields x i hi', cellsAt, Tree.get_set, storeCells, cellsOwn, put_lst, Rope.put, ble_dec, blt_dec, asNat_int]
    by_cases c1 : usedAt u i = false
    · by_cases c2 : fieldAt x i = 0
      · simp [hmk.2 c1, c2, Tree.get_set, asNat_int, blt_dec, cellsAt]
        exact ⟨4 - (i + 1), _, by omega, fun hok b o hb => ⟨o, hb, hok b o hb⟩, i + 1, rfl, by omega, _, n + 1, by rw [e3]; exact F34_L10100_of, fun j hj => (by
          by_cases ej : j = i
          · subst ej; exact fun hb => hb.2 c2
          · exact hbad j (by omega)), by omega, fun b' hb' _ => by rw [Tree.get_set, if_neg (by omega), Tree.get_set, if_neg (by omega), hsm b' hb' (by simp)]⟩
      · simp [hmk.2 c1, c2, Tree.get_set, roundQ, asNat_int, blt_dec, cellsAt]
        refine hQ1 _ _ _ ⟨i, hi', c1, c2⟩ ?_ rfl
        exact fun b' hb' _ => by rw [Tree.get_set, if_neg (by omega), Tree.get_set, if_neg (by omega), hsm b' hb' (by simp)]
    · have c3 : ¬ bitsI .and .i64 (u.bits : Int) (maskAt i) = 0 := fun h => c1 (hmk.1 h)
      simp [c3, Tree.get_set, asNat_int, blt_dec, cellsAt]
      exact ⟨4 - (i + 1), _, by omega, fun hok b o hb => ⟨o, hb, hok b o hb⟩, i + 1, rfl, by omega, _, n + 1, by rw [e3]; exact F34_L10100_of, fun j hj => (by
          by_cases ej : j = i
          · subst ej; exact fun hb => c1 hb.1
          · exact hbad j (by omega)), by omega, fun b' hb' _ => by rw [Tree.get_set, if_neg (by omega), Tree.get_set, if_neg (by omega), hsm b' hb' (by simp)]⟩
  · have : i = 4 := by omega
    subst this
    simp [roundQ]
    exact hQ0 _ h n _ F34_L10100_of hbad hn hsm

/-- Do an instruction's fields fit it? -/
def fitsM (u : Use) (x : Insn) : Prop := (∀ i, i < 4 → ¬ badField u x i) ∧ (x.op = 24 → x.src = 0 ∨ (x.src = 1 ∧ 1 ≤ x.imm ∧ x.imm ≤ 8)) ∧ (x.op = 212 ∨ x.op = 220 → x.imm = 16 ∨ x.imm = 32 ∨ x.imm = 64)
instance (u : Use) (x : Insn) : Decidable (fitsM u x) := by
  unfold fitsM; exact inferInstance
def FitsP (u : Use) (x : Insn) (v : V) : Prop := ∃ b : Bool, v = .s (.bool b) ∧ (b = true ↔ fitsM u x)
theorem FitsP.yes {u : Use} {x : Insn} (h : fitsM u x) : FitsP u x (.s (.bool true)) := ⟨true, rfl, fun _ => h, fun _ => rfl⟩
theorem FitsP.no {u : Use} {x : Insn} (h : ¬ fitsM u x) : FitsP u x (.s (.bool false)) := ⟨false, rfl, fun e => (by cases e), fun e => absurd e h⟩
theorem fits_ok (x : Insn) (u : Use) (hx : 0 ≤ x.op ∧ x.op < 256) (h : Heap) (n : Nat) :
    CallK CC 34 [.agg (.lst x.l), .s (.int .i64 u.bits)] h n fun v h' n' => FitsP u x v ∧ Same n [] h h' := by
  refine F34_call fun hlt => ?_
  rw [F34_eq]
  obtain ⟨o, ho⟩ : ∃ o : Nat, x.op = o := ⟨x.op.toNat, by omega⟩
  have ho' : o < 256 := by omega
  simp [Insn.l, cellsAt, Tree.get_set]
  have hfv : fieldsV x = [.s (.int .i64 1), .s (.int .i64 x.dst), .s (.int .i64 2), .s (.int .i64 x.src), .s (.int .i64 4), .s (.int .i64 x.off), .s (.int .i64 8), .s (.int .i64 x.imm)] := rfl
  rw [← hfv]
  refine fits_loop (x := x) (u := u) (p := n) (n0 := n + 1) (h0 := h.set n (.cells (.lst x.l) 5)) ?_ ?_ _ _ ⟨0, _, n + 1, rfl, by omega, F34_L10100_of, fun j hj => by omega, Nat.le_refl _, Same.refl _ _ _⟩
  · intro t20 h1 n1 s hs hgood hn hsm
    obtain ⟨g, rfl⟩ := hs
    rw [F34_r10100_0]
    have hx1 : h1.get n = some (.cells (.lst x.l) 5) := by rw [hsm n (by omega) (by simp), Tree.get_set, if_pos rfl]
    have sm : Same n [] h h1 := fun b hb _ => by rw [hsm b (by omega) (by simp), Tree.get_set, if_neg (by omega)]
    have s4 := op_shr4 o ho'
    have a7 := op_and7 o ho'
    by_cases c24 : o = 24
    · subst c24
      have no212 : (212 : Int) = 24 → False := by decide
      by_cases d0 : x.src = 0
      · simp [cellsAt, hx1, Insn.l, ho, d0]
        exact ⟨.yes ⟨hgood, fun _ => .inl d0, fun h => by omega⟩, sm⟩
      · by_cases d1 : x.src = 1
        · simp [cellsAt, hx1, Insn.l, ho, d0, d1]
          refine CallK.monoN ?_ (within_ok _ _ _ _ _)
          rintro v h' n' ⟨rfl, rfl, rfl⟩ _
          by_cases d2 : 1 ≤ x.imm ∧ x.imm ≤ 8
          · simp [d2]
            exact ⟨.yes ⟨hgood, fun _ => .inr ⟨d1, d2.1, d2.2⟩, fun h => by omega⟩, sm⟩
          · rw [decide_eq_false d2]
            exact ⟨.no fun h => by have := h.2.1 (by omega); omega, sm⟩
        · simp [cellsAt, hx1, Insn.l, ho, d0, d1]
          exact ⟨.no fun h => by have := h.2.1 (by omega); omega, sm⟩
    · have hne : ¬ (o : Int) = 24 := by omega
      by_cases c13 : o / 16 = 13
      · have c13' : (o : Int) / 16 = 13 := by omega
        by_cases c4 : o % 8 = 4
        · have c4' : (o : Int) % 8 = 4 := by omega
          by_cases i16 : x.imm = 16
          · simp [cellsAt, hx1, Insn.l, ho, hne, bin_shr, s4, c13', a7, c4', i16]
            exact ⟨.yes ⟨hgood, fun h => by omega, fun _ => .inl i16⟩, sm⟩
          · by_cases i32 : x.imm = 32
            · simp [cellsAt, hx1, Insn.l, ho, hne, bin_shr, s4, c13', a7, c4', i16, i32]
              exact ⟨.yes ⟨hgood, fun h => by omega, fun _ => .inr (.inl i32)⟩, sm⟩
            · by_cases i64 : x.imm = 64
              · simp [cellsAt, hx1, Insn.l, ho, hne, bin_shr, s4, c13', a7, c4', i16, i32, i64]
                exact ⟨.yes ⟨hgood, fun h => by omega, fun _ => .inr (.inr i64)⟩, sm⟩
              · simp [cellsAt, hx1, Insn.l, ho, hne, bin_shr, s4, c13', a7, c4', i16, i32, i64]
                exact ⟨.no fun h => by have := h.2.2 (by omega); omega, sm⟩
        · have c4' : ¬ (o : Int) % 8 = 4 := by omega
          simp [cellsAt, hx1, Insn.l, ho, hne, bin_shr, s4, c13', a7, c4']
          exact ⟨.yes ⟨hgood, fun h => by omega, fun h => by omega⟩, sm⟩
      · have c13' : ¬ (o : Int) / 16 = 13 := by omega
        simp [cellsAt, hx1, Insn.l, ho, hne, bin_shr, s4, c13']
        exact ⟨.yes ⟨hgood, fun h => by omega, fun h => by omega⟩, sm⟩
  · intro h1 n1 L ⟨i, hi, hbad⟩ hsm h4
    simp [resume, retW, dropDefs, h4]
    exact ⟨.no fun h => h.1 i hi hbad, fun b hb _ => by rw [hsm b (by omega) (by simp), Tree.get_set, if_neg (by omega)]⟩

theorem checkM_eq {x : Insn} {u : Use} (hu : useOf x.op = some u) : checkM x =
    if x.dst < 0 ∨ 10 < x.dst ∨ x.src < 0 ∨ 10 < x.src ∨ (u.writes = true ∧ x.dst = 10) then 5
    else if x.off < -32768 ∨ 32767 < x.off ∨ (x.op ≠ 24 ∧ (x.imm < -2147483648 ∨ 2147483647 < x.imm)) then 15
    else if fitsM u x then 0 else 6 := by
  unfold checkM
  rw [hu]
  simp only
  split
  · rfl
  · rename_i c1
    split
    · rfl
    · have hb : (∀ i, i < 4 → ¬ badField u x i) ↔ ¬ ((u.dst = false ∧ x.dst ≠ 0) ∨ (u.src = false ∧ x.src ≠ 0) ∨ (u.off = false ∧ x.off ≠ 0) ∨ (u.imm = false ∧ x.imm ≠ 0)) := by
        constructor
        · intro h e
          rcases e with e | e | e | e
          · exact h 0 (by decide) e
          · exact h 1 (by decide) e
          · exact h 2 (by decide) e
          · exact h 3 (by decide) e
        · intro h i hi e
          have : i = 0 ∨ i = 1 ∨ i = 2 ∨ i = 3 := by omega
          rcases this with rfl | rfl | rfl | rfl
          · exact h (.inl e)
          · exact h (.inr (.inl e))
          · exact h (.inr (.inr (.inl e)))
          · exact h (.inr (.inr (.inr e)))
      have hb' : fitsM u x ↔ (¬ ((u.dst = false ∧ x.dst ≠ 0) ∨ (u.src = false ∧ x.src ≠ 0) ∨ (u.off = false ∧ x.off ≠ 0) ∨ (u.imm = false ∧ x.imm ≠ 0)) ∧ (x.op = 24 → x.src = 0 ∨ (x.src = 1 ∧ 1 ≤ x.imm ∧ x.imm ≤ 8)) ∧ (x.op = 212 ∨ x.op = 220 → x.imm = 16 ∨ x.imm = 32 ∨ x.imm = 64)) := by
        unfold fitsM; rw [hb]
      by_cases b1 : (u.dst = false ∧ x.dst ≠ 0) ∨ (u.src = false ∧ x.src ≠ 0) ∨ (u.off = false ∧ x.off ≠ 0) ∨ (u.imm = false ∧ x.imm ≠ 0)
      · rw [if_pos b1, if_neg (fun h => (hb'.1 h).1 b1)]
      · rw [if_neg b1]
        by_cases b2 : (x.op = 212 ∨ x.op = 220) ∧ x.imm ≠ 16 ∧ x.imm ≠ 32 ∧ x.imm ≠ 64
        · rw [if_pos b2, if_neg]
          intro h
          have := (hb'.1 h).2.2 b2.1
          omega
        · rw [if_neg b2]
          by_cases b3 : x.op = 24 ∧ (1 < x.src ∨ (x.src = 1 ∧ (x.imm < 1 ∨ 8 < x.imm)))
          · rw [if_pos b3, if_neg]
            intro h
            have := (hb'.1 h).2.1 b3.1
            omega
          · rw [if_neg b3, if_pos]
            exact hb'.2 ⟨b1, fun h => by omega, fun h => by omega⟩
theorem check_ok (x : Insn) (h : Heap) (n : Nat) : CallK CC 17 [.agg (.lst x.l)] h n fun v h' n' => v = .s (.int .i64 (checkM x)) ∧ Same n [] h h' := by
  refine F17_call fun hlt => ?_
  rw [F17_eq]
  simp [Insn.l, cellsAt, Tree.get_set]
  refine CallK.monoN ?_ (uses_ok _ _ _)
  rintro v h1 n1 ⟨rfl, b, is, rfl, hu⟩ hn1
  have sm : Same n [] h (h.set n (.cells (.lst x.l) 5)) := Same.new _ _ _ _
  rcases hu with ⟨rfl, hu⟩ | ⟨u, rfl, hu, rfl⟩
  · simp
    refine ⟨?_, sm⟩
    unfold checkM; rw [hu]
  · simp [Tree.get_set]
    have hop := useOf_range hu
    have E := checkM_eq hu
    have wr : (bitsI .and .i64 (u.bits : Int) 16 = 0) ↔ u.writes = false := by
      obtain ⟨a, b, c, d, e⟩ := u
      rw [(bits_masks a b c d e).2.2.2.2]
      cases e <;> simp
    have hx1 : (h.set n (.cells (.lst [.s (.int .i64 x.op), .s (.int .i64 x.dst), .s (.int .i64 x.src), .s (.int .i64 x.off), .s (.int .i64 x.imm)]) 5)).get n = some (.cells (.lst [.s (.int .i64 x.op), .s (.int .i64 x.dst), .s (.int .i64 x.src), .s (.int .i64 x.off), .s (.int .i64 x.imm)]) 5) := by rw [Tree.get_set, if_pos rfl]
    obtain ⟨h1, hh1⟩ : ∃ h1, h1 = h.set n (.cells (.lst [.s (.int .i64 x.op), .s (.int .i64 x.dst), .s (.int .i64 x.src), .s (.int .i64 x.off), .s (.int .i64 x.imm)]) 5) := ⟨_, rfl⟩
    rw [← hh1] at hx1 ⊢
    have smh : Same n [] h h1 := by rw [hh1]; exact sm
    refine CallK.monoN ?_ (within_ok _ _ _ _ _)
    rintro v h' n' ⟨rfl, rfl, rfl⟩ _
    by_cases dr : 0 ≤ x.dst ∧ x.dst ≤ 10
    · rw [decide_eq_true dr]
      simp [hx1, cellsAt]
      refine CallK.monoN ?_ (within_ok _ _ _ _ _)
      rintro v h2 n2 ⟨rfl, rfl, rfl⟩ _
      by_cases sr : 0 ≤ x.src ∧ x.src ≤ 10
      · rw [decide_eq_true sr]
        cases hw : u.writes with
        | false =>
          simp [wr.2 hw, hx1, cellsAt]
          refine CallK.monoN ?_ (has_ok _ 16 (.inl rfl) _ _)
          rintro v h2 n2 ⟨rfl, rfl⟩ _
          by_cases hof : -32768 ≤ x.off ∧ x.off ≤ 32767
          · have hof' : decide (-((2 ^ (16 - 1) : Nat) : Int) ≤ x.off ∧ x.off ≤ ((2 ^ (16 - 1) : Nat) : Int) - 1) = true := decide_eq_true (by omega)
            rw [hof']
            by_cases c24 : x.op = 24
            · simp [c24, hx1, cellsAt]
              have hfit := fits_ok x u hop h2 n2
              simp only [Insn.l, c24] at hfit
              refine CallK.monoN ?_ hfit
              rintro v h3 n3 ⟨⟨bb, rfl, hbb⟩, hs3⟩ _
              have sm3 : Same n [] h h3 := fun b hb _ => by rw [hs3 b (by omega) (by simp), smh b hb (by simp)]
              rw [if_neg (show ¬ (x.dst < 0 ∨ 10 < x.dst ∨ x.src < 0 ∨ 10 < x.src ∨ (u.writes = true ∧ x.dst = 10)) from by simp only [hw]; intro e; rcases e with e | e | e | e | e <;> first | omega | cases e.1), if_neg (by omega)] at E
              cases bb with
              | true => simp; exact ⟨by rw [E, if_pos (hbb.1 rfl)], sm3⟩
              | false => simp; exact ⟨by rw [E, if_neg (fun h => by have := hbb.2 h; cases this)], sm3⟩
            · simp [c24, hx1, cellsAt]
              refine CallK.monoN ?_ (has_ok _ 32 (.inr rfl) _ _)
              rintro v h2 n2 ⟨rfl, rfl⟩ _
              by_cases him : -2147483648 ≤ x.imm ∧ x.imm ≤ 2147483647
              · have him' : decide (-((2 ^ (32 - 1) : Nat) : Int) ≤ x.imm ∧ x.imm ≤ ((2 ^ (32 - 1) : Nat) : Int) - 1) = true := decide_eq_true (by omega)
                rw [him']
                simp [hx1, cellsAt]
                have hfit := fits_ok x u hop h2 n2
                simp only [Insn.l] at hfit
                refine CallK.monoN ?_ hfit
                rintro v h3 n3 ⟨⟨bb, rfl, hbb⟩, hs3⟩ _
                have sm3 : Same n [] h h3 := fun b hb _ => by rw [hs3 b (by omega) (by simp), smh b hb (by simp)]
                rw [if_neg (show ¬ (x.dst < 0 ∨ 10 < x.dst ∨ x.src < 0 ∨ 10 < x.src ∨ (u.writes = true ∧ x.dst = 10)) from by simp only [hw]; intro e; rcases e with e | e | e | e | e <;> first | omega | cases e.1), if_neg (by omega)] at E
                cases bb with
                | true => simp; exact ⟨by rw [E, if_pos (hbb.1 rfl)], sm3⟩
                | false => simp; exact ⟨by rw [E, if_neg (fun h => by have := hbb.2 h; cases this)], sm3⟩
              · have him' : decide (-((2 ^ (32 - 1) : Nat) : Int) ≤ x.imm ∧ x.imm ≤ ((2 ^ (32 - 1) : Nat) : Int) - 1) = false := decide_eq_false (by omega)
                rw [him']
                simp
                refine ⟨?_, smh⟩
                rw [E, if_neg (show ¬ (x.dst < 0 ∨ 10 < x.dst ∨ x.src < 0 ∨ 10 < x.src ∨ (u.writes = true ∧ x.dst = 10)) from by simp only [hw]; intro e; rcases e with e | e | e | e | e <;> first | omega | cases e.1), if_pos (by omega)]
          · have hof' : decide (-((2 ^ (16 - 1) : Nat) : Int) ≤ x.off ∧ x.off ≤ ((2 ^ (16 - 1) : Nat) : Int) - 1) = false := decide_eq_false (by omega)
            rw [hof']
            simp
            refine ⟨?_, smh⟩
            rw [E, if_neg (show ¬ (x.dst < 0 ∨ 10 < x.dst ∨ x.src < 0 ∨ 10 < x.src ∨ (u.writes = true ∧ x.dst = 10)) from by simp only [hw]; intro e; rcases e with e | e | e | e | e <;> first | omega | cases e.1), if_pos (by omega)]
        | true =>
          have hw' : ¬ bitsI .and .i64 (u.bits : Int) 16 = 0 := fun e => by have := wr.1 e; rw [hw] at this; cases this
          by_cases d10 : x.dst = 10
          · simp [hw', hx1, d10, cellsAt]
            refine ⟨?_, smh⟩
            rw [E, if_pos]
            exact .inr (.inr (.inr (.inr ⟨hw, d10⟩)))
          · simp [hw', hx1, d10, cellsAt]
            refine CallK.monoN ?_ (has_ok _ 16 (.inl rfl) _ _)
            rintro v h2 n2 ⟨rfl, rfl⟩ _
            by_cases hof : -32768 ≤ x.off ∧ x.off ≤ 32767
            · have hof' : decide (-((2 ^ (16 - 1) : Nat) : Int) ≤ x.off ∧ x.off ≤ ((2 ^ (16 - 1) : Nat) : Int) - 1) = true := decide_eq_true (by omega)
              rw [hof']
              by_cases c24 : x.op = 24
              · simp [c24, hx1, cellsAt]
                have hfit := fits_ok x u hop h2 n2
                simp only [Insn.l, c24] at hfit
                refine CallK.monoN ?_ hfit
                rintro v h3 n3 ⟨⟨bb, rfl, hbb⟩, hs3⟩ _
                have sm3 : Same n [] h h3 := fun b hb _ => by rw [hs3 b (by omega) (by simp), smh b hb (by simp)]
                rw [if_neg (show ¬ (x.dst < 0 ∨ 10 < x.dst ∨ x.src < 0 ∨ 10 < x.src ∨ (u.writes = true ∧ x.dst = 10)) from by intro e; rcases e with e | e | e | e | e <;> first | omega | exact d10 e.2), if_neg (by omega)] at E
                cases bb with
                | true => simp; exact ⟨by rw [E, if_pos (hbb.1 rfl)], sm3⟩
                | false => simp; exact ⟨by rw [E, if_neg (fun h => by have := hbb.2 h; cases this)], sm3⟩
              · simp [c24, hx1, cellsAt]
                refine CallK.monoN ?_ (has_ok _ 32 (.inr rfl) _ _)
                rintro v h2 n2 ⟨rfl, rfl⟩ _
                by_cases him : -2147483648 ≤ x.imm ∧ x.imm ≤ 2147483647
                · have him' : decide (-((2 ^ (32 - 1) : Nat) : Int) ≤ x.imm ∧ x.imm ≤ ((2 ^ (32 - 1) : Nat) : Int) - 1) = true := decide_eq_true (by omega)
                  rw [him']
                  simp [hx1, cellsAt]
                  have hfit := fits_ok x u hop h2 n2
                  simp only [Insn.l] at hfit
                  refine CallK.monoN ?_ hfit
                  rintro v h3 n3 ⟨⟨bb, rfl, hbb⟩, hs3⟩ _
                  have sm3 : Same n [] h h3 := fun b hb _ => by rw [hs3 b (by omega) (by simp), smh b hb (by simp)]
                  rw [if_neg (show ¬ (x.dst < 0 ∨ 10 < x.dst ∨ x.src < 0 ∨ 10 < x.src ∨ (u.writes = true ∧ x.dst = 10)) from by intro e; rcases e with e | e | e | e | e <;> first | omega | exact d10 e.2), if_neg (by omega)] at E
                  cases bb with
                  | true => simp; exact ⟨by rw [E, if_pos (hbb.1 rfl)], sm3⟩
                  | false => simp; exact ⟨by rw [E, if_neg (fun h => by have := hbb.2 h; cases this)], sm3⟩
                · have him' : decide (-((2 ^ (32 - 1) : Nat) : Int) ≤ x.imm ∧ x.imm ≤ ((2 ^ (32 - 1) : Nat) : Int) - 1) = false := decide_eq_false (by omega)
                  rw [him']
                  simp
                  refine ⟨?_, smh⟩
                  rw [E, if_neg (show ¬ (x.dst < 0 ∨ 10 < x.dst ∨ x.src < 0 ∨ 10 < x.src ∨ (u.writes = true ∧ x.dst = 10)) from by intro e; rcases e with e | e | e | e | e <;> first | omega | exact d10 e.2), if_pos (by omega)]
            · have hof' : decide (-((2 ^ (16 - 1) : Nat) : Int) ≤ x.off ∧ x.off ≤ ((2 ^ (16 - 1) : Nat) : Int) - 1) = false := decide_eq_false (by omega)
              rw [hof']
              simp
              refine ⟨?_, smh⟩
              rw [E, if_neg (show ¬ (x.dst < 0 ∨ 10 < x.dst ∨ x.src < 0 ∨ 10 < x.src ∨ (u.writes = true ∧ x.dst = 10)) from by intro e; rcases e with e | e | e | e | e <;> first | omega | exact d10 e.2), if_pos (by omega)]
      · rw [decide_eq_false sr]
        simp
        refine ⟨?_, smh⟩
        rw [E, if_pos]
        omega
    · rw [decide_eq_false dr]
      simp
      refine ⟨?_, smh⟩
      rw [E, if_pos]
      omega
end Go.Ev
