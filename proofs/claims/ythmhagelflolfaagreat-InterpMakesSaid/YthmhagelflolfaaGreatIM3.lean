import Derived.Test.YthmhagelflolfaaGreatIM2
namespace Go.Ev
set_option maxRecDepth 20000

theorem op6_ok (x : Insn) (hx : 0 ≤ x.op ∧ x.op < 256) (h : Heap) (n : Nat) : CallK CC 74 [.agg (.lst x.l)] h n fun v h' n' => v = .s (.int .i64 (if x.op % 8 = 5 ∨ x.op % 8 = 6 then x.op / 16 else -1)) ∧ Same n [] h h' := by
  refine F74_call fun hlt => ?_
  rw [F74_eq]
  obtain ⟨o, ho⟩ : ∃ o : Nat, x.op = o := ⟨x.op.toNat, by omega⟩
  have m8 := op_mod8 o (by omega)
  have d16 : wrapF .i64 ((o : Int) / 16) = (o : Int) / 16 := wrapF_i64 (by omega) (by omega)
  rw [Int.natCast_emod] at m8
  have sm : ∀ r, Same n [] h (h.set n r) := fun r => Same.new _ _ _ _
  have br := fun cst => bin_rem (C := CC) 3 cst .i64 (o : Int) (show (8 : Int) ≠ 0 by decide)
  have bq := fun cst => bin_quo (C := CC) 3 cst .i64 (o : Int) (show (16 : Int) ≠ 0 by decide)
  by_cases c5 : (o : Int) % 8 = 5
  · simp [Insn.l, cellsAt, Tree.get_set, ho, br, bq, m8, d16, c5]
    exact sm _
  · by_cases c6 : (o : Int) % 8 = 6
    · simp [Insn.l, cellsAt, Tree.get_set, ho, br, bq, m8, d16, c6]
      exact sm _
    · simp [Insn.l, cellsAt, Tree.get_set, ho, br, bq, m8, d16, c5, c6]
      exact sm _
theorem jumps6_ok (x : Insn) (hx : 0 ≤ x.op ∧ x.op < 256) (h : Heap) (n : Nat) : CallK CC 40 [.agg (.lst x.l)] h n fun v h' n' => v = .s (.bool (jumpsM x.op)) ∧ Same n [] h h' := by
  refine F40_call fun hlt => ?_
  rw [F40_eq]
  have q := op6_ok x hx (h.set n (.cells (.lst x.l) 5)) (n + 1)
  simp only [Insn.l] at q
  simp [Insn.l, cellsAt, Tree.get_set]
  refine CallK.monoN ?_ q
  rintro v h' n' ⟨rfl, hs⟩ _
  have sm : Same n [] h h' := fun b hb _ => by rw [hs b (by omega) (by simp), Tree.get_set, if_neg (by omega)]
  unfold jumpsM
  by_cases c : x.op % 8 = 5 ∨ x.op % 8 = 6
  · rw [if_pos c]
    have c' : (x.op % 8 == 5 || x.op % 8 == 6) = true := by simpa using c
    have p0 : 0 ≤ x.op / 16 := by omega
    by_cases c8 : x.op / 16 = 8
    · simp [c', c8]; exact sm
    · by_cases c9 : x.op / 16 = 9
      · simp [c', c9]; exact sm
      · simp [c', c8, c9, p0]; exact sm
  · rw [if_neg c]
    have c' : (x.op % 8 == 5 || x.op % 8 == 6) = false := by
      have c1 : ¬ x.op % 8 = 5 := fun h => c (.inl h)
      have c2 : ¬ x.op % 8 = 6 := fun h => c (.inr h)
      simp [c1, c2]
    simp [c']; exact sm
theorem ja6_ok (x : Insn) (hx : 0 ≤ x.op ∧ x.op < 256) (h : Heap) (n : Nat) : CallK CC 43 [.agg (.lst x.l)] h n fun v h' n' => v = .s (.bool (decide (x.op % 8 = 5 ∧ x.op / 16 = 0))) ∧ Same n [] h h' := by
  refine F43_call fun hlt => ?_
  rw [F43_eq]
  obtain ⟨o, ho⟩ : ∃ o : Nat, x.op = o := ⟨x.op.toNat, by omega⟩
  have m8 := op_mod8 o (by omega)
  have d16 : wrapF .i64 ((o : Int) / 16) = (o : Int) / 16 := wrapF_i64 (by omega) (by omega)
  rw [Int.natCast_emod] at m8
  have sm : ∀ r, Same n [] h (h.set n r) := fun r => Same.new _ _ _ _
  have br := fun cst => bin_rem (C := CC) 3 cst .i64 (o : Int) (show (8 : Int) ≠ 0 by decide)
  have bq := fun cst => bin_quo (C := CC) 3 cst .i64 (o : Int) (show (16 : Int) ≠ 0 by decide)
  by_cases c5 : (o : Int) % 8 = 5
  · simp [Insn.l, cellsAt, Tree.get_set, ho, br, bq, m8, d16, c5]; exact sm _
  · simp [Insn.l, cellsAt, Tree.get_set, ho, br, bq, m8, d16, c5]; exact sm _
theorem exit6_ok (x : Insn) (hx : 0 ≤ x.op ∧ x.op < 256) (h : Heap) (n : Nat) : CallK CC 42 [.agg (.lst x.l)] h n fun v h' n' => v = .s (.bool (decide (x.op % 8 = 5 ∧ x.op / 16 = 9))) ∧ Same n [] h h' := by
  refine F42_call fun hlt => ?_
  rw [F42_eq]
  obtain ⟨o, ho⟩ : ∃ o : Nat, x.op = o := ⟨x.op.toNat, by omega⟩
  have m8 := op_mod8 o (by omega)
  have d16 : wrapF .i64 ((o : Int) / 16) = (o : Int) / 16 := wrapF_i64 (by omega) (by omega)
  rw [Int.natCast_emod] at m8
  have sm : ∀ r, Same n [] h (h.set n r) := fun r => Same.new _ _ _ _
  have br := fun cst => bin_rem (C := CC) 3 cst .i64 (o : Int) (show (8 : Int) ≠ 0 by decide)
  have bq := fun cst => bin_quo (C := CC) 3 cst .i64 (o : Int) (show (16 : Int) ≠ 0 by decide)
  by_cases c5 : (o : Int) % 8 = 5
  · simp [Insn.l, cellsAt, Tree.get_set, ho, br, bq, m8, d16, c5]; exact sm _
  · simp [Insn.l, cellsAt, Tree.get_set, ho, br, bq, m8, d16, c5]; exact sm _

theorem row_get {A : List V} {p : Nat} {x : Insn} (h : (A.drop p).take 5 = x.l) (j : Nat) (hj : j < 5) : A[p + j]? = x.l[j]? := by
  rw [← h, List.getElem?_take, if_pos hj, List.getElem?_drop]
theorem slot6_loop {b : Nat} {sl : V} {l : List Insn} {N : Nat} (hl : l.length ≤ 1000) (hN : N ≤ l.length) {Q : X → St → Prop} {n0 : Nat} {h0 : Heap} (hb : b < n0) (hs : InsnsAt h0 b sl l)
    (hQ : ∀ t6 h n s, F75_L110100 sl (.s (.int .i64 N)) (.s (.int .i64 (slotM l N))) t6 h n s → n0 ≤ n → Same n0 [] h0 h → Q (.exit 0) s) :
    ∀ m s, (∃ (i : Nat) (h : Heap) (n : Nat), m = N - i ∧ i ≤ N ∧ F75_L110100 sl (.s (.int .i64 N)) (.s (.int .i64 (slotM l i))) (.s (.int .i64 i)) h n s ∧ n0 ≤ n ∧ Same n0 [] h0 h) →
      LoopK CC none (subC [1, 1, 0, 1, 0, 0] (bodyOf Go.Proofs.Tryz.f75)) s Q := by
  refine loopH CCok _ ?_
  rintro m s ⟨i, h, n, hm, hi, hs', hn, hsame⟩ hlt
  obtain ⟨g, rfl⟩ := hs'
  rw [F75_b110100]
  replace hlt : ∀ b o, h.get b = some o → b < n := hlt
  have hs1 := hs.of (hsame b hb (by simp))
  by_cases hi' : i < N
  · have hil : i < l.length := by omega
    have e3 : wrapF .i64 ((i : Int) + 1) = ((i + 1 : Nat) : Int) := by rw [wrapF_i64 (by omega) (by omega)]; rfl
    obtain ⟨p, A, es, p1, p2, p3, p4⟩ := hs1.ix hil
    have hsucc := slotM_succ hil
    have hsb := slotM_bound l (show i + 1 ≤ l.length from hil)
    have e4 : wrapF .i64 ((slotM l i : Int) + (sizeM l[i] : Int)) = (slotM l (i + 1) : Nat) := by rw [wrapF_i64 (by omega) (by omega)]; omega
    simp [hi', p1, p2, p3, p4, ble_dec]
    refine CallK.monoN ?_ (rsize_ok l[i] h n)
    rintro v h1 n1 ⟨rfl, hs1⟩ hn1
    simp [e4]
    exact ⟨N - (i + 1), h1, by omega, fun hok b o hb => ⟨o, hb, hok b o hb⟩, i + 1, rfl, by omega, h1, n1, by rw [e3]; exact F75_L110100_of, by omega, fun b' hb' _ => by rw [hs1 b' (by omega) (by simp), hsame b' hb' (by simp)]⟩
  · have : i = N := by omega
    subst this
    simp [roundQ]
    exact hQ _ h n _ F75_L110100_of hn hsame
theorem slot6_ok {b : Nat} {sl : V} {l : List Insn} {N : Nat} (hl : l.length ≤ 1000) (hN : N ≤ l.length) {h : Heap} {n : Nat} (hb : b < n) (hs : InsnsAt h b sl l) :
    CallK CC 75 [sl, .s (.int .i64 N)] h n fun v h' n' => v = .s (.int .i64 (slotM l N)) ∧ Same n [] h h' := by
  refine F75_call fun hlt => ?_
  rw [F75_eq]
  have sl0 : ((slotM l 0 : Nat) : Int) = 0 := by simp [slotM]
  refine slot6_loop hl hN (n0 := n) (h0 := h) hb hs ?_ _ _ ⟨0, h, n, rfl, by omega, by rw [sl0]; exact F75_L110100_of, by omega, Same.refl _ _ _⟩
  intro t6 h' n' s hs hn hsame
  obtain ⟨g, rfl⟩ := hs
  rw [F75_r110100_0]
  exact ⟨rfl, hsame⟩
theorem target6_loop {b : Nat} {sl : V} {l : List Insn} {S : Int} (hl : l.length ≤ 1000) {Q : X → St → Prop} {n0 : Nat} {h0 : Heap} (hb : b < n0) (hs : InsnsAt h0 b sl l)
    (hQ0 : ∀ t6 h n s, F41_L110100 sl (.s (.int .i64 S)) t6 h n s → findM l S l.length = none → n0 ≤ n → Same n0 [] h0 h → Q (.exit 0) s)
    (hQ1 : ∀ h n (L : List V) k, findM l S l.length = some k → Same n0 [] h0 h → L[4]? = some (.s (.int .i64 (k : Nat))) → Q .ret ⟨mkTm L, h, n, []⟩) :
    ∀ m s, (∃ (i : Nat) (h : Heap) (n : Nat), m = l.length - i ∧ i ≤ l.length ∧ F41_L110100 sl (.s (.int .i64 S)) (.s (.int .i64 i)) h n s ∧ (∀ k, k < i → (slotM l k : Int) ≠ S) ∧ n0 ≤ n ∧ Same n0 [] h0 h) →
      LoopK CC none (subC [1, 1, 0, 1, 0, 0] (bodyOf Go.Proofs.Tryz.f41)) s Q := by
  refine loopH CCok _ ?_
  rintro m s ⟨i, h, n, hm, hi, hs', hne, hn, hsame⟩ hlt
  obtain ⟨g, rfl⟩ := hs'
  rw [F41_b110100]
  replace hlt : ∀ b o, h.get b = some o → b < n := hlt
  have hs1 := hs.of (hsame b hb (by simp))
  by_cases hi' : i < l.length
  · have e3 : wrapF .i64 ((i : Int) + 1) = ((i + 1 : Nat) : Int) := by rw [wrapF_i64 (by omega) (by omega)]; rfl
    simp [hs1.len, hi']
    refine CallK.monoN ?_ (slot6_ok hl hi (show b < n by omega) hs1)
    rintro v h1 n1 ⟨rfl, hs2⟩ hn1
    have sm : Same n0 [] h0 h1 := fun b' hb' _ => by rw [hs2 b' (by omega) (by simp), hsame b' hb' (by simp)]
    by_cases hS : (slotM l i : Int) = S
    · simp [hS, roundQ]
      exact hQ1 _ _ _ i ((findM_some (l := l) (Nat.le_refl _)).2 ⟨hi', hS⟩) sm rfl
    · simp [hS]
      exact ⟨l.length - (i + 1), h1, by omega, fun hok b o hb => ⟨o, hb, hok b o hb⟩, i + 1, rfl, by omega, h1, n1, by rw [e3]; exact F41_L110100_of, fun k hk => (by
        by_cases e : k = i
        · subst e; exact hS
        · exact hne k (by omega)), by omega, sm⟩
  · have : i = l.length := by omega
    subst this
    simp [hs1.len, roundQ]
    exact hQ0 _ h n _ F41_L110100_of (findM_none.2 hne) hn hsame
theorem target6_ok {b : Nat} {sl : V} {l : List Insn} {i : Nat} (hl : l.length ≤ 1000) (hi : i < l.length) (hok : OkL l) {h : Heap} {n : Nat} (hb : b < n) (hs : InsnsAt h b sl l) :
    CallK CC 41 [sl, .s (.int .i64 i)] h n fun v h' n' => v = .s (.int .i64 (match findM l (slotM l (i + 1) + l[i].off) l.length with | some k => (k : Int) | none => -1)) ∧ Same n [] h h' := by
  refine F41_call fun hlt => ?_
  rw [F41_eq]
  obtain ⟨p, A, es, p1, p2, p3, p4⟩ := hs.ix hi
  have hxo := checkM_off (hok l[i] (List.getElem_mem hi))
  have p5 : A[p + 3]? = some (.s (.int .i64 l[i].off)) := row_get p3 3 (by decide)
  have hsucc := slotM_succ hi
  have hsb := slotM_bound l (show i + 1 ≤ l.length from hi)
  simp [p1, p2, p3, p4, p5, ble_dec]
  refine CallK.monoN ?_ (slot6_ok (N := i) hl (by omega) (show b < n + 16 by omega) hs)
  rintro v h1 n1 ⟨rfl, hs1⟩ hn1
  have q2 : cellsAt h1 b = some (.lst A, es) := by unfold cellsAt at p2 ⊢; rw [hs1 b (by omega) (by simp)]; exact p2
  simp [q2, p3, p4, p5, ble_dec]
  refine CallK.monoN ?_ (rsize_ok l[i] h1 n1)
  rintro v h2 n2 ⟨rfl, hs2⟩ hn2
  have q3 : cellsAt h2 b = some (.lst A, es) := by unfold cellsAt at q2 ⊢; rw [hs2 b (by omega) (by simp)]; exact q2
  have e4 : wrapF .i64 ((slotM l i : Int) + (sizeM l[i] : Int)) = (slotM l (i + 1) : Nat) := by rw [wrapF_i64 (by omega) (by omega)]; omega
  obtain ⟨S, hS⟩ : ∃ S : Int, S = (slotM l (i + 1) : Int) + l[i].off := ⟨_, rfl⟩
  have eS : wrapF .i64 ((slotM l (i + 1) : Int) + l[i].off) = S := by rw [hS]; exact wrapF_i64 (by omega) (by omega)
  simp [q3, p5, e4, eS]
  rw [← hS]
  have sm : ∀ h', Same n2 [] h2 h' → Same n [] h h' := fun h' e b hb _ => by rw [e b (by omega) (by simp), hs2 b (by omega) (by simp), hs1 b (by omega) (by simp)]
  refine target6_loop (S := S) hl (n0 := n2) (h0 := h2) (show b < n2 by omega) (hs.of (by rw [hs2 b (by omega) (by simp), hs1 b (by omega) (by simp)])) ?_ ?_ _ _ ⟨0, h2, n2, rfl, by omega, F41_L110100_of, fun k hk => by omega, by omega, Same.refl _ _ _⟩
  · intro t6 h' n' s hs hf hn hsame
    obtain ⟨g, rfl⟩ := hs
    rw [F41_r110100_0, hf]
    exact ⟨rfl, sm _ hsame⟩
  · intro h' n' L k hf hsame h4
    simp [resume, retW, dropDefs, h4]
    rw [hf]
    exact ⟨rfl, sm _ hsame⟩

theorem targets6_loop {b : Nat} {sl : V} {l : List Insn} (hl : l.length ≤ 256) (hok : OkL l) {Q : X → St → Prop} {n0 : Nat} {h0 : Heap} (hb : b < n0) (hs : InsnsAt h0 b sl l)
    (hQ0 : ∀ t4 t5 a t h n s, F21_L11110100 sl t4 t5 h n s → tosM l l.length = some t → n0 ≤ n → GrowN h a t4 t → n0 ≤ a → (l ≠ [] → a < n) → Same n0 [] h0 h → Q (.exit 0) s)
    (hQ1 : ∀ h n (L : List V), tosM l l.length = none → Same n0 [] h0 h → L[2]? = some (.s (.slice none 0 0)) → L[3]? = some (.s (.int .i64 7)) → Q .ret ⟨mkTm L, h, n, []⟩) :
    ∀ m s, (∃ (i : Nat) (h : Heap) (n : Nat) (t4 : V) (a : Nat) (t : List Int), m = l.length - i ∧ i ≤ l.length ∧ F21_L11110100 sl t4 (.s (.int .i64 i)) h n s ∧ n0 ≤ n ∧ tosM l i = some t ∧ GrowN h a t4 t ∧ n0 ≤ a ∧ (i ≠ 0 → a < n) ∧ Same n0 [] h0 h) →
      LoopK CC none (subC [1, 1, 1, 1, 0, 1, 0, 0] (bodyOf Go.Proofs.Tryz.f21)) s Q := by
  refine loopH CCok _ ?_
  rintro m s ⟨i, h, n, t4, a, t, hm, hi, hs', hn, ht, hG, ha0, han, hsame⟩ hlt
  obtain ⟨g, rfl⟩ := hs'
  rw [F21_b11110100]
  replace hlt : ∀ b o, h.get b = some o → b < n := hlt
  have hs1 := hs.of (hsame b hb (by simp))
  by_cases hi' : i < l.length
  · have e3 : wrapF .i64 ((i : Int) + 1) = ((i + 1 : Nat) : Int) := by rw [wrapF_i64 (by omega) (by omega)]; rfl
    obtain ⟨p, A, es, p1, p2, p3, p4⟩ := hs1.ix hi'
    have hxo := checkM_off (hok l[i] (List.getElem_mem hi'))
    have hstep : tosM l (i + 1) = (toM l i l[i]).bind fun x => some (t ++ [x]) := by
      rw [tosM, ht, Option.bind_some, List.getElem?_eq_getElem hi', Option.bind_some]
    have htl := tosM_length ht
    have hnone : toM l i l[i] = none → tosM l l.length = none := fun hto => tosM_none (by rw [hstep, hto]; rfl) _ (by omega)
    simp [hs1.len, hi', p1, p2, p3, p4, ble_dec]
    refine CallK.monoN ?_ (jumps6_ok l[i] hxo.2.2 h n)
    rintro v h1 n1 ⟨rfl, hs2⟩ hn1
    have sm1 : ∀ b, b < n → h1.get b = h.get b := fun b hb => hs2 b hb (by simp)
    have push : ∀ (h3 : Heap) (n3 : Nat) (v : Int) (K : V → Heap → Nat → Prop), n ≤ n3 → (∀ b, b < n → h3.get b = h.get b) → (∀ v' h' n' a', n3 ≤ n' → n0 ≤ a' → a' < n' → GrowN h' a' v' (t ++ [v]) → (∀ b, b < n0 → h'.get b = h0.get b) → K v' h' n') → appendWK 1 8 (h3.set n3 (.cells (.lst [.s (.int .i64 v)]) 1)) (n3 + 1) t4 (.slice n3 0 1 1 false) K := by
      intro h3 n3 v K hn3 sm3 hK
      obtain ⟨a2, b1, b2, hG'⟩ : ∃ a2, n0 ≤ a2 ∧ a2 ≤ n3 ∧ GrowN (h3.set n3 (.cells (.lst [.s (.int .i64 v)]) 1)) a2 t4 t := by
        rcases hG with H | ⟨o, c, op, A, k1, k2, k3, k4⟩
        · exact ⟨n3, by omega, by omega, .inl H⟩
        · have := hlt _ _ k3
          exact ⟨a, ha0, by omega, .inr ⟨o, c, op, A, k1, k2, by rw [Tree.get_set, if_neg (by omega), sm3 a (by omega)]; exact k3, k4⟩⟩
      refine grow_ok (m := 1) (new := intsV [v]) (by omega) hG' (.row (A := intsV [v]) (es := 1) (by simp [cellsAt, Tree.get_set, intsV]) (by simp [intsV]) (by simp [intsV])) (by omega) (by rw [htl]; omega) ?_
      intro v' a' h4 n4 ha' han' hn4 hG4 hs4
      refine hK v' h4 n4 a' (by omega) (by omega) han' (by simpa [GrowN, intsV] using hG4) ?_
      intro b' hb'
      rw [hs4 b' (by omega) (by omega), Tree.get_set, if_neg (by omega), sm3 b' (by omega), hsame b' hb' (by simp)]
    cases hj : jumpsM l[i].op with
    | false =>
      have hto : toM l i l[i] = some (-1) := by unfold toM; rw [hj]; rfl
      simp
      refine push h1 n1 (-1) _ hn1 sm1 ?_
      intro v' h' n' a' hn' ha' han' hG' ho
      exact ⟨l.length - (i + 1), h', by omega, fun hok b o hb => ⟨o, hb, hok b o hb⟩, i + 1, rfl, by omega, h', n', v', by rw [e3]; exact F21_L11110100_of, by omega, a', t ++ [-1], by rw [hstep, hto]; rfl, hG', by omega, by omega, fun b hb _ => ho b hb⟩
    | true =>
      obtain ⟨S, hS⟩ : ∃ S : Int, S = (slotM l (i + 1) : Int) + l[i].off := ⟨_, rfl⟩
      have hto : toM l i l[i] = (findM l S l.length).map fun k => (k : Int) := by unfold toM; rw [hj, hS]; rfl
      simp
      refine CallK.monoN ?_ (target6_ok (i := i) (by omega) hi' hok (show b < n1 by omega) (hs1.of (sm1 b (by omega))))
      rw [← hS]
      rintro v h2 n2 ⟨rfl, hs3⟩ hn2
      have sm2 : ∀ b, b < n → h2.get b = h.get b := fun b hb => by rw [hs3 b (by omega) (by simp), sm1 b hb]
      cases hf : findM l S l.length with
      | none =>
        simp [roundQ]
        exact hQ1 _ _ _ (hnone (by rw [hto, hf]; rfl)) (fun b hb _ => by rw [sm2 b (by omega), hsame b hb (by simp)]) rfl rfl
      | some k =>
        have k0 : ¬ (k : Int) < 0 := by omega
        simp
        first | rw [if_neg k0] | skip
        refine push h2 n2 (k : Int) _ (by omega) sm2 ?_
        intro v' h' n' a' hn' ha' han' hG' ho
        exact ⟨l.length - (i + 1), h', by omega, fun hok b o hb => ⟨o, hb, hok b o hb⟩, i + 1, rfl, by omega, h', n', v', by rw [e3]; exact F21_L11110100_of, by omega, a', t ++ [(k : Int)], by rw [hstep, hto, hf]; rfl, hG', by omega, by omega, fun b hb _ => ho b hb⟩
  · have : i = l.length := by omega
    subst this
    simp [hs1.len, roundQ]
    exact hQ0 t4 _ a t h n _ F21_L11110100_of ht hn hG ha0 (fun e => han (by simpa using e)) hsame
theorem targets6_ok {b : Nat} {sl : V} {l : List Insn} (hl : l.length ≤ 2000) (hok : OkL l) {h : Heap} {n : Nat} (hb : b < n) (hs : InsnsAt h b sl l) :
    CallK CC 21 [sl] h n fun v h' n' => TargetsP l n v h' n' ∧ Same n [] h h' := by
  refine F21_call fun hlt => ?_
  rw [F21_eq]
  by_cases c0 : l.length = 0
  · have c0' : (l.length : Int) = 0 := by omega
    simp only [hs.len, oK_some]
    simp [c0']
    exact ⟨.nil (by unfold targetsM; rw [if_pos c0]) _ _ _, Same.refl _ _ _⟩
  · have c0' : ¬ (l.length : Int) = 0 := by omega
    by_cases c1 : 256 < l.length
    · have c1' : (256 : Int) < l.length := by omega
      simp [hs.len, c0', c1', c0]
      exact ⟨.nil (by unfold targetsM; rw [if_neg c0, if_pos c1]) _ _ _, Same.refl _ _ _⟩
    · have c1' : ¬ (256 : Int) < l.length := by omega
      simp [hs.len, c1', c1, c0]
      have hne : l ≠ [] := fun e => c0 (by rw [e]; rfl)
      have hlast : ∃ x, l.getLast?.getD ⟨0, 0, 0, 0, 0⟩ = x ∧ l[l.length - 1]'(by omega) = x := ⟨_, by rw [List.getLast?_eq_getElem?, List.getElem?_eq_getElem (by omega)]; rfl, rfl⟩
      obtain ⟨x, hx1, hx2⟩ := hlast
      have hxo := checkM_off (hok x (by rw [← hx2]; exact List.getElem_mem _))
      have hTM : targetsM l = match tosM l l.length with | none => ([], 7) | some t => if endsM x.op then (t, 0) else ([], 8) := by
        unfold targetsM; rw [if_neg c0, if_neg c1, hx1]; cases tosM l l.length <;> rfl
      refine targets6_loop (b := b) (by omega) hok (n0 := n) (h0 := h) hb hs ?_ ?_ _ _ ⟨0, h, n, _, n, [], rfl, by omega, F21_L11110100_of, by omega, rfl, GrowAt.nil _ _ _, Nat.le_refl _, by omega, Same.refl _ _ _⟩
      · intro t4 t5 a t h2 n2 s hs2 ht hn2 hG2 ha2 ha2' hsm2
        have ha2' := ha2' hne
        obtain ⟨g, rfl⟩ := hs2
        rw [F21_r11110100_0]
        have hI2 := hs.of (hsm2 b (by omega) (by simp))
        obtain ⟨J, hJ⟩ : ∃ J : Nat, J = l.length - 1 := ⟨_, rfl⟩
        have eJ : wrapF .i64 ((l.length : Int) - 1) = (J : Int) := by rw [wrapF_i64 (by omega) (by omega)]; omega
        have hJl : J < l.length := by omega
        have hJx : l[J] = x := by rw [← hx2]; simp [hJ]
        obtain ⟨p, A, es, p1, p2, p3, p4⟩ := hI2.ix hJl
        rw [hJx] at p3
        rw [ht] at hTM
        simp only at hTM
        have yes : endsM x.op = true → ∀ h4 n4, (∀ b, b < n2 → h4.get b = h2.get b) → n2 ≤ n4 → TargetsP l n (.tup [t4, .s (.int .i64 0)]) h4 n4 := fun e h4 n4 hh hn4 => by
          rw [if_pos e] at hTM
          exact ⟨t4, a, by rw [hTM], by omega, fun _ => by omega, by rw [hTM]; exact hG2.at.of (by rw [hh a ha2'])⟩
        have no : endsM x.op = false → ∀ h4 n4, TargetsP l n (.tup [.s (.slice none 0 0), .s (.int .i64 8)]) h4 n4 := fun e h4 n4 => by
          rw [e] at hTM
          exact .nil hTM _ _ _
        have smz : ∀ h4, (∀ b, b < n2 → h4.get b = h2.get b) → Same n [] h h4 := fun h4 e b hb _ => by rw [e b (by omega), hsm2 b (by omega) (by simp)]
        simp [hI2.len, eJ, p1, p2, p3, p4, ble_dec]
        refine CallK.monoN ?_ (exit6_ok x hxo.2.2 h2 n2)
        rintro v h4 n4 ⟨rfl, hs4⟩ hn4
        have hI4 := hI2.of (hs4 b (by omega) (by simp))
        have p2' : cellsAt h4 b = some (.lst A, es) := by unfold cellsAt at p2 ⊢; rw [hs4 b (by omega) (by simp)]; exact p2
        by_cases d9 : x.op % 8 = 5 ∧ x.op / 16 = 9
        · rw [decide_eq_true d9]
          simp [hG2.at.vcl]
          exact ⟨yes (by simp [endsM, d9.1, d9.2]) _ _ (fun b hb => hs4 b (by omega) (by simp)) (by omega), smz _ (fun b hb => hs4 b (by omega) (by simp))⟩
        · rw [decide_eq_false d9]
          simp [hI4.len, eJ, p1, p2', p3, p4, ble_dec]
          refine CallK.monoN ?_ (ja6_ok x hxo.2.2 h4 _)
          rintro v h5 n5 ⟨rfl, hs5⟩ hn5
          have old5 : ∀ b, b < n2 → h5.get b = h2.get b := fun b hb => by rw [hs5 b (by omega) (by simp), hs4 b (by omega) (by simp)]
          by_cases d0 : x.op % 8 = 5 ∧ x.op / 16 = 0
          · rw [decide_eq_true d0]
            simp [hG2.at.vcl]
            exact ⟨yes (by simp [endsM, d0.1, d0.2]) _ _ old5 (by omega), smz _ old5⟩
          · rw [decide_eq_false d0]
            simp
            have e : endsM x.op = false := by
              unfold endsM
              by_cases e8 : x.op % 8 = 5
              · have e9 : ¬ x.op / 16 = 9 := fun h => d9 ⟨e8, h⟩
                have e0 : ¬ x.op / 16 = 0 := fun h => d0 ⟨e8, h⟩
                rw [beq_eq_false_iff_ne.2 e9, beq_eq_false_iff_ne.2 e0]
                simp
              · rw [beq_eq_false_iff_ne.2 e8]; rfl
            exact ⟨no e _ _, smz _ old5⟩
      · intro h2 n2 L ht hsm2 k2 k3
        simp [resume, retW, dropDefs, k2, k3]
        rw [ht] at hTM
        exact ⟨.nil hTM _ _ _, hsm2⟩

theorem cloneI_ok {b : Nat} {sl : V} {l : List Insn} {h : Heap} {n : Nat} (hb : b < n) (hs : InsnsAt h b sl l) (hl : l.length ≤ 2000) (h0 : l ≠ []) :
    CallK CC 19 [sl] h n fun v h' n' => (∃ a, n ≤ a ∧ a < n' ∧ InsnsAt h' a v l) ∧ Same n [] h h' := by
  refine F19_call fun hlt => ?_
  rw [F19_eq]
  rcases hs with ⟨rfl, h2, h3⟩ | ⟨o, c, op, A, es, rfl, h2, h3, h4⟩
  · exact absurd (List.length_eq_zero_iff.1 h2) h0
  · have hs : InsnsAt (h.set n (.cells (.lst []) 5)) b (.slice b o l.length c op) l := SliceAt.of (.inr ⟨o, c, op, A, es, rfl, h2, h3, h4⟩) (by rw [Tree.get_set, if_neg (by omega)])
    have hl0 : 0 < l.length := List.length_pos_iff.2 h0
    simp
    refine append_new (cs := flat Insn.l l) (old := []) (by omega) hs.row (.row (A := []) (es := 5) (by simp [cellsAt, Tree.get_set]) rfl rfl) (by omega) (by omega) fun h' h5 h6 => ?_
    refine ⟨⟨n + 1, by omega, by omega, .inr ⟨0, 0 + l.length, true, flat Insn.l l, 5, by simp, by simp [cellsAt, h5], ?_, flatI_length l⟩⟩, fun b' hb' _ => by rw [h6 b' (by omega), Tree.get_set, if_neg (by omega)]⟩
    rw [List.drop_zero, List.take_of_length_le (by rw [flatI_length]; exact Nat.le_refl _)]

theorem checksM_drop {l : List Insn} : ∀ {i : Nat}, i ≤ l.length → (∀ j (hj : j < l.length), j < i → checkM l[j] = 0) → checksM l = checksM (l.drop i) := by
  induction l with
  | nil => intro i hi _; simp
  | cons x l ih =>
    intro i hi h
    cases i with
    | zero => rfl
    | succ i =>
      have h0 := h 0 (by simp) (by omega)
      simp at h0
      rw [List.drop_succ_cons, ← ih (i := i) (by simpa using hi) (fun j hj hji => by have := h (j + 1) (by simpa using hj) (by omega); simpa using this), checksM, if_pos h0]
theorem checksM_at {l : List Insn} {i : Nat} (hi : i < l.length) (h : ∀ j (hj : j < l.length), j < i → checkM l[j] = 0) (hn : checkM l[i] ≠ 0) : checksM l = checkM l[i] := by
  rw [checksM_drop (by omega) h, List.drop_eq_getElem_cons hi, checksM, if_neg hn]
theorem checksM_ok {l : List Insn} (h : ∀ j (hj : j < l.length), checkM l[j] = 0) : checksM l = 0 ∧ OkL l := by
  refine ⟨?_, fun x hx => ?_⟩
  · rw [checksM_drop (Nat.le_refl _) (fun j hj _ => h j hj)]; simp [checksM]
  · obtain ⟨j, hj, rfl⟩ := List.getElem_of_mem hx
    exact h j hj
def makeE (l : List Insn) : Int := if checksM l ≠ 0 then checksM l else (targetsM l).2
def insnsM (l : List Insn) : List Insn := if makeE l = 0 then l else []
def tosL (l : List Insn) : List Int := if makeE l = 0 then (targetsM l).1 else []
def MakeP (l : List Insn) (n : Nat) (v : V) (h' : Heap) (n' : Nat) : Prop := ∃ s1 s2 a1 a2, v = .tup [.agg (.lst [s1, s2]), .s (.int .i64 (makeE l))] ∧ n ≤ a1 ∧ n ≤ a2 ∧ a1 < n' ∧ a2 < n' ∧ InsnsAt h' a1 s1 (insnsM l) ∧ IntsAt h' a2 s2 (tosL l)
theorem MakeP.bad {l : List Insn} {e : Int} (he : makeE l = e) (h0 : e ≠ 0) (n : Nat) (h' : Heap) (n' : Nat) (hn : n < n') : MakeP l n (.tup [.agg (.lst [.s (.slice none 0 0), .s (.slice none 0 0)]), .s (.int .i64 e)]) h' n' := by
  have e1 : insnsM l = [] := by unfold insnsM; rw [he, if_neg h0]
  have e2 : tosL l = [] := by unfold tosL; rw [he, if_neg h0]
  refine ⟨_, _, n, n, by rw [he], Nat.le_refl _, Nat.le_refl _, hn, hn, ?_, ?_⟩
  · rw [e1]; exact .inl ⟨rfl, rfl, rfl⟩
  · rw [e2]; exact .inl ⟨rfl, rfl, rfl⟩

theorem make_loop {b p : Nat} {sl : V} {l : List Insn} (hl : l.length ≤ 2000) {Q : X → St → Prop} {n0 : Nat} {h0 : Heap} (hb : b < n0) (hp : p < n0) (hbp : b ≠ p) (hs : InsnsAt h0 b sl l) (hP : h0.get p = some (.cells (.lst [.s (.slice none 0 0), .s (.slice none 0 0)]) 2))
    (hQ0 : ∀ t11 h n s, F6_L10100 sl (.ptr p 0) sl (.s (.int .i64 l.length)) t11 h n s → (∀ j (hj : j < l.length), checkM l[j] = 0) → n0 ≤ n → Same n0 [] h0 h → Q (.exit 0) s)
    (hQ1 : ∀ h n (L : List V) e, n0 ≤ n → checksM l = e → e ≠ 0 → h.get p = some (.cells (.lst [.s (.slice none 0 0), .s (.slice none 0 0)]) 2) → Same n0 [p] h0 h → L[2]? = some (.ptr p 0) → L[3]? = some (.s (.int .i64 e)) → Q .ret ⟨mkTm L, h, n, []⟩) :
    ∀ m s, (∃ (i : Nat) (h : Heap) (n : Nat), m = l.length - i ∧ i ≤ l.length ∧ F6_L10100 sl (.ptr p 0) sl (.s (.int .i64 l.length)) (.s (.int .i64 i)) h n s ∧ (∀ j (hj : j < l.length), j < i → checkM l[j] = 0) ∧ n0 ≤ n ∧ Same n0 [] h0 h) →
      LoopK CC none (subC [1, 0, 1, 0, 0] (bodyOf Go.Proofs.Tryz.f6)) s Q := by
  refine loopH CCok _ ?_
  rintro m s ⟨i, h, n, hm, hi, hs', hz, hn, hsame⟩ hlt
  obtain ⟨g, rfl⟩ := hs'
  rw [F6_b10100]
  replace hlt : ∀ b o, h.get b = some o → b < n := hlt
  have hs1 := hs.of (hsame b hb (by simp))
  by_cases hi' : i < l.length
  · have e3 : wrapF .i64 ((i : Int) + 1) = ((i + 1 : Nat) : Int) := by rw [wrapF_i64 (by omega) (by omega)]; rfl
    obtain ⟨q, A, es, p1, p2, p3, p4⟩ := hs1.ix hi'
    simp [hi', p1, p2, p3, p4, ble_dec, Insn.l]
    rw [storeCells_lst (by rw [Tree.get_set, if_pos rfl]) (by simp)]
    simp [Tree.get_set, cellsAt]
    obtain ⟨h1, hh1⟩ : ∃ h1, h1 = (h.set n (.cells (.lst [.s (.int .i64 0), .s (.int .i64 0), .s (.int .i64 0), .s (.int .i64 0), .s (.int .i64 0)]) 5)).set n (.cells (.lst [.s (.int .i64 l[i].op), .s (.int .i64 l[i].dst), .s (.int .i64 l[i].src), .s (.int .i64 l[i].off), .s (.int .i64 l[i].imm)]) 5) := ⟨_, rfl⟩
    rw [← hh1]
    have old1 : ∀ b, b < n → h1.get b = h.get b := fun b hb => by rw [hh1, Tree.get_set, if_neg (by omega), Tree.get_set, if_neg (by omega)]
    have q1 := check_ok l[i] h1 (n + 1)
    simp only [Insn.l] at q1
    refine CallK.monoN ?_ q1
    rintro v h2 n2 ⟨rfl, hs2⟩ hn2
    have old2 : ∀ b, b < n → h2.get b = h.get b := fun b hb => by rw [hs2 b (by omega) (by simp), old1 b hb]
    by_cases hc : checkM l[i] = 0
    · simp [hc]
      exact ⟨l.length - (i + 1), h2, by omega, fun hok b o hb => ⟨o, hb, hok b o hb⟩, i + 1, rfl, by omega, h2, n2, by rw [e3]; exact F6_L10100_of, fun j hj hji => (by
        by_cases e : j = i
        · subst e; exact hc
        · exact hz j hj (by omega)), by omega, fun b' hb' _ => by rw [old2 b' (by omega), hsame b' hb' (by simp)]⟩
    · have hP2 : h2.get p = some (.cells (.lst [.s (.slice none 0 0), .s (.slice none 0 0)]) 2) := by rw [old2 p (by omega), hsame p hp (by simp), hP]
      simp [hc]
      rw [storeCells_lst hP2 (by simp)]
      simp [roundQ]
      refine hQ1 _ _ _ (checkM l[i]) (by omega) (checksM_at hi' hz hc) hc (by rw [Tree.get_set, if_pos rfl]) ?_ rfl rfl
      intro b' hb' hn'
      simp at hn'
      rw [Tree.get_set, if_neg hn', old2 b' (by omega), hsame b' hb' (by simp)]
  · have : i = l.length := by omega
    subst this
    simp [roundQ]
    exact hQ0 _ h n _ F6_L10100_of (fun j hj => hz j hj hj) hn hsame
theorem targetsM_ne {l : List Insn} (h : (targetsM l).2 = 0) : (targetsM l).1 ≠ [] := by
  unfold targetsM at h ⊢
  by_cases c0 : l.length = 0
  · rw [if_pos c0] at h; cases h
  · rw [if_neg c0] at h ⊢
    by_cases c1 : 256 < l.length
    · rw [if_pos c1] at h; cases h
    · rw [if_neg c1] at h ⊢
      cases ht : tosM l l.length with
      | none => rw [ht] at h; cases h
      | some t =>
        rw [ht] at h
        simp only at h ⊢
        split at h
        · rename_i e
          rw [if_pos e]
          intro e2
          have := tosM_length ht
          simp only at e2
          rw [e2] at this
          exact c0 this.symm
        · cases h
theorem make_ok {b : Nat} {sl : V} {l : List Insn} (hl : l.length ≤ 2000) {h : Heap} {n : Nat} (hb : b < n) (hs : InsnsAt h b sl l) :
    CallK CC 6 [sl] h n fun v h' n' => MakeP l n v h' n' ∧ Same n [] h h' := by
  refine F6_call fun hlt => ?_
  rw [F6_eq]
  simp [hs.len]
  have sm0 : ∀ r, Same n [] h (h.set n r) := fun r => Same.new _ _ _ _
  have hs0 : ∀ r, InsnsAt (h.set n r) b sl l := fun r => hs.of (by rw [Tree.get_set, if_neg (by omega)])
  refine make_loop hl (n0 := n + 1) (p := n) (h0 := h.set n (.cells (.lst [.s (.slice none 0 0), .s (.slice none 0 0)]) 2)) (by omega) (by omega) (by omega) (hs0 _) (by rw [Tree.get_set, if_pos rfl]) ?_ ?_ _ _ ⟨0, _, n + 1, rfl, by omega, F6_L10100_of, fun j hj h => by omega, Nat.le_refl _, Same.refl _ _ _⟩
  · intro t11 h1 n1 s hs1 hz hn1 hsm1
    obtain ⟨g, rfl⟩ := hs1
    rw [F6_r10100_0]
    obtain ⟨hc0, hok⟩ := checksM_ok hz
    have hI1 := (hs0 _).of (hsm1 b (by omega) (by simp))
    refine CallK.monoN ?_ (targets_ok hl hok (by omega) hI1)
    rintro v h2 n2 ⟨⟨tl, a, rfl, ha, ha', hT⟩, hs2⟩ hn2
    have hE : makeE l = (targetsM l).2 := by unfold makeE; rw [if_neg (fun h => h hc0)]
    have hP2 : h2.get n = some (.cells (.lst [.s (.slice none 0 0), .s (.slice none 0 0)]) 2) := by rw [hs2 n (by omega) (by simp), hsm1 n (by omega) (by simp), Tree.get_set, if_pos rfl]
    have sm2 : ∀ b, b < n → h2.get b = h.get b := fun b hb => by rw [hs2 b (by omega) (by simp), hsm1 b (by omega) (by simp), Tree.get_set, if_neg (by omega)]
    simp [hT.vcl]
    by_cases he : (targetsM l).2 = 0
    · simp [he]
      have hne : l ≠ [] := fun e => by rw [e] at he; simp [targetsM] at he
      refine CallK.monoN ?_ (cloneI_ok (show b < n2 by omega) (hI1.of (hs2 b (by omega) (by simp))) hl hne)
      rintro v h3 n3 ⟨⟨a3, ha3, ha3', hI3⟩, hs3⟩ hn3
      have hP3 : h3.get n = some (.cells (.lst [.s (.slice none 0 0), .s (.slice none 0 0)]) 2) := by rw [hs3 n (by omega) (by simp), hP2]
      simp [hT.vcl, hI3.vcl]
      rw [storeCells_lst hP3 (by simp)]
      simp [cellsAt, Tree.get_set, ble_dec]
      have hE0 : makeE l = 0 := by rw [hE, he]
      have e1 : insnsM l = l := by unfold insnsM; rw [hE0, if_pos rfl]
      have e2 : tosL l = (targetsM l).1 := by unfold tosL; rw [hE0, if_pos rfl]
      refine ⟨⟨v, tl, a3, a, by rw [hE0], by omega, by omega, ha3', by have := ha' (targetsM_ne he); omega, ?_, ?_⟩, ?_⟩
      · rw [e1]; exact hI3.of (by rw [Tree.get_set, if_neg (by omega)])
      · rw [e2]
        have ht := targetsM_ne he
        have := ha' ht
        exact hT.of (by rw [Tree.get_set, if_neg (by omega), hs3 a (by omega) (by simp)])
      · intro b' hb' _
        rw [Tree.get_set, if_neg (by omega), hs3 b' (by omega) (by simp), sm2 b' hb']
    · simp [he]
      rw [storeCells_lst hP2 (by simp)]
      simp [cellsAt, Tree.get_set, ble_dec]
      refine ⟨.bad hE he _ _ _ (by omega), ?_⟩
      intro b' hb' _
      rw [Tree.get_set, if_neg (by omega), sm2 b' hb']
  · intro h1 n1 L e hn1 he h0 hP1 hsm1 k2 k3
    simp [resume, retW, dropDefs, k2, k3, cellsAt, hP1, ble_dec]
    refine ⟨.bad (by unfold makeE; rw [if_pos (by rw [he]; exact h0), he]) h0 _ _ _ (by omega), ?_⟩
    intro b' hb' _
    rw [hsm1 b' (by omega) (by simp; omega), Tree.get_set, if_neg (by omega)]

theorem make17_loop {b p : Nat} {sl : V} {l : List Insn} (hl : l.length ≤ 2000) {Q : X → St → Prop} {n0 : Nat} {h0 : Heap} (hb : b < n0) (hp : p < n0) (hbp : b ≠ p) (hs : InsnsAt h0 b sl l) (hP : h0.get p = some (.cells (.lst [.s (.slice none 0 0), .s (.slice none 0 0)]) 2))
    (hQ0 : ∀ t4 h n s, F7_L10100 sl (.ptr p 0) t4 h n s → (∀ j (hj : j < l.length), checkM l[j] = 0) → n0 ≤ n → Same n0 [] h0 h → Q (.exit 0) s)
    (hQ1 : ∀ h n (L : List V) e, n0 ≤ n → checksM l = e → e ≠ 0 → h.get p = some (.cells (.lst [.s (.slice none 0 0), .s (.slice none 0 0)]) 2) → Same n0 [p] h0 h → L[2]? = some (.ptr p 0) → L[3]? = some (.s (.int .i64 e)) → Q .ret ⟨mkTm L, h, n, []⟩) :
    ∀ m s, (∃ (i : Nat) (h : Heap) (n : Nat), m = l.length - i ∧ i ≤ l.length ∧ F7_L10100 sl (.ptr p 0) (.s (.int .i64 i)) h n s ∧ (∀ j (hj : j < l.length), j < i → checkM l[j] = 0) ∧ n0 ≤ n ∧ Same n0 [] h0 h) →
      LoopK CC none (subC [1, 0, 1, 0, 0] (bodyOf Go.Proofs.Tryz.f7)) s Q := by
  refine loopH CCok _ ?_
  rintro m s ⟨i, h, n, hm, hi, hs', hz, hn, hsame⟩ hlt
  obtain ⟨g, rfl⟩ := hs'
  rw [F7_b10100]
  replace hlt : ∀ b o, h.get b = some o → b < n := hlt
  have hs1 := hs.of (hsame b hb (by simp))
  by_cases hi' : i < l.length
  · have e3 : wrapF .i64 ((i : Int) + 1) = ((i + 1 : Nat) : Int) := by rw [wrapF_i64 (by omega) (by omega)]; rfl
    obtain ⟨q, A, es, p1, p2, p3, p4⟩ := hs1.ix hi'
    simp [hs1.len, hi', p1, p2, p3, p4, ble_dec]
    refine CallK.monoN ?_ (rcheck_ok l[i] h n)
    rintro v h2 n2 ⟨rfl, hs2⟩ hn2
    have old2 : ∀ b, b < n → h2.get b = h.get b := fun b hb => hs2 b hb (by simp)
    by_cases hc : checkM l[i] = 0
    · simp [hc]
      exact ⟨l.length - (i + 1), h2, by omega, fun hok b o hb => ⟨o, hb, hok b o hb⟩, i + 1, rfl, by omega, h2, n2, by rw [e3]; exact F7_L10100_of, fun j hj hji => (by
        by_cases e : j = i
        · subst e; exact hc
        · exact hz j hj (by omega)), by omega, fun b' hb' _ => by rw [old2 b' (by omega), hsame b' hb' (by simp)]⟩
    · have hP2 : h2.get p = some (.cells (.lst [.s (.slice none 0 0), .s (.slice none 0 0)]) 2) := by rw [old2 p (by omega), hsame p hp (by simp), hP]
      simp [hc]
      rw [storeCells_lst hP2 (by simp)]
      simp [roundQ]
      refine hQ1 _ _ _ (checkM l[i]) (by omega) (checksM_at hi' hz hc) hc (by rw [Tree.get_set, if_pos rfl]) ?_ rfl rfl
      intro b' hb' hn'
      simp at hn'
      rw [Tree.get_set, if_neg hn', old2 b' (by omega), hsame b' hb' (by simp)]
  · have : i = l.length := by omega
    subst this
    simp [hs1.len, roundQ]
    exact hQ0 _ h n _ F7_L10100_of (fun j hj => hz j hj hj) hn hsame
theorem make17_ok {b : Nat} {sl : V} {l : List Insn} (hl : l.length ≤ 2000) {h : Heap} {n : Nat} (hb : b < n) (hs : InsnsAt h b sl l) :
    CallK CC 7 [sl] h n fun v h' n' => MakeP l n v h' n' ∧ Same n [] h h' := by
  refine F7_call fun hlt => ?_
  rw [F7_eq]
  simp
  have hs0 : ∀ r, InsnsAt (h.set n r) b sl l := fun r => hs.of (by rw [Tree.get_set, if_neg (by omega)])
  refine make17_loop hl (n0 := n + 1) (p := n) (h0 := h.set n (.cells (.lst [.s (.slice none 0 0), .s (.slice none 0 0)]) 2)) (by omega) (by omega) (by omega) (hs0 _) (by rw [Tree.get_set, if_pos rfl]) ?_ ?_ _ _ ⟨0, _, n + 1, rfl, by omega, F7_L10100_of, fun j hj h => by omega, Nat.le_refl _, Same.refl _ _ _⟩
  · intro t4 h1 n1 s hs1 hz hn1 hsm1
    obtain ⟨g, rfl⟩ := hs1
    rw [F7_r10100_0]
    obtain ⟨hc0, hok⟩ := checksM_ok hz
    have hI1 := (hs0 _).of (hsm1 b (by omega) (by simp))
    refine CallK.monoN ?_ (targets6_ok hl hok (by omega) hI1)
    rintro v h2 n2 ⟨⟨tl, a, rfl, ha, ha', hT⟩, hs2⟩ hn2
    have hE : makeE l = (targetsM l).2 := by unfold makeE; rw [if_neg (fun h => h hc0)]
    have hP2 : h2.get n = some (.cells (.lst [.s (.slice none 0 0), .s (.slice none 0 0)]) 2) := by rw [hs2 n (by omega) (by simp), hsm1 n (by omega) (by simp), Tree.get_set, if_pos rfl]
    have sm2 : ∀ b, b < n → h2.get b = h.get b := fun b hb => by rw [hs2 b (by omega) (by simp), hsm1 b (by omega) (by simp), Tree.get_set, if_neg (by omega)]
    simp [hT.vcl]
    by_cases he : (targetsM l).2 = 0
    · simp [he]
      have hne : l ≠ [] := fun e => by rw [e] at he; simp [targetsM] at he
      refine CallK.monoN ?_ (copyInsns_ok hl (show b < n2 by omega) (hI1.of (hs2 b (by omega) (by simp))))
      rintro v h3 n3 ⟨⟨a3, ha3, ha3', hG3⟩, hs3⟩ hn3
      have ha3' := ha3' hne
      have hI3 := hG3.at
      have hP3 : h3.get n = some (.cells (.lst [.s (.slice none 0 0), .s (.slice none 0 0)]) 2) := by rw [hs3 n (by omega) (by simp), hP2]
      simp [hT.vcl, hI3.vcl]
      rw [storeCells_lst hP3 (by simp)]
      simp [cellsAt, Tree.get_set, ble_dec]
      have hE0 : makeE l = 0 := by rw [hE, he]
      have e1 : insnsM l = l := by unfold insnsM; rw [hE0, if_pos rfl]
      have e2 : tosL l = (targetsM l).1 := by unfold tosL; rw [hE0, if_pos rfl]
      have ht := targetsM_ne he
      have han := ha' ht
      refine ⟨⟨v, tl, a3, a, by rw [hE0], by omega, by omega, ha3', by omega, ?_, ?_⟩, ?_⟩
      · rw [e1]; exact hI3.of (by rw [Tree.get_set, if_neg (by omega)])
      · rw [e2]
        exact hT.of (by rw [Tree.get_set, if_neg (by omega), hs3 a (by omega) (by simp)])
      · intro b' hb' _
        rw [Tree.get_set, if_neg (by omega), hs3 b' (by omega) (by simp), sm2 b' hb']
    · simp [he]
      rw [storeCells_lst hP2 (by simp)]
      simp [cellsAt, Tree.get_set, ble_dec]
      refine ⟨.bad hE he _ _ _ (by omega), ?_⟩
      intro b' hb' _
      rw [Tree.get_set, if_neg (by omega), sm2 b' hb']
  · intro h1 n1 L e hn1 he h0 hP1 hsm1 k2 k3
    simp [resume, retW, dropDefs, k2, k3, cellsAt, hP1, ble_dec]
    refine ⟨.bad (by unfold makeE; rw [if_pos (by rw [he]; exact h0), he]) h0 _ _ _ (by omega), ?_⟩
    intro b' hb' _
    rw [hsm1 b' (by omega) (by simp; omega), Tree.get_set, if_neg (by omega)]

theorem interpMakes {b : Nat} {sl : V} {l : List Insn} (hw : ∀ h n, CallK CC 4 [] h n fun v h' n' => v = .s (.bool true)) {h : Heap} {n : Nat} (hs : InsnsAt h b sl l) (hb : b < n) :
    CallK CC 3 [sl] h n fun v h' n' => v = .s (.bool true) := by
  refine F3_call fun hlt => ?_
  rw [F3_eq]
  by_cases hl : 1024 < l.length
  · have hl' : (1024 : Int) < l.length := by omega
    simp [hs.len, hl', hl]
    exact hw _ _
  have hl' : ¬ (1024 : Int) < l.length := by omega
  simp [hs.len, hl', hl]
  refine CallK.monoN ?_ (lent_ok (by omega) hb hs)
  rintro all h1 n1 ⟨⟨a, ha, ha', hG⟩, hs1⟩ hn1
  have hI1 := hs.of (hs1 b hb (by simp))
  have hln : (lentI l 5).length = l.length + 5 := lentI_length l 5
  have hne : lentI l 5 ≠ [] := fun e => by rw [e] at hln; simp at hln
  obtain ⟨v', q1, q2⟩ := hG.take (k := l.length) (by omega) hne
  have htk : (lentI l 5).take l.length = l := by
    have : ∀ k, (lentI l k).take l.length = l := by
      intro k
      induction k with
      | zero => simp [lentI]
      | succ k ih => rw [lentI, List.take_append_of_le_length (by rw [lentI_length]; omega), ih]
    exact this 5
  rw [htk] at q2
  simp [hI1.len, q1]
  refine CallK.monoN ?_ (make_ok (by omega) ha' q2)
  rintro v h2 n2 ⟨⟨s1, s2, a1, a2, rfl, r1, r2, r1', r2', hA1, hA2⟩, hs2⟩ hn2
  simp [hA1.vcl, hA2.vcl]
  rw [storeCells_lst (by rw [Tree.get_set, if_pos rfl]) (by simp)]
  simp
  obtain ⟨h3, hh3⟩ : ∃ h3, h3 = (h2.set n2 (.cells (.lst [.s (.slice none 0 0), .s (.slice none 0 0)]) 2)).set n2 (.cells (.lst [s1, s2]) 2) := ⟨_, rfl⟩
  rw [← hh3]
  have g3 : h3.get n2 = some (.cells (.lst [s1, s2]) 2) := by rw [hh3, Tree.get_set, if_pos rfl]
  have old3 : ∀ b, b < n2 → h3.get b = h2.get b := fun b hb => by rw [hh3, Tree.get_set, if_neg (by omega), Tree.get_set, if_neg (by omega)]
  have hI3 := hI1.of (show h3.get b = h1.get b by rw [old3 b (by omega), hs2 b (by omega) (by simp)])
  refine CallK.monoN ?_ (make17_ok (by omega) (show b < n2 + 1 by omega) hI3)
  rintro v h4 n4 ⟨⟨t1, t2, b1, b2, rfl, w1, w2, w1', w2', hB1, hB2⟩, hs4⟩ hn4
  simp [hB1.vcl, hB2.vcl]
  rw [storeCells_lst (by rw [Tree.get_set, if_pos rfl]) (by simp)]
  simp
  obtain ⟨h5, hh5⟩ : ∃ h5, h5 = (h4.set n4 (.cells (.lst [.s (.slice none 0 0), .s (.slice none 0 0)]) 2)).set n4 (.cells (.lst [t1, t2]) 2) := ⟨_, rfl⟩
  rw [← hh5]
  have g5 : h5.get n4 = some (.cells (.lst [t1, t2]) 2) := by rw [hh5, Tree.get_set, if_pos rfl]
  have old5 : ∀ b, b < n4 → h5.get b = h4.get b := fun b hb => by rw [hh5, Tree.get_set, if_neg (by omega), Tree.get_set, if_neg (by omega)]
  have g5' : h5.get n2 = some (.cells (.lst [s1, s2]) 2) := by rw [old5 n2 (by omega), hs4 n2 (by omega) (by simp), g3]
  have back : ∀ b, b < n2 → h5.get b = h2.get b := fun b hb => by rw [old5 b (by omega), hs4 b (by omega) (by simp), old3 b hb]
  have hI5 := hI3.of (show h5.get b = h3.get b by rw [old5 b (by omega), hs4 b (by omega) (by simp)])
  have hG5 := hG.of (show h5.get a = h1.get a by rw [back a (by omega), hs2 a ha' (by simp)])
  refine CallK.monoN ?_ (kept_ok hG5 hI5 (by omega) (by omega) (by omega))
  rintro v h6 n6 ⟨rfl, hs6⟩ hn6
  simp
  have hG6 := hG5.of (hs6 a (by omega) (by simp))
  refine CallK.monoN ?_ (spoil_ok hG6 (by omega) (show a < n6 by omega))
  rintro v h7 n7 hs7 hn7
  have back7 : ∀ b, b < n4 + 1 → b ≠ a → h7.get b = h5.get b := fun b hb hba => by rw [hs7 b (by omega) (by simp [hba]), hs6 b (by omega) (by simp)]
  have g7 : h7.get n2 = some (.cells (.lst [s1, s2]) 2) := by rw [back7 n2 (by omega) (by omega), g5']
  have g7' : h7.get n4 = some (.cells (.lst [t1, t2]) 2) := by rw [back7 n4 (by omega) (by omega), g5]
  have A1 := hA1.of (show h7.get a1 = h2.get a1 by rw [back7 a1 (by omega) (by omega), back a1 (by omega)])
  have A2 := hA2.of (show h7.get a2 = h2.get a2 by rw [back7 a2 (by omega) (by omega), back a2 (by omega)])
  have B1 := hB1.of (show h7.get b1 = h4.get b1 by rw [back7 b1 (by omega) (by omega), old5 b1 (by omega)])
  have B2 := hB2.of (show h7.get b2 = h4.get b2 by rw [back7 b2 (by omega) (by omega), old5 b2 (by omega)])
  have li : (insnsM l).length ≤ 1000000 := by unfold insnsM; split <;> first | omega | simp
  simp [cellsAt, g7, g7', A1.vcl, B1.vcl]
  refine CallK.monoN ?_ (sameI_ok A1 B1 li)
  rintro v h8 n8 ⟨rfl, rfl⟩ hn8
  simp [cellsAt, g7, g7', A2.vcl, B2.vcl]
  have lt : (tosL l).length ≤ 1000000 := by
    unfold tosL
    split
    · unfold targetsM
      split
      · simp
      · split
        · simp
        · split
          · simp
          · rename_i t ht
            split
            · simp only; rw [tosM_length ht]; omega
            · simp
    · simp
  refine CallK.monoN ?_ (sameN_ok A2 B2 lt)
  rintro v h9 n9 ⟨rfl, rfl⟩ hn9
  simp
  refine CallK.mono' ?_ (hw _ _)
  rintro v h n rfl
  simp
end Go.Ev
