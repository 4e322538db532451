import Derived.Test.YtkliejijdjbbkaaGreatHDE
namespace Go.Ev
set_option maxRecDepth 20000

/-- The law's argument. -/
def ArgAt (h : Heap) (b : Nat) (sl : V) (l : List Int) : Prop := (sl = .s (.slice none 0 0) ∧ l = []) ∨ (∃ c, sl = .slice b 0 l.length c false ∧ h.get b = some (.ro (.lst (U l)) 1))
theorem ArgAt.of {h h' : Heap} {b : Nat} {sl : V} {l : List Int} (H : ArgAt h b sl l) (e : h'.get b = h.get b) : ArgAt h' b sl l := by
  rcases H with H | ⟨c, h1, h2⟩
  · exact .inl H
  · exact .inr ⟨c, h1, by rw [e, h2]⟩
theorem ArgAt.len {h : Heap} {b : Nat} {sl : V} {l : List Int} (H : ArgAt h b sl l) (h' : Heap) : lenV CC h' 26 sl = some (.s (.int .i64 l.length)) := by
  rcases H with ⟨rfl, rfl⟩ | ⟨c, rfl, h2⟩
  · simp
  · simp
theorem ArgAt.ix {h : Heap} {b : Nat} {sl : V} {l : List Int} (H : ArgAt h b sl l) {i : Nat} (hi : i < l.length) : ∃ p, indexAddr CC 26 sl (.s (.int .i64 i)) = some (.ptr b p) ∧ rLoad CC 52 h (.ptr b p) = some (.s (.int .u32 l[i])) := by
  rcases H with ⟨rfl, rfl⟩ | ⟨c, rfl, h2⟩
  · simp at hi
  · refine ⟨i, by simp [asNat_int, blt_dec, hi], ?_⟩
    simp [cellsAt, h2, U, hi]
theorem ArgAt.vcl {h : Heap} {b : Nat} {sl : V} {l : List Int} (H : ArgAt h b sl l) : vcl sl = some [sl] ∧ normV sl = sl := by
  rcases H with ⟨rfl, rfl⟩ | ⟨c, rfl, h2⟩
  · simp
  · simp

theorem add_ok {d a : Nat} (x : Int) {l : List Int} (hs : l.length < 1000) {h : Heap} {n : Nat} (hd : DrawsAt h d a l) (ha : l = [] → a = d) :
    CallK CC 38 [.ptr d 0, .s (.int .u32 x)] h n fun v h' n' => ∃ a', n ≤ a' ∧ a' < n' ∧ DrawsAt h' d a' (l ++ [x]) ∧ Same n [d, a] h h' := by
  by_cases hl : l = []
  · subst hl
    refine CallK.monoN ?_ (add_first x hd (ha rfl))
    rintro v h' n' ⟨a', h1, h2, h3, h4⟩ _
    exact ⟨a', h1, h2, h3, fun b hb hn => h4 b hb (by simp at hn ⊢; exact hn.1)⟩
  · exact add_more x hl hs hd

/-- Begin's second loop: the draws. -/
theorem begin_loop {b w d : Nat} {sl t4 t6 : V} {l : List Int} (hl : l.length ≤ 100) {Q : X → St → Prop} {n0 : Nat} {h0 : Heap}
    (hd0 : d < n0) (hw0 : w < n0) (hwd : w ≠ d) (hb0 : b < n0) (hbd : b ≠ d)
    (hQ : ∀ t9 h n s, F11_L1111110100 (.ptr w 0) t4 t6 (.ptr d 0) t9 h n s → n0 ≤ n → (∃ a, DrawsAt h d a l ∧ (a = d ∨ n0 ≤ a) ∧ a < n) → Same n0 [d] h0 h → Q (.exit 2) s)
    (hW : h0.get w = some (.cells (.lst (worldL sl)) 8)) (ha : ArgAt h0 b sl l) :
    ∀ m s, (∃ i h n, m = l.length - i ∧ i ≤ l.length ∧ F11_L1111110100 (.ptr w 0) t4 t6 (.ptr d 0) (.s (.int .i64 i)) h n s ∧ n0 ≤ n ∧ (∃ a, DrawsAt h d a (l.take i) ∧ (a = d ∨ n0 ≤ a) ∧ a < n ∧ (i = 0 → a = d)) ∧ Same n0 [d] h0 h) →
      LoopK CC none (subC [1, 1, 1, 1, 1, 1, 0, 1, 0, 0] (bodyOf Go.Proofs.Tryz.f11)) s Q := by
  refine loopH CCok _ ?_
  rintro m s ⟨i, h, n, hm, hi, hs, hn, ⟨a, hd, had, han, ha0⟩, hsame⟩ hlt
  obtain ⟨g, rfl⟩ := hs
  rw [F11_b1111110100]
  have hW1 : h.get w = some (.cells (.lst (worldL sl)) 8) := by rw [hsame w hw0 (by simp [hwd]), hW]
  have ha1 := ha.of (hsame b hb0 (by simp [hbd]))
  by_cases hlt' : i < l.length
  · have hlt'' : (i : Int) < (l.length : Int) := by omega
    obtain ⟨p, p1, p2⟩ := ha1.ix hlt'
    simp [cellsAt, hW1, worldL, ha.len, ha.vcl, hlt', p1, p2]
    replace hlt : ∀ b o, h.get b = some o → b < n := hlt
    have hne : l ≠ [] := by rintro rfl; simp at hlt'
    refine CallK.monoN ?_ (add_ok _ (by simp; omega) hd (fun e => ha0 (by simp [hne] at e; exact e)))
    rintro v h' n' ⟨a', h1, h2, h3, h4⟩ hn'
    have e : wrapF .i64 ((i : Int) + 1) = ((i + 1 : Nat) : Int) := by rw [wrapF_i64 (by omega) (by omega)]; rfl
    rw [e]
    refine ⟨l.length - (i + 1), h', by omega, fun hok b o hb => ⟨o, hb, hok b o hb⟩, i + 1, rfl, by omega, h', n', F11_L1111110100_of, by omega, ⟨a', ?_, .inr (by omega), h2, by omega⟩, ?_⟩
    · rw [List.take_succ_eq_append_getElem hlt']; exact h3
    · intro x hx hm
      simp at hm
      rw [h4 x (by omega) (by simp [hm]; rcases had with h | h <;> omega), hsame x hx (by simp [hm])]
  · have : i = l.length := by omega
    subst this
    simp [cellsAt, hW1, worldL, ha.len, ha.vcl, roundQ]
    refine hQ _ h n _ F11_L1111110100_of hn ⟨a, ?_, had, han⟩ hsame
    simpa using hd

def BeginP (l : List Int) (n : Nat) (h : Heap) (v : V) (h' : Heap) (n' : Nat) : Prop := ∃ w f d a q1 q2 q3 F, v = .tup [.ptr w 0, .ptr f 0] ∧ h'.get w = some (.cells (.lst [q1, q2, q3, .ptr d 0]) 4) ∧ FrameAt h' f F ∧ DrawsAt h' d a l ∧
      (d ≠ f ∧ a ≠ f ∧ w ≠ f ∧ w ≠ d ∧ w ≠ a ∧ n ≤ w ∧ n ≤ f ∧ n ≤ d ∧ n ≤ a ∧ w < n' ∧ f < n' ∧ d < n' ∧ a < n') ∧ Same n [] h h'
theorem begin_ok {b : Nat} {sl : V} {l : List Int} (hl : l.length ≤ 100) {h : Heap} {n : Nat} (ha : ArgAt h b sl l) (hb : b < n) :
    CallK CC 11 [.agg (.lst (worldL sl))] h n (BeginP l n h) := by
  refine F11_call fun hlt => ?_
  rw [F11_eq]
  simp [cellsAt, Tree.get_set, worldL]
  refine CallK.monoN ?_ (memNew_nil _ _)
  rintro v h' n1 ⟨p, hp1, hp2, rfl, rfl⟩ hn1
  simp
  refine CallK.monoN ?_ (mapsNew _ _)
  rintro v h' d ⟨p', hp1', hp2', rfl, rfl⟩ hd
  simp
  refine CallK.monoN ?_ (newDraws _ _)
  rintro v h' n' ⟨rfl, rfl, rfl⟩ hn'
  simp
  refine loop_once CCok ?_
  rw [F11_b111110100]
  simp [roundQ, cellsAt, Tree.get_set, show ¬ n = d by omega]
  rw [F11_r111110100_0]
  refine begin_loop (b := b) (w := n) (d := d) (sl := sl) (t4 := .ptr p 0) (t6 := .ptr p' 0) (l := l) hl (n0 := d + 1) (h0 := (Tree.set h n (O.cells (Rope.lst (worldL sl)) 8)).set d (O.cells (Rope.lst [V.s (Value.slice none 0 0)]) 1))
    (by omega) (by omega) (by omega) (by omega) (by omega) ?_ ?_ ?_ l.length _ ⟨0, _, _, rfl, by omega, F11_L1111110100_of, Nat.le_refl _, ⟨d, ⟨_, by rw [Tree.get_set, if_pos rfl], .inl ⟨rfl, by simp, rfl⟩⟩, .inl rfl, by omega, fun _ => rfl⟩, fun _ _ _ => rfl⟩
  · intro t9 h1 n1 s hs hn1 ⟨a, ha1, ha2, ha3⟩ hsame
    obtain ⟨g, rfl⟩ := hs
    rw [F11_r1111110100_2]
    have hW : h1.get n = some (.cells (.lst (worldL sl)) 8) := by
      rw [hsame n (by omega) (by simp; omega)]
      rw [Tree.get_set, if_neg (by omega), Tree.get_set, if_pos rfl]
    simp [cellsAt, hW, worldL]
    refine CallK.monoN ?_ (frameStart _ _ _)
    rintro v h2 n2 ⟨F, rfl, hF, rfl, hn2⟩ _
    have e2 : (Tree.get h2 n) = some (.cells (.lst (worldL sl)) 8) := hW
    simp [hF, ble_dec, storeCells, cellsOwn, Tree.get_set, show ¬ n = n2 by omega, hW, worldL, Rope.put]
    refine CallK.monoN ?_ (stackFill_nil _ _ _)
    rintro v h3 n3 ⟨rfl, rfl⟩ hn3
    simp [Tree.get_set, show ¬ n = n2 by omega, hW, worldL]
    refine ⟨n2 + 1, n2, d, a, _, _, _, F, rfl, by rw [Tree.get_set, if_pos rfl], ⟨?_, hF⟩, ?_, ?_, ?_⟩
    · rw [Tree.get_set, if_neg (by omega), Tree.get_set, if_pos rfl]
      have : List.drop 804 (zr CC 43).toList = [] := by simp
      simp
    · exact ha1.of (by simp only [Tree.get_set]; rw [if_neg (by omega), if_neg (by omega), if_neg (by omega)]) (by simp only [Tree.get_set]; rw [if_neg (by omega), if_neg (by omega), if_neg (by omega)])
    · refine ⟨by omega, by omega, by omega, by omega, by omega, by omega, by omega, by omega, by omega, by omega, by omega, by omega, by omega⟩
    · intro b hb _
      simp only [Tree.get_set]
      rw [if_neg (by omega), if_neg (by omega), if_neg (by omega), hsame b (by omega) (by simp; omega), Tree.get_set, if_neg (by omega), Tree.get_set, if_neg (by omega)]
  · rw [Tree.get_set, if_neg (by omega), Tree.get_set, if_pos rfl]
  · exact ha.of (by rw [Tree.get_set, if_neg (by omega), Tree.get_set, if_neg (by omega)])
end Go.Ev
