import Derived.Test.YtkliejijdjbbkaaGreatHDF
namespace Go.Ev
set_option maxRecDepth 20000

theorem works_of (K : V → Heap → Nat → Prop) (hw : ∀ h n, CallK CC 10 [] h n fun v h' n' => v = .s (.bool true)) (h : Heap) (n : Nat) (hK : ∀ h' n', K (.s (.bool true)) h' n') : CallK CC 10 [] h n K :=
  CallK.mono' (fun v h' n' e => by rw [e]; exact hK h' n') (hw h n)

theorem eqNum (x y : Int) : binop CC .neq 28 false (.agg (.lst [.s (.int .i64 1), .s (.int .u64 x), .s (.int .i64 0)])) (.agg (.lst [.s (.int .i64 1), .s (.int .u64 y), .s (.int .i64 0)])) = some (.s (.bool (decide (x ≠ y)))) := by
  have : binop CC .neq 28 false (.agg (.lst [.s (.int .i64 1), .s (.int .u64 x), .s (.int .i64 0)])) (.agg (.lst [.s (.int .i64 1), .s (.int .u64 y), .s (.int .i64 0)])) = eqOp .neq (bif intEq x y then some true else some false) := by
    kernel_rfl
  rw [this, intEq_dec]
  by_cases h : x = y <;> simp [h, eqOp]

theorem draws_loop {b w f d a : Nat} {sl q1 q2 q3 : V} {l : List Int} (hl : l.length ≤ 100) {Q : X → St → Prop} {n0 : Nat}
    (hdist : d ≠ f ∧ a ≠ f ∧ w ≠ f ∧ w ≠ d ∧ w ≠ a ∧ b ≠ f ∧ b ≠ d ∧ b ≠ a ∧ w < n0 ∧ f < n0 ∧ d < n0 ∧ a < n0 ∧ b < n0)
    (hQ : ∀ t6 h n s, F4_L111110100 sl (.ptr w 0) (.ptr f 0) t6 h n s → Q (.exit 0) s) :
    ∀ m s, (∃ i h n, m = l.length + 3 - i ∧ i ≤ l.length + 3 ∧ F4_L111110100 sl (.ptr w 0) (.ptr f 0) (.s (.int .i64 i)) h n s ∧ n0 ≤ n ∧ ArgAt h b sl l ∧
        h.get w = some (.cells (.lst [q1, q2, q3, .ptr d 0]) 4) ∧ (∃ F, FrameAt h f F) ∧ DrawsAt h d a (l.drop i)) →
      LoopK CC none (subC [1, 1, 1, 1, 1, 0, 1, 0, 0] (bodyOf Go.Proofs.Tryz.f4)) s Q := by
  obtain ⟨d1, d2, d3, d4, d5, d6, d7, d8, d9, d10, d11, d12, d13⟩ := hdist
  refine loopH CCok _ ?_
  rintro m s ⟨i, h, n, hm, hi, hs, hn, ha, hW, ⟨F, hF⟩, hd⟩ hlt
  obtain ⟨g, rfl⟩ := hs
  replace hlt : ∀ b o, h.get b = some o → b < n := hlt
  rw [F4_b111110100]
  have ea : wrapF .i64 ((l.length : Int) + 3) = ((l.length + 3 : Nat) : Int) := by rw [wrapF_i64 (by omega) (by omega)]; rfl
  have eb : wrapF .i64 ((i : Int) + 1) = ((i + 1 : Nat) : Int) := by rw [wrapF_i64 (by omega) (by omega)]; rfl
  have ec : wrapF .i64 ((l.length : Int) - i) = (l.length : Int) - i := wrapF_i64 (by omega) (by omega)
  have ed : wrapF .i64 ((l.length : Int) - i - 1) = (l.length : Int) - i - 1 := wrapF_i64 (by omega) (by omega)
  by_cases h1 : i < l.length + 3
  · have h1' : (i : Int) < (l.length : Int) + 3 := by omega
    by_cases h2 : i < l.length
    · have h2' : (i : Int) < (l.length : Int) := by omega
      obtain ⟨p, p1, p2⟩ := ha.ix h2
      simp [ha.len, ea, h1', h2, p1, p2]
      refine CallK.monoN ?_ (call_five hW hF hd ⟨d1, d2, d3, by omega, by omega⟩)
      rintro v h' n' ⟨rfl, ⟨F', hF', hT⟩, hd', hs'⟩ hn'
      have hW' : h'.get w = some (.cells (.lst [q1, q2, q3, .ptr d 0]) 4) := by rw [hs' w (by omega) (by simp [d3, d4, d5]), hW]
      have hh : hd0 (l.drop i) = l[i] := by rw [List.drop_eq_getElem_cons h2]; rfl
      have ht' : (l.drop i).tail = l.drop (i + 1) := by rw [List.drop_eq_getElem_cons h2]; rfl
      rw [hh] at hT
      rw [ht'] at hd'
      have em : maxW 0 ((l.length : Int) - i - 1) = ((l.length - (i + 1) : Nat) : Int) := by unfold maxW; split <;> omega
      simp [cellsAt, hF'.1, hF'.2, asNat_int, blt_dec, ble_dec, hT, hW', numV, eqNum]
      refine CallK.monoN ?_ (left_ok n' hd')
      rintro v h2' n2 ⟨rfl, rfl, rfl⟩ _
      simp [ha.len, ec, ed, em]
      refine ⟨l.length + 3 - (i + 1), h2', by omega, fun hok b o hb => ⟨o, hb, hok b o hb⟩, i + 1, rfl, by omega, h2', n2, ?_, by omega, ha.of (hs' b (by omega) (by simp [d6, d7, d8])), hW', ⟨F', hF'⟩, hd'⟩
      rw [eb]
      exact F4_L111110100_of
    · have h2' : ¬ (i : Int) < (l.length : Int) := by omega
      have hnil : l.drop i = [] := List.drop_eq_nil_of_le (by omega)
      have hnil' : l.drop (i + 1) = [] := List.drop_eq_nil_of_le (by omega)
      rw [hnil] at hd
      simp [ha.len, ea, h1', h2]
      refine CallK.monoN ?_ (call_five hW hF hd ⟨d1, d2, d3, by omega, by omega⟩)
      rintro v h' n' ⟨rfl, ⟨F', hF', hT⟩, hd', hs'⟩ hn'
      have hW' : h'.get w = some (.cells (.lst [q1, q2, q3, .ptr d 0]) 4) := by rw [hs' w (by omega) (by simp [d3, d4, d5]), hW]
      have hh : wrapF .u64 (hd0 []) = 0 := wrapF_u64 (by decide) (by decide)
      rw [hh] at hT
      have em : maxW 0 ((l.length : Int) - i - 1) = 0 := by unfold maxW; split <;> omega
      simp [cellsAt, hF'.1, hF'.2, asNat_int, blt_dec, ble_dec, hT, hW', numV, eqNum]
      refine CallK.monoN ?_ (left_ok n' hd')
      rintro v h2' n2 ⟨rfl, rfl, rfl⟩ _
      simp [ha.len, ec, ed, em]
      refine ⟨l.length + 3 - (i + 1), h2', by omega, fun hok b o hb => ⟨o, hb, hok b o hb⟩, i + 1, rfl, by omega, h2', n2, ?_, by omega, ha.of (hs' b (by omega) (by simp [d6, d7, d8])), hW', ⟨F', hF'⟩, ?_⟩
      · rw [eb]
        exact F4_L111110100_of
      · rw [hnil']; exact hd'
  · have h1' : ¬ (i : Int) < (l.length : Int) + 3 := by omega
    simp [ha.len, ea, h1', h1, roundQ]
    exact hQ _ h n _ F4_L111110100_of
end Go.Ev
