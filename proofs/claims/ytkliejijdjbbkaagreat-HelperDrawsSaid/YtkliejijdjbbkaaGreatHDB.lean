import Derived.Test.YtkliejijdjbbkaaGreatHDA
namespace Go.Ev
set_option maxRecDepth 20000

/-- What was there is there. -/
theorem hsub_of {h h' : Heap} {n : Nat} (hlt : ∀ b o, h.get b = some o → b < n) (hok : HOk h') (he : ∀ b, b < n → h'.get b = h.get b) : HSub h h' := by
  intro b o hb
  have e := he b (hlt b o hb)
  exact ⟨o, by rw [e]; exact hb, hok b o (by rw [e]; exact hb)⟩

theorem memNew_nil (h : Heap) (n : Nat) : CallK CC 36 [.s (.slice none 0 0)] h n fun v h' n' => ∃ p, n ≤ p ∧ p < n' ∧ v = .tup [.ptr p 0, .s (.int .i64 0)] ∧ h' = h := by
  refine (CallK.hkeep (K := fun v h' n' => v = .tup [.ptr (n+1) 0, .s (.int .i64 0)] ∧ (∀ b, b < n → h'.get b = h.get b) ∧ n' = n + 1 + 1) ?_ ?_)
  · refine F36_call fun hlt => ?_
    rw [F36_eq]
    have e1 : wrapF .i64 64 = 64 := wrapF_i64 (by decide) (by decide)
    simp [e1, asNat_int, ble_dec, blt_dec, bounds, bound, beq_dec, copyW, firstCells, Tree.get_set, -List.reduceReplicate]
    intro b hb
    rw [if_neg (by omega), if_neg (by omega)]
  · rintro hlt v h' n' ⟨rfl, he, rfl⟩ hn hok
    exact ⟨h, hsub_of hlt hok he, n+1, by omega, by omega, rfl, rfl⟩

theorem cellsNew (h : Heap) (n : Nat) : CallK CC 56 [] h n fun v h' n' => ∃ p, n ≤ p ∧ p < n' ∧ v = .ptr p 0 ∧ ∀ b, b < n → h'.get b = h.get b := by
  refine F56_call fun hlt => ?_
  rw [F56_eq]
  simp [Tree.get_set]
  refine ⟨n + 1, by omega, by omega, rfl, fun b hb => ?_⟩
  rw [if_neg (by omega), if_neg (by omega)]

theorem mapsNew (h : Heap) (n : Nat) : CallK CC 20 [] h n fun v h' n' => ∃ p, n ≤ p ∧ p < n' ∧ v = .ptr p 0 ∧ h' = h := by
  refine (CallK.hkeep (K := fun v h' n' => ∃ p, n ≤ p ∧ p < n' ∧ v = .ptr p 0 ∧ ∀ b, b < n → h'.get b = h.get b) ?_ ?_)
  · refine F20_call fun hlt => ?_
    rw [F20_eq]
    refine CallK.mono' ?_ (cellsNew _ _)
    rintro v h' n' ⟨p, h1, h2, rfl, he⟩
    simp [Tree.get_set]
    refine ⟨n', by omega, by omega, rfl, fun b hb => ?_⟩
    rw [if_neg (by omega), he b hb]
  · rintro hlt v h' n' ⟨p, h1, h2, rfl, he⟩ hn hok
    exact ⟨h, hsub_of hlt hok he, p, h1, h2, rfl, rfl⟩

theorem newDraws (h : Heap) (n : Nat) : CallK CC 37 [] h n fun v h' n' => v = .ptr n 0 ∧ h' = h.set n (.cells (.lst [.s (.slice none 0 0)]) 1) ∧ n' = n + 1 := by
  refine F37_call fun hlt => ?_
  rw [F37_eq]
  simp

theorem frameStart (t : Int) (h : Heap) (n : Nat) : CallK CC 39 [.s (.int .i64 1), .s (.int .i64 t)] h n fun v h' n' => ∃ F, v = .agg (.lst F) ∧ F.length = 804 ∧ h' = h ∧ n ≤ n' := by
  refine (CallK.hkeep (K := fun v h' n' => ∃ F, v = .agg (.lst F) ∧ F.length = 804 ∧ (∀ b, b < n → h'.get b = h.get b) ∧ n ≤ n') ?_ ?_)
  · refine F39_call fun hlt => ?_
    rw [F39_eq]
    simp
    rw [storeCells_lst (by rw [Tree.get_set_same]) (by simp)]
    simp [cellsAt, Tree.get_set_same]
    refine ⟨_, rfl, by simp, fun b hb => ?_⟩
    simp only [Tree.get_set]
    rw [if_neg (by omega), if_neg (by omega)]
  · rintro hlt v h' n' ⟨F, rfl, hF, he, h1⟩ hn hok
    exact ⟨h, hsub_of hlt hok he, F, rfl, hF, rfl, hn⟩

theorem lay_nil (f : Nat) (x : Int) (h : Heap) (n : Nat) : CallK CC 76 [.ptr f 0, .s (.int .i64 x), .s (.slice none 0 0)] h n fun v h' n' => h' = h ∧ n' = n := by
  refine F76_call fun hlt => ?_
  rw [F76_eq]
  simp
  refine loop_once CCok ?_
  rw [F76_b100]
  simp [roundQ]
  rw [F76_r100_0]
  simp

theorem stackFill_nil (f : Nat) (h : Heap) (n : Nat) : CallK CC 40 [.ptr f 0, .s (.int .i64 (-64)), .s (.slice none 0 0)] h n fun v h' n' => h' = h ∧ n' = n := by
  refine F40_call fun hlt => ?_
  rw [F40_eq]
  simp
  refine F75_call fun hlt => ?_
  rw [F75_eq]
  have e : wrapF .i64 64 = 64 := wrapF_i64 (by decide) (by decide)
  simp [e]
  refine CallK.mono' ?_ (lay_nil _ _ _ _)
  rintro v h' n' ⟨rfl, rfl⟩
  simp

end Go.Ev
