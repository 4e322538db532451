import Derived.Test.YtkliejijdjbbkaaGreatRHD
namespace Go.Ev
set_option maxRecDepth 20000

theorem long12_nil (h : Heap) (n : Nat) : CallK CC 18 [.s (.slice none 0 0)] h n fun v h' n' => v = .s (.bool false) ∧ h' = h ∧ n' = n := by
  refine F18_call fun hlt => ?_
  rw [F18_eq]
  simp
  refine loop_once CCok ?_
  rw [F18_b110100]
  simp [roundQ]
  rw [F18_r110100_0]
  simp

/-- The cells of a world that has draws alone. -/
def worldL (sl : V) : List V := [.s (.slice none 0 0), .s (.slice none 0 0), sl, .s (.int .i64 0), .s (.slice none 0 0), .s (.int .i64 0), .s (.int .u64 0), .s (.int .i64 0)]

theorem long16 (sl : V) (m : Int) (hsl : ∀ h, lenV CC h 26 sl = some (.s (.int .i64 m))) (hv : normV sl = sl) (h : Heap) (n : Nat) : CallK CC 9 [.agg (.lst (worldL sl)), .s (.slice none 0 0)] h n fun v h' n' => v = .s (.bool (decide ((100 : Int) < m))) ∧ h' = h ∧ n ≤ n' := by
  refine (CallK.hkeep (K := fun v h' n' => v = .s (.bool (decide ((100 : Int) < m))) ∧ h' = h.set n (.cells (.lst (worldL sl)) 8)) ?_ ?_)
  · refine F9_call fun hlt => ?_
    rw [F9_eq]
    simp [cellsAt, Tree.get_set, worldL]
    refine CallK.mono' ?_ (long12_nil _ _)
    rintro v h' n' ⟨rfl, rfl, rfl⟩
    simp [cellsAt, Tree.get_set, worldL, hsl, hv]
    by_cases hm : (100 : Int) < m
    · simp [hm, cellsAt, Tree.get_set, worldL, hsl, hv]
    · simp [hm, cellsAt, Tree.get_set, worldL, hsl, hv]
      refine loop_once CCok ?_
      rw [F9_b110100]
      simp [roundQ]
      rw [F9_r110100_0]
      simp
  · rintro hlt v h' n' ⟨rfl, rfl⟩ hn hok
    refine ⟨h, fun b o hb => ⟨o, ?_, ?_⟩, rfl, rfl, hn⟩
    · rw [Tree.get_set_ne _ _ (by have := hlt b o hb; omega)]; exact hb
    · exact hok b o (by rw [Tree.get_set_ne _ _ (by have := hlt b o hb; omega)]; exact hb)
end Go.Ev
