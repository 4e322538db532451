import Derived.Test.YtkliejijdjbbkaaGreatHDG
namespace Go.Ev
set_option maxRecDepth 20000

theorem helperDraws {b : Nat} {sl : V} {l : List Int} (hw : ∀ h n, CallK CC 10 [] h n fun v h' n' => v = .s (.bool true)) {h : Heap} {n : Nat} (ha : ArgAt h b sl l) (hb : b < n) :
    CallK CC 4 [sl] h n fun v h' n' => v = .s (.bool true) := by
  refine F4_call fun hlt => ?_
  rw [F4_eq]
  have hnv := ha.vcl.2
  have e1 : V.cells sl = some (.one sl) := by
    rcases ha with ⟨rfl, rfl⟩ | ⟨c, rfl, _⟩ <;> simp
  simp [ha.vcl, cellsAt, Tree.get_set, storeCells, cellsOwn, Rope.put, ble_dec]
  refine CallK.monoN ?_ (long16 sl l.length (fun h => ha.len h) hnv _ _)
  rintro v h1 n1 ⟨rfl, rfl, hn1⟩ _
  by_cases hl : 100 < l.length
  · have hl' : (100 : Int) < l.length := by omega
    simp [hl']
    refine CallK.mono' ?_ (hw _ _)
    rintro v h n rfl
    simp
  · have hl' : ¬ (100 : Int) < l.length := by omega
    simp [hl', cellsAt, Tree.get_set]
    refine CallK.monoN ?_ (begin_ok (b := b) (l := l) (by omega) (ha.of ?_) (show b < n1 by omega))
    rotate_left
    · simp [Tree.get_set, show ¬ b = n by omega]
    rintro v h2 n2 ⟨w, f, d, a, q1, q2, q3, F, rfl, hW, hF, hd, hdist, hs⟩ hn2
    simp
    refine draws_loop (b := b) (w := w) (f := f) (d := d) (a := a) (sl := sl) (q1 := q1) (q2 := q2) (q3 := q3) (l := l) (by omega) (n0 := n2) (by omega) ?_ _ _ ⟨0, h2, n2, rfl, by omega, F4_L111110100_of, Nat.le_refl _, ?_, hW, ⟨F, hF⟩, hd⟩
    · intro t6 h n s hs
      obtain ⟨g, rfl⟩ := hs
      rw [F4_r111110100_0]
      refine CallK.mono' ?_ (hw _ _)
      rintro v h n rfl
      simp
    · exact ha.of (by rw [hs b (by omega) (by simp)]; simp [Tree.get_set, show ¬ b = n by omega])
end Go.Ev
