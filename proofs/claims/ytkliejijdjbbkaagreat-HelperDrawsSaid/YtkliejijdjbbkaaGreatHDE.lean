import Derived.Test.YtkliejijdjbbkaaGreatHDD
namespace Go.Ev
set_option maxRecDepth 20000
theorem keyNow_i (a b : Int) : keyNow (.int .i64) (.s (.int .i64 a)) (.s (.int .i64 b)) = some (decide (a = b)) := by
  simp [keyNow, intEq_dec, kindEq_self]

theorem call_five {w f d a : Nat} {F : List V} {l : List Int} {h : Heap} {n : Nat} {q1 q2 q3 : V}
    (hw : h.get w = some (.cells (.lst [q1, q2, q3, .ptr d 0]) 4))
    (hf : FrameAt h f F) (hd : DrawsAt h d a l) (hdist : d ≠ f ∧ a ≠ f ∧ w ≠ f ∧ d < n ∧ a < n) :
    CallK CC 14 [.ptr w 0, .ptr f 0, .s (.int .i64 5)] h n fun v h' n' => v = .tup [.s (.int .i64 0), .s (.int .i64 0)] ∧ Told h' f (wrapF .u64 (hd0 l)) ∧ DrawsAt h' d a l.tail ∧ Same n [f, d, a] h h' := by
  obtain ⟨hdf, haf, hwf, hdn, han⟩ := hdist
  refine F14_call fun hlt => ?_
  rw [F14_eq]
  have hfn := hlt f _ hf.1
  have hwn := hlt w _ hw
  simp [mapUpdateW, lookupW, mapOwn, mapAt, Tree.get_set, findKey, keyNow_i, callV_func]
  have old : ∀ b, b < n → (h.get b) = (h.get b) := fun _ _ => rfl
  refine CallK.monoN ?_ (draw_ok (e := n) (w := w) (f := f) (d := d) (a := a) (F := F) (l := l) (q1 := q1) (q2 := q2) (q3 := q3) ?_ ?_ ?_ ?_ ?_)
  · rintro v h' n' ⟨rfl, ht, hd', hs⟩ _
    simp
    refine ⟨ht, hd', ?_⟩
    intro b hb hn
    rw [hs b (by omega) hn]
    simp only [Tree.get_set]
    simp [show ¬ b = n + 1 by omega, show ¬ b = n by omega]
  · simp [Tree.get_set]
  · simp [Tree.get_set, show ¬ w = n + 1 by omega, show ¬ w = n by omega, hw]
  · exact ⟨by simp [Tree.get_set, show ¬ f = n + 1 by omega, show ¬ f = n by omega, hf.1], hf.2⟩
  · exact hd.of (by simp [Tree.get_set, show ¬ d = n + 1 by omega, show ¬ d = n by omega]) (by simp [Tree.get_set, show ¬ a = n + 1 by omega, show ¬ a = n by omega])
  · refine ⟨by omega, hdf, haf, by omega, by omega, by omega, by omega⟩
end Go.Ev
