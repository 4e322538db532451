import Derived.Test.YtkliejijdjbbkaaGreatHDC
namespace Go.Ev
set_option maxRecDepth 20000

theorem CallK.monoN {C : Ctx} {f : FuncId} {args : List V} {h : Heap} {n : Nat} {K K' : V → Heap → Nat → Prop} (hm : ∀ v h' n', K v h' n' → n ≤ n' → K' v h' n') (hk : CallK C f args h n K) : CallK C f args h n K' :=
  CallK.hkeep hk fun _ v h' n' k hn hok => ⟨h', fun b o hb => ⟨o, hb, hok b o hb⟩, hm v h' n' k hn⟩
def FrameAt (h : Heap) (f : Nat) (F : List V) : Prop := h.get f = some (.cells (.lst F) 804) ∧ F.length = 804
def numV (x : Int) : List V := [.s (.int .i64 1), .s (.int .u64 x), .s (.int .i64 0)]

theorem num_ok (x : Int) (h : Heap) (n : Nat) : CallK CC 81 [.s (.int .u64 x)] h n fun v h' n' => v = .agg (.lst (numV x)) ∧ Same n [] h h' := by
  refine F81_call fun hlt => ?_
  rw [F81_eq]
  simp [cellsAt, Tree.get_set, storeCells, cellsOwn, Rope.put, ble_dec, numV]
  intro b hb _
  simp only [Tree.get_set]
  rw [if_neg (by omega), if_neg (by omega)]

theorem clear_ok {f : Nat} {F : List V} {h : Heap} (n : Nat) (hf : FrameAt h f F) : CallK CC 111 [.ptr f 0] h n fun v h' n' => (∃ F', FrameAt h' f F') ∧ Same n [f] h h' := by
  refine F111_call fun hlt => ?_
  rw [F111_eq]
  have hfn := hlt f _ hf.1
  have e : ¬ (f = n + 4) := by omega
  have hR : ((zr CC 28).rep 5).size = 15 := by kernel_rfl
  have hE : (((zr CC 28).rep 5).ext 0 15).size = 15 := by kernel_rfl
  have hL : (((zr CC 28).rep 5).ext 0 15).toList.length = 15 := by kernel_rfl
  simp [asNat_int, ble_dec, blt_dec, bounds, bound, beq_dec, copyW, firstCells, Tree.get_set, cellsAt, hf.1, hf.2, storeCells, cellsOwn, Rope.put, e, hR, hE, -List.reduceReplicate]
  constructor
  · refine ⟨_, by rw [Tree.get_set, if_pos rfl], ?_⟩
    have := hf.2
    simp only [List.length_append, List.length_take, List.length_drop, hL]
    omega
  · intro b hb hn
    simp at hn
    simp only [Tree.get_set]
    rw [if_neg hn, if_neg (by omega)]

theorem Same.trans {n n' : Nat} {fp fp' : List Nat} {h h' h'' : Heap} (a : Same n fp h h') (hn : n ≤ n') (b : Same n' fp' h' h'') : Same n (fp ++ fp') h h'' := by
  intro x hx hm
  simp at hm
  rw [b x (by omega) hm.2, a x hx hm.1]

/-- The frame's first number, as tells leaves it. -/
def Told (h : Heap) (f : Nat) (x : Int) : Prop := ∃ F, FrameAt h f F ∧ (F.drop 3).take 3 = numV x

theorem tells_ok {e w f : Nat} {F : List V} (x : Int) {h : Heap} {n : Nat} (he : h.get e = some (.cells (.lst [.ptr w 0, .ptr f 0]) 2)) (hne : e ≠ f) (hf : FrameAt h f F) :
    CallK CC 80 [.ptr e 0, .agg (.lst (numV x))] h n fun v h' n' => v = .tup [.s (.int .i64 0), .s (.int .i64 0)] ∧ Told h' f x ∧ Same n [f] h h' := by
  refine F80_call fun hlt => ?_
  rw [F80_eq]
  have hfn := hlt f _ hf.1
  have hen := hlt e _ he
  have e0 : ¬ (f = n) := by omega
  have e1 : ¬ (e = n) := by omega
  have ef : e ≠ f := hne
  simp [cellsAt, Tree.get_set, he, e1]
  refine CallK.monoN ?_ (clear_ok (F := F) _ ⟨by rw [Tree.get_set, if_neg e0]; exact hf.1, hf.2⟩)
  rintro v h' n' ⟨⟨F', hF'⟩, hs⟩ hn'
  have k1 := hs e (by omega) (by simp [hne])
  have k2 := hs n (by omega) (by simp; omega)
  rw [Tree.get_set, if_neg e1, he] at k1
  rw [Tree.get_set, if_pos rfl] at k2
  simp [cellsAt, Tree.get_set, k1, k2, numV, hF'.1, hF'.2, storeCells, cellsOwn, ble_dec, blt_dec, asNat_int, Rope.put]
  constructor
  · have hl := hF'.2
    refine ⟨_, ⟨by rw [Tree.get_set, if_pos rfl], by simp; omega⟩, ?_⟩
    rw [List.drop_append, List.drop_take]
    have : (F'.take 3).length = 3 := by simp; omega
    simp [this, numV]
  · intro b hb hn
    simp at hn
    rw [Tree.get_set, if_neg hn, hs b (by omega) (by simp [hn]), Tree.get_set, if_neg (by omega)]

def hd0 : List Int → Int
  | [] => 0
  | x :: _ => x
theorem next_any {d a : Nat} {l : List Int} {h : Heap} (n : Nat) (hd : DrawsAt h d a l) :
    CallK CC 85 [.ptr d 0] h n fun v h' n' => v = .s (.int .u32 (hd0 l)) ∧ DrawsAt h' d a l.tail ∧ Same n [d, a] h h' ∧ n' = n := by
  cases l with
  | nil =>
    refine CallK.monoN ?_ (next_none n hd)
    rintro v h' n' ⟨rfl, rfl, rfl⟩ _
    exact ⟨rfl, hd, fun _ _ _ => rfl, rfl⟩
  | cons x l => exact next_ok n hd
theorem DrawsAt.of {d a : Nat} {l : List Int} {h h' : Heap} (hd : DrawsAt h d a l) (e1 : h'.get d = h.get d) (e2 : h'.get a = h.get a) : DrawsAt h' d a l := by
  obtain ⟨v, g1, g2⟩ := hd
  refine ⟨v, by rw [e1, g1], ?_⟩
  rcases g2 with ⟨g2, g3, g4⟩ | ⟨g2, o, A, g3, g4, g5, g6⟩
  · exact .inl ⟨g2, g3, g4⟩
  · exact .inr ⟨g2, o, A, g3, by rw [e2, g4], g5, g6⟩

theorem draw_ok {e w f d a : Nat} {F : List V} {l : List Int} {h : Heap} {n : Nat} {q1 q2 q3 : V}
    (he : h.get e = some (.cells (.lst [.ptr w 0, .ptr f 0]) 2)) (hw : h.get w = some (.cells (.lst [q1, q2, q3, .ptr d 0]) 4))
    (hf : FrameAt h f F) (hd : DrawsAt h d a l) (hdist : e ≠ f ∧ d ≠ f ∧ a ≠ f ∧ e ≠ d ∧ e ≠ a ∧ d < n ∧ a < n) :
    CallK CC 46 [.ptr e 0] h n fun v h' n' => v = .tup [.s (.int .i64 0), .s (.int .i64 0)] ∧ Told h' f (wrapF .u64 (hd0 l)) ∧ DrawsAt h' d a l.tail ∧ Same n [f, d, a] h h' := by
  obtain ⟨hef, hdf, haf, hed, hea, hdn, han⟩ := hdist
  refine F46_call fun hlt => ?_
  rw [F46_eq]
  have hfn := hlt f _ hf.1
  have hen := hlt e _ he
  simp [cellsAt, he, hw]
  refine CallK.monoN ?_ (next_any n hd)
  rintro v h1 n1 ⟨rfl, hd1, hs1, rfl⟩ _
  simp
  refine CallK.monoN ?_ (num_ok _ _ _)
  rintro v h2 n2 ⟨rfl, hs2⟩ hn2
  have he1 : h1.get e = some (.cells (.lst [.ptr w 0, .ptr f 0]) 2) := by rw [hs1 e hen (by simp [hed, hea]), he]
  have he2 : h2.get e = some (.cells (.lst [.ptr w 0, .ptr f 0]) 2) := by rw [hs2 e hen (by simp), he1]
  have hf2 : FrameAt h2 f F := ⟨by rw [hs2 f hfn (by simp), hs1 f hfn (by simp [Ne.symm hdf, Ne.symm haf])]; exact hf.1, hf.2⟩
  refine CallK.monoN ?_ (tells_ok _ he2 hef hf2)
  rintro v h3 n3 ⟨rfl, ht, hs3⟩ hn3
  simp
  refine ⟨ht, ?_, ?_⟩
  · exact hd1.of (by rw [hs3 d (by omega) (by simp [hdf]), hs2 d (by omega) (by simp)]) (by rw [hs3 a (by omega) (by simp [haf]), hs2 a (by omega) (by simp)])
  · intro b hb hn
    simp at hn
    rw [hs3 b (by omega) (by simp [hn.1]), hs2 b (by omega) (by simp), hs1 b hb (by simp [hn.2])]
end Go.Ev
