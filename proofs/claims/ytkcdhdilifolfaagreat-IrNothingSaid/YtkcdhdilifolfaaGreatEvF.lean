/- Stores; aggregates that are built; equality. -/
import Derived.Test.YtkcdhdilifolfaaGreatEvE
namespace Go.Ev
variable {C : Ctx}

theorem splice_mid (pre mid post ys : List Value) (off : Nat) (h : off + ys.length ≤ mid.length) :
    (pre ++ mid ++ post).take (off + pre.length) ++ ys ++ (pre ++ mid ++ post).drop (off + pre.length + ys.length) = pre ++ (mid.take off ++ ys ++ mid.drop (off + ys.length)) ++ post := by
  rw [List.append_assoc pre, List.take_append, List.drop_append, List.take_of_length_le (show pre.length ≤ off + pre.length by omega),
    List.drop_eq_nil_of_le (show pre.length ≤ off + pre.length + ys.length by omega)]
  rw [show off + pre.length - pre.length = off from by omega, show off + pre.length + ys.length - pre.length = off + ys.length from by omega]
  rw [List.take_append_of_le_length (by omega), List.drop_append_of_le_length (by omega)]
  simp

theorem storeCells_run {ρ : Ren} {h h' : Heap} {w : World} (H : HRel ρ h w) {b off : Nat} {new : Rope V} (hs : storeCells h b off new = some h') {c sh ex : Nat}
    (hr : ρ b = some (c, sh, ex)) (hok : new.Ok) {ys : List Value} (hv : VRels ρ new.toList ys) (hc : ∀ y ∈ ys, y.oneCell' = true) (n : Nat) :
    ∃ w', (Go.storeCells ⟨c, off + sh, none⟩ ys).run C.P w = .ok () w' ∧ Evo ρ h n w ρ h' n w' := by
  unfold storeCells at hs
  obtain ⟨q, hq, hs⟩ := of_bind hs
  obtain ⟨h1, h2⟩ := of_cond_some hs
  cases h2
  rw [ble_true_iff] at h1
  obtain ⟨hg, arr, t', fz, pre, mid, post, g1, g2, g3, g4, g5, g6, g7, g8⟩ := H.cells hq hr
  have e1 := Rope.size_eq g2
  have e2 := g5.length
  have e3 := Rope.size_eq hok
  have e4 := hv.length
  have e5 : arr.size = pre.length + mid.length + post.length := by rw [← Array.length_toList, g3]; simp; omega
  obtain ⟨p1, p2, p3⟩ := Rope.put_ok off g2 hok h1
  have hrun := run_storeCells_gen (P := C.P) c (off + sh) t' fz ys 0 arr w g1 (by omega) hc g8
  refine ⟨_, hrun, Evo.turn H n hg hr rfl rfl ?_⟩
  have e6 : arr.toList.take (off + sh) ++ ys ++ arr.toList.drop (off + sh + ys.length) = pre ++ (mid.take off ++ ys ++ mid.drop (off + ys.length)) ++ post := by
    rw [g3, ← g4]; exact splice_mid pre mid post ys off (by omega)
  simp only [Nat.add_zero]
  rw [e6]
  refine .cells p1 pre (mid.take off ++ ys ++ mid.drop (off + ys.length)) post (by simp) g4 ?_ ?_ g7 ?_
  · rw [p3, e3, e4]
    exact ((g5.take off).append hv).append (g5.drop _)
  · intro y hy
    simp only [List.mem_append] at hy
    rcases hy with (hy | hy) | hy
    · exact g6 y (List.mem_of_mem_take hy)
    · exact hc y hy
    · exact g6 y (List.mem_of_mem_drop hy)
  · intro i hi
    apply g8
    simp at hi
    omega

theorem store_run (hC : C.Ok) {ρ : Ren} {h h' : Heap} {w : World} (H : HRel ρ h w) {t : TypeId} {b off : Nat} {v : V} (hs : store C h t b off v = some h') {c sh ex : Nat}
    (hr : ρ b = some (c, sh, ex)) {x : Value} (hv : VRel ρ v x) (n : Nat) :
    ∃ w', (Go.storeVar t ⟨c, off + sh, none⟩ x).run C.P w = .ok () w' ∧ Evo ρ h n w ρ h' n w' := by
  unfold store at hs
  obtain ⟨i, hi, hs⟩ := of_bind hs
  obtain ⟨cs, hcs, hs⟩ := of_bind hs
  obtain ⟨h1, hs⟩ := of_cond_some hs
  rw [beq_true_iff] at h1
  obtain ⟨_, sp⟩ := hC.spec hi
  obtain ⟨a1, a2, a3⟩ := hv.cells hcs
  obtain ⟨w', h2, h3⟩ := storeCells_run (C := C) H hs hr a1 a2 a3 n
  refine ⟨w', ?_, h3⟩
  have e : x.cells.size = i.size := by
    have := a2.length
    rw [← h1, Rope.size_eq a1, this]; simp
  simp [storeVar, sp.run_size, e, h2]

/-! ### Aggregates built -/
theorem fold_cells (off : Nat) : ∀ (vs : List Value) (j : Nat) (cells : Array Value), off + j + vs.length ≤ cells.size →
    ((vs.zipIdx j).foldl (fun cs (x : Value × Nat) => cs.setIfInBounds (off + x.2) x.1) cells) = (cells.toList.take (off + j) ++ vs ++ cells.toList.drop (off + j + vs.length)).toArray
  | [], j, cells, _ => by simp
  | v :: vs, j, cells, h => by
    simp only [List.length_cons] at h
    simp only [List.zipIdx_cons, List.foldl_cons]
    rw [fold_cells off vs (j + 1) _ (by simp; omega)]
    simp only [Array.toList_setIfInBounds, show off + (j + 1) = off + j + 1 from by omega, List.length_cons]
    rw [splice_step cells.toList (off + j) v vs (by simp; omega)]

theorem fold_cells_array (off : Nat) (vs : Array Value) (cells : Array Value) (h : off + vs.size ≤ cells.size) :
    (vs.zipIdx.foldl (fun cs (x : Value × Nat) => cs.setIfInBounds (off + x.2) x.1) cells) = (cells.toList.take off ++ vs.toList ++ cells.toList.drop (off + vs.size)).toArray := by
  rw [← Array.foldl_toList, Array.toList_zipIdx, fold_cells off vs.toList 0 cells (by simpa using h)]
  simp

/-- Numbered values. -/
inductive NRels (ρ : Ren) : List (Nat × V) → List (Nat × Value) → Prop
  | nil : NRels ρ [] []
  | cons {i : Nat} {v : V} {x : Value} {vs : List (Nat × V)} {xs : List (Nat × Value)} (h : VRel ρ v x) (hs : NRels ρ vs xs) : NRels ρ ((i, v) :: vs) ((i, x) :: xs)

theorem fill_rel {ρ : Ren} (place : Nat → Option (Nat × Nat)) (fl : Rope V → List (Nat × V) → Option (Rope V))
    (h0 : ∀ r r', fl r [] = some r' → r' = r)
    (h1 : ∀ r r' i v rest, fl r ((i, v) :: rest) = some r' → ∃ off n cs, place i = some (off, n) ∧ v.cells = some cs ∧ cs.size = n ∧ off + n ≤ r.size ∧ fl (r.put off cs) rest = some r') :
    ∀ {parts : List (Nat × V)} {ps : List (Nat × Value)} {r r' : Rope V} {xs : List Value}, NRels ρ parts ps → fl r parts = some r' → r.Ok → VRels ρ r.toList xs → (∀ x ∈ xs, x.oneCell' = true) →
      ∃ ys : List Value, Instr.fill place xs.toArray ps = some ys.toArray ∧ r'.Ok ∧ VRels ρ r'.toList ys ∧ (∀ y ∈ ys, y.oneCell' = true)
  | _, _, r, r', xs, .nil, hf, hok, hr, hc => by
    obtain rfl := h0 _ _ hf
    exact ⟨xs, rfl, hok, hr, hc⟩
  | _, _, r, r', xs, .cons (i := i) (v := v) (x := x) (vs := vs) (xs := ps) h hs, hf, hok, hr, hc => by
    obtain ⟨off, n, cs, g1, g2, g3, g4, g5⟩ := h1 _ _ _ _ _ hf
    obtain ⟨a1, a2, a3⟩ := h.cells g2
    obtain ⟨p1, p2, p3⟩ := Rope.put_ok off hok a1 (by omega)
    have e1 := Rope.size_eq a1
    have e2 := a2.length
    have e3 := Rope.size_eq hok
    have e4 := hr.length
    have e5 : x.cells.size = n := by rw [← Array.length_toList]; omega
    have hnew : VRels ρ (r.put off cs).toList (xs.take off ++ x.cells.toList ++ xs.drop (off + n)) := by
      rw [p3, g3]; exact ((hr.take off).append a2).append (hr.drop _)
    obtain ⟨ys, k1, k2, k3, k4⟩ := fill_rel place fl h0 h1 (r := r.put off cs) hs g5 p1 hnew (by
      intro y hy
      simp only [List.mem_append] at hy
      rcases hy with (hy | hy) | hy
      · exact hc y (List.mem_of_mem_take hy)
      · exact a3 y hy
      · exact hc y (List.mem_of_mem_drop hy))
    refine ⟨ys, ?_, k2, k3, k4⟩
    have hno : ¬ ((decide (x.cells.size ≠ n) || decide (off + x.cells.size > xs.toArray.size)) = true) := by simp; omega
    simp only [Instr.fill, g1]
    rw [if_neg hno, fold_cells_array off x.cells xs.toArray (by simp; omega), e5]
    exact k1

theorem run_places (hC : C.Ok) (fs : Array Field) (w : World) (hall : ∀ f : Field, f ∈ fs.toList → ∃ i, ty C f.type = some i) :
    ∃ pl : Array (Nat × Nat), (fs.mapM (m := Sem) fun (f : Field) => do pure (f.offset, ← Go.sizeOf f.type)).run C.P w = .ok pl w ∧
      ∀ (k : Nat) (f : Field) (i : Ty), fs[k]? = some f → ty C f.type = some i → pl[k]? = some (f.offset, i.size) := by
  have key : ∀ l : List Field, (∀ f : Field, f ∈ l → ∃ i, ty C f.type = some i) → ∃ pl : List (Nat × Nat), (l.mapM (m := Sem) fun (f : Field) => do pure (f.offset, ← Go.sizeOf f.type)).run C.P w = .ok pl w ∧
      ∀ (k : Nat) (f : Field) (i : Ty), l[k]? = some f → ty C f.type = some i → pl[k]? = some (f.offset, i.size) := by
    intro l
    induction l with
    | nil => intro _; exact ⟨[], by simp, by simp⟩
    | cons f l ih =>
      intro hl
      obtain ⟨i, hi⟩ := hl f (by simp)
      obtain ⟨pl, p1, p2⟩ := ih (fun g hg => hl g (by simp [hg]))
      obtain ⟨_, sp⟩ := hC.spec hi
      refine ⟨(f.offset, i.size) :: pl, by simp only [List.mapM_cons, Sem.run_bind, sp.run_size, Result.andThen_ok, Sem.run_pure, p1], ?_⟩
      intro k g j hk hj
      cases k with
      | zero => simp at hk; subst hk; rw [hi] at hj; cases hj; simp
      | succ k => simp at hk ⊢; exact p2 k g j hk hj
  obtain ⟨pl, p1, p2⟩ := key fs.toList hall
  refine ⟨pl.toArray, ?_, ?_⟩
  · rw [← Array.toArray_toList (xs := fs), List.mapM_toArray]
    simp only [Sem.run_map, p1, Result.andThen_ok]
  · intro k f i hk hi
    simpa using p2 k f i (by simpa using hk) hi

end Go.Ev
