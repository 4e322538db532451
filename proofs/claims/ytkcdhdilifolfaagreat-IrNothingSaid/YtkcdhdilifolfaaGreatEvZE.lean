/- A slice of structs of whole numbers as an argument. -/
import Derived.Test.YtkcdhdilifolfaaGreatEvZC
import Derived.Deep.Slices
namespace Go.Ev
open Go.ChangeShapes Go.WideShapes Go.ChangeAt Go.RowKit Go.WideElems Go.Deep

def intOf : Value → Int
  | .int _ x => x
  | _ => 0
theorem words_of {H : Type} {enc : TypeId × Value → H} {P : Program} {W : World} {sp : Nat → Bool} {k : IntKind} {e : TypeId} {fs : Array Field} (he : P.underlying e = some (.struct fs)) (hc : P.cellsOf e = fs.size)
    (hfs : ∀ (i : Nat) (f : Field), fs[i]? = some f → f.offset = i ∧ P.underlying f.type = some (.int k) ∧ P.cellsOf f.type = 1)
    {n : Nat} {cs : List Value} {x : DataW H × List MemPlace} (h : DataW.trod enc P W 0 sp true n e cs = some x) :
    ∃ is : List Int, is.length = fs.size ∧ cs = is.map (Value.int k) ∧ ∀ y ∈ is, (Lit.int k y).wf = true := by
  obtain ⟨xs, m, _, _, hl, hxl, hf⟩ := DataW.trod_struct he h
  have key : ∀ i, i < cs.length → ∃ y, cs[i]? = some (.int k y) ∧ (Lit.int k y).wf = true := by
    intro i hi
    rw [hl, hc] at hi
    have hfi : fs[i]? = some fs[i] := Array.getElem?_eq_getElem hi
    obtain ⟨o1, o2, o3⟩ := hfs i _ hfi
    have := hf i _ hfi
    rw [o1, o3, List.getElem?_eq_getElem (by omega)] at this
    obtain ⟨y, hy, _, hw⟩ := DataW.trod_int o2 this
    refine ⟨y, ?_, hw⟩
    have : ((cs.drop i).take 1)[0]? = some (.int k y) := by rw [hy]; rfl
    rw [List.getElem?_take, if_pos (by decide), List.getElem?_drop] at this
    exact this
  refine ⟨cs.map intOf, by simp [hl, hc], ?_, ?_⟩
  · apply List.ext_getElem?
    intro i
    by_cases hi : i < cs.length
    · obtain ⟨y, h1, _⟩ := key i hi
      simp [h1, intOf]
    · rw [List.getElem?_eq_none (by omega), List.getElem?_eq_none (by simp; omega)]
  · intro y hy
    obtain ⟨v, hv, rfl⟩ := List.mem_map.1 hy
    obtain ⟨i, hi, rfl⟩ := List.getElem_of_mem hv
    obtain ⟨y, h1, h2⟩ := key i hi
    rw [List.getElem?_eq_getElem hi, Option.some.injEq] at h1
    rw [h1]
    exact h2

theorem open_words {H : Type} {enc : TypeId × Value → H} {P : Program} {W : World} {base : Nat} {t e : TypeId} {K : Nat} {k : IntKind} {v : Value} {d : DataW H} {p : List MemPlace} (ht : P.underlying t = some (.slice e)) (hc : P.cellsOf e = K) (hK : 0 < K)
    (hel : ∀ n cs x, DataW.trod enc P W 0 (fun _ => true) true n e cs = some x → ∃ is : List Int, is.length = K ∧ cs = is.map (Value.int k) ∧ ∀ y ∈ is, (Lit.int k y).wf = true)
    (hv : Value.okWide P W .any base t v) (h : DataW.Trod enc P W 0 (fun _ => true) true t v d p) {ρ : Ren} {hp : Heap} {n : Nat} (A : Arg ρ hp n W) :
    ∃ l : List (List Int), (∀ x ∈ l, x.length = K ∧ ∀ y ∈ x, (Lit.int k y).wf = true) ∧ ∃ ρ' hp' n' u, Arg ρ' hp' n' W ∧ ρ.le ρ' ∧ n ≤ n' ∧ (∀ b, b < n → hp'.get b = hp.get b) ∧ VRel ρ' u v ∧
      ((u = .s (.slice none 0 0) ∧ l = []) ∨ ∃ c, u = .slice n 0 l.length c false ∧ n < n' ∧ hp'.get n = some (.ro (.lst (l.flatten.map fun x => .s (.int k x))) K)) := by
  obtain ⟨fuel, h⟩ := h
  have hcell : v.cells.toList = [v] := by
    cases v <;> simp [Value.okWide, Cell.okWide, Cell.ok, ht] at hv ⊢ <;> rfl
  rcases open_slice ht h with ⟨h1, _⟩ | ⟨a, len, cap, m, n2, D, Pl, h1, _, hl, hm, hmm, _, hx⟩
  · rw [hcell] at h1
    simp at h1
    subst h1
    exact ⟨[], by simp, ρ, hp, n, _, A, Ren.le_refl _, Nat.le_refl _, fun _ _ => rfl, .s _, .inl ⟨rfl, rfl⟩⟩
  · rw [hcell] at h1
    simp at h1
    subst h1
    rw [if_pos rfl] at hmm
    subst hmm
    obtain ⟨_, _, hhas⟩ : len ≤ m ∧ (m : Int) ≤ IntKind.i64.max ∧ W.has P .any base a e m := by
      simpa [Value.okWide, Cell.okWide, Cell.ok, ht] using hv
    obtain ⟨_, hsp, row, cells, hshape, _⟩ := hhas
    obtain ⟨ab, ao, asp⟩ := a
    simp only at hsp hshape
    subst hsp
    have : ∃ arr fz, W.heap[ab]? = some (.cells arr row fz) := by
      unfold World.shape? at hshape
      split at hshape
      · rename_i arr el fz hW
        cases hshape
        exact ⟨_, _, hW⟩
      · cases hshape
    obtain ⟨arr, fz, harr⟩ := this
    have each : ∀ i, i < m → ∃ is : List Int, is.length = K ∧ (∀ y ∈ is, (Lit.int k y).wf = true) ∧ ∀ j, j < K → arr[ao + (i * K + j)]? = (is.map (Value.int k))[j]? := by
      intro i hi
      obtain ⟨cs', c1, c2⟩ := hx i hi
      obtain ⟨is, i1, i2, i3⟩ := hel _ _ _ c2
      refine ⟨is, i1, i3, fun j hj => ?_⟩
      obtain ⟨_, _, g⟩ := World.cells?_some c1
      have := g j (by rw [hc]; exact hj)
      rw [← i2, ← this, hc]
      have ea : (((⟨ab, ao, none⟩ : Addr).add (i * K)).add j) = ⟨ab, ao + (i * K + j), none⟩ := by
        unfold Addr.add
        by_cases h1 : i * K = 0 <;> by_cases h2 : j = 0 <;> simp [h1, h2]
        omega
      rw [ea]
      unfold World.cell?
      simp only [harr, Option.isSome_none]
      rfl
    obtain ⟨f, hf⟩ := choose_lt each
    let l := (List.range len).map f
    have hll : l.length = len := by simp [l]
    have hK' : ∀ x ∈ l, x.length = K ∧ ∀ y ∈ x, (Lit.int k y).wf = true := by
      intro x hx'
      obtain ⟨i, hi, rfl⟩ := List.mem_map.1 hx'
      have := hf i (by have := List.mem_range.1 hi; omega)
      exact ⟨this.1, this.2.1⟩
    have hfl : ∀ N, N ≤ len → (((List.range N).map f).flatten).length = N * K := by
      intro N
      induction N with
      | zero => intro _; simp
      | succ N ih =>
        intro hN
        rw [List.range_succ, List.map_append, List.flatten_append, List.length_append, ih (by omega)]
        simp [(hf N (by omega)).1, Nat.add_mul]
    have hget : ∀ N, N ≤ len → ∀ q, q < N * K → arr[ao + q]? = ((((List.range N).map f).flatten).map (Value.int k))[q]? := by
      intro N
      induction N with
      | zero => intro _ q hq; simp at hq
      | succ N ih =>
        intro hN q hq
        rw [List.range_succ, List.map_append, List.flatten_append, List.map_append]
        have hlN := hfl N (by omega)
        by_cases hq' : q < N * K
        · rw [List.getElem?_append_left (by rw [List.length_map, hlN]; exact hq')]
          exact ih (by omega) q hq'
        · rw [List.getElem?_append_right (by rw [List.length_map, hlN]; omega), List.length_map, hlN]
          rw [Nat.add_mul] at hq
          have := (hf N (by omega)).2.2 (q - N * K) (by omega)
          rw [show N * K + (q - N * K) = q by omega] at this
          rw [this]
          simp
    have hsz : len * K = 0 ∨ ao + len * K ≤ arr.toList.length := by
      by_cases h0 : len * K = 0
      · exact .inl h0
      · right
        have := hget len (Nat.le_refl _) (len * K - 1) (by omega)
        rw [List.getElem?_eq_getElem (by rw [List.length_map, hfl len (Nat.le_refl _)]; omega)] at this
        have := (Array.getElem?_eq_some_iff.1 this).1
        simp; omega
    have hmid : (arr.toList.drop ao).take (len * K) = l.flatten.map (Value.int k) := by
      apply List.ext_getElem?
      intro i
      rw [List.getElem?_take, List.getElem?_drop]
      by_cases hi : i < len * K
      · rw [if_pos hi, Array.getElem?_toList]
        exact hget len (Nat.le_refl _) i hi
      · rw [if_neg hi, List.getElem?_eq_none]
        rw [List.length_map]
        have := hfl len (Nat.le_refl _)
        show (l.flatten).length ≤ i
        simp only [l]; omega
    by_cases h0 : len * K = 0
    · have hlen : len = 0 := by
        rcases Nat.mul_eq_zero.1 h0 with h | h
        · exact h
        · omega
      subst hlen
      by_cases hm0 : m = 0
      · subst hm0
        exact ⟨[], by simp, ρ.put n (ab, 0, 0), hp.set n (.ro (.lst []) K), n + 1, .slice n 0 0 0 false, A.add harr [] [] arr.toList (by simp) rfl .nil (by simp), Ren.le_put (A.fr n (Nat.le_refl _)), by omega, fun b hb => by rw [Tree.get_set, if_neg (by omega)],
          VRel.slice (sh := 0) (ex := 0) (op := false) (cap := 0) (by simp [Ren.put]) (Nat.le_refl _) (fun h => absurd rfl h), .inr ⟨0, rfl, by omega, by rw [Tree.get_set, if_pos rfl]; rfl⟩⟩
      · have hao : ao ≤ arr.toList.length := by
          have := (hf 0 (by omega)).2.2 0 (by omega)
          rw [List.getElem?_eq_getElem (by rw [List.length_map, (hf 0 (by omega)).1]; omega)] at this
          have := (Array.getElem?_eq_some_iff.1 this).1
          simp; omega
        refine ⟨[], by simp, ρ.put n (ab, ao, 0), hp.set n (.ro (.lst []) K), n + 1, .slice n 0 0 m false, A.add harr (arr.toList.take ao) [] (arr.toList.drop ao) (by simp) (by simp at hao ⊢; omega) .nil (by simp), Ren.le_put (A.fr n (Nat.le_refl _)), by omega, fun b hb => by rw [Tree.get_set, if_neg (by omega)],
          VRel.slice (sh := ao) (ex := 0) (op := false) (cap := m) (by simp [Ren.put]) (by omega) (fun h => by omega), .inr ⟨m, rfl, by omega, by rw [Tree.get_set, if_pos rfl]; rfl⟩⟩
    · have hsz' : ao + len * K ≤ arr.toList.length := by rcases hsz with h | h; exact absurd h h0; exact h
      refine ⟨l, hK', ρ.put n (ab, ao, 0), hp.set n (.ro (.lst (l.flatten.map fun x => .s (.int k x))) K), n + 1, .slice n 0 len m false,
        A.add harr (arr.toList.take ao) (l.flatten.map (Value.int k)) (arr.toList.drop (ao + len * K)) ?_ (by simp at hsz' ⊢; omega) (VRels_s _ _) ?_, Ren.le_put (A.fr n (Nat.le_refl _)), by omega, ?_, ?_, .inr ⟨m, by rw [hll], by omega, by rw [Tree.get_set, if_pos rfl]⟩⟩
      · rw [← hmid, List.append_assoc, ← List.drop_drop, List.take_append_drop, List.take_append_drop]
      · intro x hx'
        obtain ⟨y, _, rfl⟩ := List.mem_map.1 hx'
        rfl
      · intro b hb
        rw [Tree.get_set, if_neg (by omega)]
      · exact VRel.slice (sh := ao) (ex := 0) (op := false) (cap := m) (by simp [Ren.put]) hl (fun h => by omega)
end Go.Ev
