/- From a call over abstract states to a law's row: arguments opened, answers shut. -/
import Derived.Test.YtkcdhdilifolfaaGreatEvZB
import Derived.Test.YtkcdhdilifolfaaGreatEvKC
import Derived.Carry
namespace Go.Ev
open Go.ChangeShapes Go.WideShapes Go.ChangeAt Go.RowKit Go.WideElems

def Ros (h : Heap) : Prop := ∀ b o, h.get b = some o → o.own = false

theorem Evo.belowRo {ρ ρ' : Ren} {h h' : Heap} {n n' : Nat} {w w' : World} (hr : Ros h) (e : Evo ρ h n w ρ' h' n' w') : Below w.heap.size w w' :=
  ⟨e.side.os, e.side.tape, e.side.output, e.size, fun k hk => e.frame k hk fun b o x h ho => by rw [hr b o h] at ho; cases ho⟩

/-- What a call over an abstract state says of the program, where its memory is read alone. -/
theorem callsBelow {C : Ctx} {f : FuncId} {vs : List V} {xs : List Value} {ρ : Ren} {h : Heap} {n : Nat} {w : World} {r : Value} (hk : CallK C f vs h n fun v _ _ => v = .s r)
    (h1 : VRels ρ vs xs) (h2 : HRel ρ h w) (h3 : Fr ρ n) (h4 : GRel C ρ) (h5 : Ros h) : Calls C.P f xs.toArray w fun e w' => e = .returned r ∧ Below w.heap.size w w' := by
  obtain ⟨_, k⟩ := hk.run ρ w xs h1 h2 h3 h4
  refine (callsIn_wide.1 (k 0)).mono ?_
  rintro e w' ⟨v, h', n', rfl, ρ', y, rfl, ev, hy⟩
  cases hy
  exact ⟨rfl, ev.belowRo h5⟩

/-- Below what was there nothing has turned: memory stands to the world as it did. -/
theorem HRel.below {ρ : Ren} {h : Heap} {w w' : World} (H : HRel ρ h w) (hb : Below w.heap.size w w') : HRel ρ h w' := by
  refine ⟨fun b o hg => ?_, H.inj⟩
  obtain ⟨c, sh, ex, x, q1, q2, q3⟩ := H.obj b o hg
  exact ⟨c, sh, ex, x, q1, by rw [hb.block c (Array.getElem?_eq_some_iff.1 q2).1]; exact q2, q3⟩
theorem Evo.ofBelow {ρ : Ren} {h : Heap} {n : Nat} {w w' : World} (H : HRel ρ h w) (hb : Below w.heap.size w w') : Evo ρ h n w ρ h n w' :=
  ⟨Ren.le_refl ρ, fun b x h1 h2 => (by rw [h1] at h2; cases h2), Nat.le_refl _, H.below hb, hb.size, fun c hc _ => hb.block c hc, fun b o x h1 ho h2 => .inl ⟨b, o, x, h1, ho, h2, rfl⟩, fun _ _ h _ => h, ⟨hb.tape, hb.os, hb.output⟩⟩

/-- A closed call, in whatever memory. -/
theorem closedK {P : Program} (hf : typesOk (Ctx.of P 0) = true) (hn : namesOk P = true) (hmix : P.follows .mixedOrders = true) {f : FuncId}
    (ha : saysTrue (answers (Ctx.of P 0) f) = true) (h : Heap) (n : Nat) : CallK (Ctx.of P 0) f [] h n fun v h' n' => v = .s (.bool true) ∧ h' = h ∧ n' = n := by
  refine ⟨?_⟩
  intro ρ w xs h1 h2 h3 h4
  cases h1
  have hC := Ctx.of_ok P 0 hf hn
  cases hA : answers (Ctx.of P 0) f with
  | none => rw [hA] at ha; simp [saysTrue] at ha
  | some r =>
    obtain ⟨v, m⟩ := r
    rw [hA] at ha
    unfold answers at hA
    replace hA := of_bind hA
    obtain ⟨r, hr, hA⟩ := hA
    have hs := (sound hC hmix 1000000000).call f [] .leaf 0 r hr
    have hρ : Fr (fun _ => none) 0 := fun _ _ => rfl
    obtain ⟨k1, k2⟩ := hs (fun _ => none) w [] .nil (HRel.leaf _ w) hρ (fun g hg => by simp [Ctx.of] at hg)
    refine ⟨k1, fun N => (k2 N).mono ?_⟩
    rintro e w' ⟨ρ', y, rfl, ev, hy⟩
    have e1 : r.1 = v := by simpa using congrArg (Option.map (·.1)) hA
    have hb := ev.below
    rw [e1] at hy
    unfold saysTrue at ha
    split at ha
    · rename_i e
      cases e
      subst ha
      cases hy
      exact ⟨_, h, n, ⟨rfl, rfl, rfl⟩, ρ, _, rfl, Evo.ofBelow h2 hb, .s _⟩
    · cases ha

/-! ### Arguments -/
def Ren.put (ρ : Ren) (n : Nat) (x : Nat × Nat × Nat) : Ren := fun b => if b = n then some x else ρ b
theorem Ren.le_put {ρ : Ren} {n : Nat} {x : Nat × Nat × Nat} (hf : ρ n = none) : ρ.le (ρ.put n x) := by
  intro b y hb
  unfold Ren.put
  split
  · rename_i e; rw [e, hf] at hb; cases hb
  · exact hb

/-- An abstract memory that is read alone, of a world. -/
structure Arg (ρ : Ren) (h : Heap) (n : Nat) (w : World) : Prop where
  rel : HRel ρ h w
  fr : Fr ρ n
  ros : Ros h
theorem Arg.nil (w : World) : Arg (fun _ => none) .leaf 0 w := ⟨HRel.leaf _ w, fun _ _ => rfl, fun b o h => by simp [Tree.get] at h⟩
theorem Arg.lt {ρ : Ren} {h : Heap} {n : Nat} {w : World} (A : Arg ρ h n w) {b : Nat} {o : O} (hb : h.get b = some o) : b < n := by
  obtain ⟨c, sh, ex, x, q1, _⟩ := A.rel.obj b o hb
  apply Nat.lt_of_not_le
  intro hle
  rw [A.fr b hle] at q1
  cases q1

theorem Arg.add {ρ : Ren} {h : Heap} {n : Nat} {w : World} (A : Arg ρ h n w) {c sh : Nat} {vs : List V} {es : Nat} {arr : Array Value} {t : TypeId} {fz : Nat × Nat} (hc : w.heap[c]? = some (.cells arr t fz))
    (pre mid post : List Value) (ha : arr.toList = pre ++ mid ++ post) (hp : pre.length = sh) (hm : VRels ρ vs mid) (ho : ∀ x ∈ mid, x.oneCell' = true) :
    Arg (ρ.put n (c, sh, 0)) (h.set n (.ro (.lst vs) es)) (n + 1) w := by
  have hle : ρ.le (ρ.put n (c, sh, 0)) := Ren.le_put (A.fr n (Nat.le_refl _))
  refine ⟨⟨?_, ?_⟩, ?_, ?_⟩
  · intro b o hb
    rw [Tree.get_set] at hb
    split at hb
    · rename_i e
      subst e
      cases hb
      exact ⟨c, sh, 0, _, by simp [Ren.put], hc, .ro trivial pre mid post ha hp (VRels.mono hle hm) ho⟩
    · obtain ⟨c, sh, ex, x, q1, q2, q3⟩ := A.rel.obj b o hb
      exact ⟨c, sh, ex, x, hle _ _ q1, q2, q3.mono hle⟩
  · intro b b' o o' x x' hb hb' ho
    rw [Tree.get_set] at hb
    split at hb
    · cases hb; cases ho
    · rw [A.ros b o hb] at ho; cases ho
  · intro b hb
    have : ¬ b = n := by omega
    simp only [Ren.put, if_neg this]
    exact A.fr b (by omega)
  · intro b o hb
    rw [Tree.get_set] at hb
    split at hb
    · cases hb; rfl
    · exact A.ros b o hb

theorem VRels_s {ρ : Ren} {α : Type} (f : α → Value) : ∀ l : List α, VRels ρ (l.map fun x => .s (f x)) (l.map f)
  | [] => .nil
  | _ :: l => .cons (.s _) (VRels_s f l)

/-- A slice of whole numbers that came in. -/
theorem open_nums {H : Type} {enc : TypeId × Value → H} {P : Program} {W : World} {base : Nat} {t e : TypeId} {k : IntKind} {v : Value} {d : DataW H} {p : List MemPlace} (ht : P.underlying t = some (.slice e)) (he : P.underlying e = some (.int k)) (hc : P.cellsOf e = 1)
    (hv : Value.okWide P W .any base t v) (h : DataW.Trod enc P W 0 (fun _ => true) true t v d p) {ρ : Ren} {hp : Heap} {n : Nat} (A : Arg ρ hp n W) :
    ∃ l : List Int, (∀ x ∈ l, (Lit.int k x).wf = true) ∧ ∃ ρ' hp' n' u, Arg ρ' hp' n' W ∧ ρ.le ρ' ∧ n ≤ n' ∧ (∀ b, b < n → hp'.get b = hp.get b) ∧ VRel ρ' u v ∧
      ((u = .s (.slice none 0 0) ∧ l = []) ∨ ∃ c, u = .slice n 0 l.length c false ∧ n < n' ∧ hp'.get n = some (.ro (.lst (l.map fun x => .s (.int k x))) 1)) := by
  obtain ⟨fuel, h⟩ := h
  have hcell : v.cells.toList = [v] := by
    cases v <;> simp [Value.okWide, Cell.okWide, Cell.ok, ht] at hv ⊢ <;> rfl
  rcases open_ints ht he hc h with ⟨h1, _⟩ | ⟨a, len, cap, zs, h1, _, hl, hm, hz, _, hcs, hwf⟩
  · rw [hcell] at h1
    simp at h1
    subst h1
    exact ⟨[], by simp, ρ, hp, n, _, A, Ren.le_refl _, Nat.le_refl _, fun _ _ => rfl, .s _, .inl ⟨rfl, rfl⟩⟩
  · rw [hcell] at h1
    simp at h1
    subst h1
    simp only [if_true] at hz
    obtain ⟨_, _, hhas⟩ : len ≤ cap ∧ (cap : Int) ≤ IntKind.i64.max ∧ W.has P .any base a e cap := by
      simpa [Value.okWide, Cell.okWide, Cell.ok, ht] using hv
    obtain ⟨_, hsp, row, cells, hshape, _⟩ := hhas
    obtain ⟨ab, ao, asp⟩ := a
    simp only at hsp hshape
    subst hsp
    have : ∃ arr fz, W.heap[ab]? = some (.cells arr row fz) := by
      unfold World.shape? at hshape
      split at hshape
      · rename_i arr el fz hW
        cases hshape
        exact ⟨_, _, hW⟩
      · cases hshape
    obtain ⟨arr, fz, harr⟩ := this
    have hcell' : ∀ i, i < zs.length → arr[ao + i]? = some (.int k (zs.getD i 0)) := by
      intro i hi
      have := hcs i hi
      unfold World.cell? Addr.add at this
      split at this
      · rename_i arr' _ _ hW
        split at hW <;> simp_all
      · cases this
    by_cases hz0 : cap = 0
    · have hl0 : len = 0 := by omega
      subst hl0
      subst hz0
      refine ⟨[], by simp, ρ.put n (ab, 0, 0), hp.set n (.ro (.lst []) 1), n + 1, .slice n 0 0 0 false, A.add harr [] [] arr.toList (by simp) rfl .nil (by simp), Ren.le_put (A.fr n (Nat.le_refl _)), by omega, ?_, ?_, .inr ⟨0, rfl, by omega, by rw [Tree.get_set, if_pos rfl]; rfl⟩⟩
      · intro b hb
        rw [Tree.get_set, if_neg (by omega)]
      · exact VRel.slice (sh := 0) (ex := 0) (op := false) (cap := 0) (by simp [Ren.put]) (Nat.le_refl _) (fun h => absurd rfl h)
    · have hsz : ao + zs.length ≤ arr.toList.length := by
        have := hcell' (zs.length - 1) (by omega)
        have := (Array.getElem?_eq_some_iff.1 this).1
        simp; omega
      have hmid : (arr.toList.drop ao).take len = (zs.take len).map (Value.int k) := by
        apply List.ext_getElem?
        intro i
        rw [List.getElem?_take, List.getElem?_drop, List.getElem?_map, List.getElem?_take]
        by_cases hi : i < len
        · rw [if_pos hi, if_pos hi]
          have := hcell' i (by omega)
          rw [Array.getElem?_toList, this]
          rw [List.getD_eq_getElem?_getD]
          have : zs[i]? = some zs[i] := List.getElem?_eq_getElem (by omega)
          simp [this]
        · rw [if_neg hi, if_neg hi]; rfl
      refine ⟨zs.take len, fun x hx => hwf x (List.mem_of_mem_take hx), ρ.put n (ab, ao, 0), hp.set n (.ro (.lst ((zs.take len).map fun x => .s (.int k x))) 1), n + 1, .slice n 0 len cap false,
        A.add harr (arr.toList.take ao) ((zs.take len).map (Value.int k)) (arr.toList.drop (ao + len)) ?_ (by simp at hsz ⊢; omega) (VRels_s _ _) ?_, Ren.le_put (A.fr n (Nat.le_refl _)), by omega, ?_, ?_, .inr ⟨cap, ?_, by omega, by rw [Tree.get_set, if_pos rfl]⟩⟩
      · rw [← hmid, List.append_assoc, ← List.drop_drop]
        rw [List.take_append_drop, List.take_append_drop]
      · intro x hx
        obtain ⟨y, _, rfl⟩ := List.mem_map.1 hx
        rfl
      · intro b hb
        rw [Tree.get_set, if_neg (by omega)]
      · exact VRel.slice (sh := ao) (ex := 0) (op := false) (cap := cap) (by simp [Ren.put]) hl (fun h => by omega)
      · congr 1
        simp; omega

/-! ### The row -/
theorem trodAll_below {H : Type} {enc : TypeId × Value → H} {P : Program} (hl : laidOutB P = true) {W W' : World} (hb : Below W.heap.size W W') :
    ∀ {ts : List TypeId} {vs : List Value} {ds : List (DataW H)} {ps : List MemPlace}, (∀ t ∈ ts, P.readableRec t = true ∧ t < P.types.size) → (∀ x ∈ ps, x.block < W.heap.size) →
      DataW.TrodAll enc P W 0 (fun _ => true) true ts vs ds ps → DataW.TrodAll enc P W' 0 (fun b => decide (b < W.heap.size)) true ts vs ds ps
  | [], [], [], _, _, _, h => h
  | [], _ :: _, _, _, _, _, h => h.elim
  | [], [], _ :: _, _, _, _, h => h.elim
  | _ :: _, [], _, _, _, _, h => h.elim
  | _ :: _, _ :: _, [], _, _, _, h => h.elim
  | t :: ts, v :: vs, d :: ds, ps, hr, hlt, h => by
    obtain ⟨p, q, h1, h2, rfl⟩ := h
    have ht := hr t (by simp)
    exact ⟨p, q, Below.trod hl ht.1 ht.2 h1 hb (fun x hx => hlt x (by simp [hx])), trodAll_below hl hb (fun t h => hr t (by simp [h])) (fun x hx => hlt x (by simp [hx])) h2, rfl⟩

/-- Of a law that answers true and leaves what was there: all that its row asks behind the call. -/
theorem post_true {H : Type} {enc : TypeId × Value → H} {P : Program} {f : Func} {s : ChangeSpec} {apart fresh handsOn : Bool} {W W' : World} {args : Array Value} {ds : List (DataW H)} {ps : List MemPlace} {tb : TypeId}
    (hl : laidOutB P = true) (hr : ∀ t ∈ f.params.toList, P.readableRec t = true ∧ t < P.types.size) (hv : s.vars = []) (hb : P.underlying tb = some .bool) (ht : f.resultTypes = #[tb])
    (hW : DataW.Whole enc P f.params.toList s.vars apart W args.toList ds [] ps) (hA : DataW.TrodAll enc P W 0 (fun _ => true) true f.params.toList args.toList ds ps)
    (hf : s.fn H (ds ++ []) = { results := [.lit (.bool true)], args := ds }) (hk : Below W.heap.size W W') : s.post enc P f apart fresh handsOn false W args (.bool true) W' := by
  refine ⟨ds, [], ps, [], ps, [], hW, ?_, ?_, ?_, hk.frame _, fun h => by cases h⟩
  · rw [hf, ht]
    exact (trodAll_cons_mk (shut_bool hb _) trodAll_mk0)
  · rw [hf]
    exact trodAll_below hl hk hr (fun x hx => hW.lt x hx) hA
  · rw [hf, hv]
    rfl
/-- A number as an argument. -/
theorem open_int {P : Program} {W : World} {base : Nat} {t : TypeId} {k : IntKind} {v : Value} (ht : P.underlying t = some (.int k)) (hv : Value.okWide P W .any base t v) : ∃ x, v = .int k x ∧ k.min ≤ x ∧ x ≤ k.max := by
  cases v <;> simp [Value.okWide, Cell.okWide, Cell.ok, ht] at hv
  obtain ⟨rfl, h⟩ := hv
  exact ⟨_, rfl, h.1, h.2⟩
end Go.Ev
