/- Types, loads and stores, as the model does them. -/
import Derived.Test.YtkcdhdilifolfaaGreatEvD
namespace Go.Ev

structure Ctx.Ok (C : Ctx) : Prop where
  ty : ∀ t i, Ev.ty C t = some i → tyOf C.P t = some i
  fn : ∀ f fn, C.F.get f = some fn → C.P.funcs[f]? = some fn
  ext : ∀ f, C.X.get f = some true → ∃ fn, C.P.funcs[f]? = some fn ∧ isCompare fn = true
  names : ∀ f fn, C.F.get f = some fn → (fn.name == "runtime.NumGoroutine") = false
  fields : ∀ t i fs, Ev.ty C t = some i → i.desc = .struct fs → ∀ f : Field, f ∈ fs.toList → ∃ j, Ev.ty C f.type = some j

/-- The fields' types are there. -/
def fieldsThere (C : Ctx) : Option Ty → Bool
  | some i => match i.desc with
    | .struct fs => fs.toList.all fun f => (Ev.ty C f.type).isSome
    | _ => true
  | none => true
def typesOk (C : Ctx) : Bool := (List.range C.P.types.size).all fun t => fieldsThere C (Ev.ty C t)

/-- No function is named as the model's own. -/
def namesOk (P : Program) : Bool := P.funcs.toList.all fun fn => !(fn.name == "runtime.NumGoroutine")

theorem Ctx.of_ok (P : Program) (ng : Nat) (hf : typesOk (Ctx.of P ng) = true) (hn : namesOk P = true) : (Ctx.of P ng).Ok := by
  refine ⟨?_, ?_, ?_, ?_, ?_⟩
  · intro t i h
    simp only [Ev.ty, Ctx.of] at h
    rw [Tree.get_ofList] at h
    obtain ⟨x, h1, h2⟩ := of_bind h
    simp only [id] at h2
    subst h2
    simp only [List.getElem?_map, Option.map_eq_some_iff] at h1
    obtain ⟨k, h3, h4⟩ := h1
    obtain ⟨h5, h6⟩ := List.getElem?_eq_some_iff.1 h3
    simp at h6
    subst h6
    exact h4
  · intro f fn h
    simp only [Ctx.of] at h
    rw [Tree.get_ofList] at h
    rw [Array.getElem?_toList] at h
    exact h
  · intro f h
    simp only [Ctx.of] at h
    rw [Tree.get_ofList] at h
    simp only [List.getElem?_map, Option.map_eq_some_iff] at h
    obtain ⟨fn, h1, h2⟩ := h
    exact ⟨fn, by rw [← Array.getElem?_toList]; exact h1, h2⟩
  · intro f fn h
    simp only [Ctx.of] at h
    rw [Tree.get_ofList] at h
    have := List.all_eq_true.1 hn fn (List.mem_of_getElem? h)
    simpa using this
  · intro t i fs h hd f hm
    have hlt : t < P.types.size := by
      simp only [Ev.ty, Ctx.of] at h
      rw [Tree.get_ofList] at h
      obtain ⟨x, h1, h2⟩ := of_bind h
      have := (List.getElem?_eq_some_iff.1 h1).1
      simpa using this
    have h1 := List.all_eq_true.1 hf t (by simpa [Ctx.of] using hlt)
    rw [h] at h1
    simp only [fieldsThere, hd, List.all_eq_true] at h1
    exact Option.isSome_iff_exists.1 (h1 f hm)

/-- What the package-level variables' blocks are called. -/
def GRel (C : Ctx) (ρ : Ren) : Prop := ∀ g, g < C.ng → ρ g = some (g, 0, 0)
theorem GRel.mono {C : Ctx} {ρ ρ' : Ren} (h : GRel C ρ) (hle : ρ.le ρ') : GRel C ρ' := fun g hg => hle _ _ (h g hg)

theorem pure?_run {α : Type} {P : Program} : ∀ {s : Sem α} {a : α}, pure? P s = some a → ∀ w, s.run P w = .ok a w
  | .pure _, _, h, w => by simp [pure?] at h; subst h; rfl
  | .program k, a, h, w => by simp only [pure?] at h; exact pure?_run h w
  | .mark _ k, a, h, w => by simp only [pure?] at h; exact pure?_run h w
  | .load .., _, h, _ => by simp [pure?] at h
  | .store .., _, h, _ => by simp [pure?] at h
  | .new .., _, h, _ => by simp [pure?] at h
  | .shape .., _, h, _ => by simp [pure?] at h
  | .freeze .., _, h, _ => by simp [pure?] at h
  | .frozen .., _, h, _ => by simp [pure?] at h
  | .getObj .., _, h, _ => by simp [pure?] at h
  | .setObj .., _, h, _ => by simp [pure?] at h
  | .choose .., _, h, _ => by simp [pure?] at h
  | .sys .., _, h, _ => by simp [pure?] at h
  | .halt _, _, h, _ => by simp [pure?] at h

section
variable {C : Ctx}

structure TySpec (C : Ctx) (t : TypeId) (i : Ty) (x : TypeInfo) : Prop where
  info : C.P.info? t = some x
  und : C.P.underlying t = some i.desc
  agg : i.agg = descAgg i.desc
  size : i.size = x.size
  bytes : i.bytes = x.bytes
  comparable : i.comparable = x.comparable
  methods : i.methods = x.methods.toList
  zero : i.zero = x.zero.bind ofValue
  guard : i.guard = C.P.eqGuardType C.P.depth t
  stood : i.stood = C.P.stoodInHeld t

theorem Ctx.Ok.spec (hC : C.Ok) {t : TypeId} {i : Ty} (h : Ev.ty C t = some i) : ∃ x, TySpec C t i x := by
  have h := hC.ty t i h
  unfold tyOf at h
  obtain ⟨x, h1, h⟩ := of_bind h
  obtain ⟨d, h2, h⟩ := of_bind h
  cases h
  exact ⟨x, h1, h2, rfl, rfl, rfl, rfl, rfl, rfl, rfl, rfl⟩

variable {t : TypeId} {i : Ty} {x : TypeInfo}
theorem TySpec.run_und (h : TySpec C t i x) (w : World) : (underlying t).run C.P w = .ok i.desc w := by
  simp [underlying, h.und]
theorem TySpec.run_info (h : TySpec C t i x) (w : World) : (typeInfo t).run C.P w = .ok x w := by
  simp [typeInfo, h.info]
theorem TySpec.run_size (h : TySpec C t i x) (w : World) : (sizeOf t).run C.P w = .ok i.size w := by
  simp [sizeOf, h.run_info, h.size]
theorem TySpec.run_isAgg (h : TySpec C t i x) (w : World) : (isAgg t).run C.P w = .ok i.agg w := by
  simp only [isAgg, Sem.run_bind, h.run_und, Result.andThen_ok, h.agg]
  cases i.desc <;> rfl

theorem ofCell_rel {x : Value} {v : V} (h : ofCell x = some v) : v = .s x ∧ x.oneCell' = true := by
  unfold ofCell at h
  cases hs : isScalar x <;> simp [hs] at h
  refine ⟨h.symm, ?_⟩
  cases x <;> simp [isScalar, Value.oneCell'] at hs ⊢
theorem ofCells_rel (ρ : Ren) : ∀ {l : List Value} {vs : List V}, ofCells l = some vs → VRels ρ vs l ∧ ∀ x ∈ l, x.oneCell' = true
  | [], vs, h => by simp [ofCells] at h; subst h; exact ⟨.nil, by simp⟩
  | x :: l, vs, h => by
    simp only [ofCells] at h
    obtain ⟨v, h1, h⟩ := of_bind h
    obtain ⟨us, h2, h⟩ := of_bind h
    cases h
    obtain ⟨e, hc⟩ := ofCell_rel h1
    obtain ⟨a, b⟩ := ofCells_rel ρ h2
    subst e
    exact ⟨.cons (.s _) a, by simpa using ⟨hc, b⟩⟩
theorem ofValue_rel (ρ : Ren) {x : Value} {v : V} (h : ofValue x = some v) : VRel ρ v x ∧ (∀ y, v = .s (.agg y) → False) := by
  have key : ∀ y : Value, ofCell y = some v → VRel ρ v y ∧ (∀ y, v = .s (.agg y) → False) := by
    intro y hy
    obtain ⟨e, hc⟩ := ofCell_rel hy
    subst e
    refine ⟨.s _, fun z hz => ?_⟩
    cases hz
    simp [Value.oneCell'] at hc
  cases x with
  | agg cs =>
    simp only [ofValue] at h
    obtain ⟨vs, h1, h⟩ := of_bind h
    cases h
    obtain ⟨a, b⟩ := ofCells_rel ρ h1
    obtain ⟨o1, o2, o3⟩ := Rope.ofList_ok vs
    refine ⟨?_, fun y hy => by cases hy⟩
    have := VRel.agg (ρ := ρ) o1 (xs := cs.toList) (by rw [o2]; exact a) b
    simpa using this
  | _ => exact key _ h

theorem TySpec.run_zeros (h : TySpec C t i x) {z : V} (hz : i.zero = some z) (ρ : Ren) :
    ∃ y, (∀ w, (zeroValue t).run C.P w = .ok y w) ∧ VRel ρ z y := by
  rw [h.zero] at hz
  obtain ⟨y, h1, h2⟩ := of_bind hz
  obtain ⟨a, b⟩ := ofValue_rel ρ h2
  exact ⟨y, fun w => by simp [zeroValue, h.run_info, h1], a⟩
theorem TySpec.run_zero (h : TySpec C t i x) {z : V} (hz : i.zero = some z) (ρ : Ren) (w : World) :
    ∃ y, (zeroValue t).run C.P w = .ok y w ∧ VRel ρ z y ∧ (∀ y, z = .s (.agg y) → False) := by
  rw [h.zero] at hz
  obtain ⟨y, h1, h2⟩ := of_bind hz
  obtain ⟨a, b⟩ := ofValue_rel ρ h2
  exact ⟨y, by simp [zeroValue, h.run_info, h1], a, b⟩

/-! ### A part of an aggregate -/
theorem part_run (hC : C.Ok) (hi : Ev.ty C t = some i) {ρ : Ren} {r : Rope V} {off : Nat} {v : V} (h : part i r off = some v) (hok : r.Ok) {xs : List Value}
    (hr : VRels ρ r.toList xs) (hc : ∀ y ∈ xs, y.oneCell' = true) (w : World) :
    ∃ y, (Go.part t xs.toArray off).run C.P w = .ok y w ∧ VRel ρ v y ∧ (∀ z, v = .s (.agg z) → False) := by
  obtain ⟨x, sp⟩ := hC.spec hi
  have hlen := hr.length
  have hsz := Rope.size_eq hok
  unfold part at h
  cases ha : i.agg with
  | true =>
    rw [ha] at h
    simp only [cond_true] at h
    obtain ⟨h1, h2⟩ := of_cond_some h
    cases h2
    rw [ble_true_iff] at h1
    obtain ⟨e1, e2⟩ := Rope.ext_ok off i.size hok h1
    refine ⟨.agg ((xs.drop off).take i.size).toArray, ?_, ?_, fun z hz => by cases hz⟩
    · simp [Go.part, sp.run_isAgg, sp.run_size, ha, List.extract_eq_take_drop]
    · refine .agg e1 ?_ ?_
      · rw [e2]; exact (hr.drop off).take i.size
      · intro y hy; exact hc y (List.mem_of_mem_drop (List.mem_of_mem_take hy))
  | false =>
    rw [ha] at h
    simp only [cond_false] at h
    rw [Rope.get_eq off hok] at h
    obtain ⟨y, h1, h2⟩ := hr.get h
    refine ⟨y, ?_, h2, ?_⟩
    · simp [Go.part, sp.run_isAgg, ha, h1]
    · intro z hz
      subst hz
      have := hc y (List.mem_of_getElem? h1)
      cases h2
      simp [Value.oneCell'] at this

/-! ### Rows of cells -/
theorem HRel.cells {ρ : Ren} {h : Heap} {w : World} (H : HRel ρ h w) {b : Nat} {q : Rope V × Nat} {c sh ex : Nat} (hb : cellsOwn h b = some q) (hr : ρ b = some (c, sh, ex)) :
    h.get b = some (.cells q.1 q.2) ∧ ∃ arr t fz pre mid post, w.heap[c]? = some (.cells arr t fz) ∧ q.1.Ok ∧ arr.toList = pre ++ mid ++ post ∧ pre.length = sh ∧ VRels ρ q.1.toList mid ∧
      (∀ x ∈ mid, x.oneCell' = true) ∧ ex * q.2 ≤ post.length ∧ (∀ i, i < arr.size → ¬ (fz.1 ≤ i ∧ i < fz.2)) := by
  unfold cellsOwn at hb
  cases hg : h.get b with
  | none => simp [hg] at hb
  | some o =>
    rw [hg] at hb
    cases o <;> simp at hb
    subst hb
    obtain ⟨x, h1, h2⟩ := H.at hg hr
    cases h2 with
    | cells hok pre mid post ha hp hm hc hx hz => exact ⟨rfl, _, _, _, pre, mid, post, h1, hok, ha, hp, hm, hc, hx, hz⟩
/-- To be read. -/
theorem HRel.rcells {ρ : Ren} {h : Heap} {w : World} (H : HRel ρ h w) {b : Nat} {q : Rope V × Nat} {c sh ex : Nat} (hb : cellsAt h b = some q) (hr : ρ b = some (c, sh, ex)) :
    ∃ arr t fz pre mid post, w.heap[c]? = some (.cells arr t fz) ∧ q.1.Ok ∧ arr.toList = pre ++ mid ++ post ∧ pre.length = sh ∧ VRels ρ q.1.toList mid ∧
      (∀ x ∈ mid, x.oneCell' = true) := by
  unfold cellsAt at hb
  cases hg : h.get b with
  | none => simp [hg] at hb
  | some o =>
    rw [hg] at hb
    cases o <;> simp at hb
    all_goals
      subst hb
      obtain ⟨x, h1, h2⟩ := H.at hg hr
    · cases h2 with
      | cells hok pre mid post ha hp hm hc hx hz => exact ⟨_, _, _, pre, mid, post, h1, hok, ha, hp, hm, hc⟩
    · cases h2 with
      | ro hok pre mid post ha hp hm hc => exact ⟨_, _, _, pre, mid, post, h1, hok, ha, hp, hm, hc⟩

theorem cell_of_row {w : World} {c : Nat} {arr : Array Value} {t : TypeId} {fz : Nat × Nat} {pre mid post : List Value} (h : w.heap[c]? = some (.cells arr t fz))
    (ha : arr.toList = pre ++ mid ++ post) {off : Nat} {y : Value} (hy : mid[off]? = some y) : w.cell? ⟨c, off + pre.length, none⟩ = some y := by
  have h2 := (List.getElem?_eq_some_iff.1 hy).1
  simp only [World.cell?, h, Option.isSome_none, Bool.false_eq_true, if_false]
  rw [← Array.getElem?_toList, ha, List.append_assoc, List.getElem?_append_right (by omega), List.getElem?_append_left (by omega)]
  rw [← hy]; congr 1; omega

theorem load_run (hC : C.Ok) {ρ : Ren} {h : Heap} {w : World} (H : HRel ρ h w) {b off : Nat} {v : V} (hl : load C h t b off = some v) {c sh ex : Nat} (hr : ρ b = some (c, sh, ex)) :
    ∃ y, (loadVar t ⟨c, off + sh, none⟩).run C.P w = .ok y w ∧ VRel ρ v y ∧ (∀ z, v = .s (.agg z) → False) := by
  unfold load at hl
  obtain ⟨i, hi, hl⟩ := of_bind hl
  obtain ⟨q, hq, hp⟩ := of_bind hl
  obtain ⟨x, sp⟩ := hC.spec hi
  obtain ⟨arr, t', fz, pre, mid, post, h1, h2, h3, h4, h5, h6⟩ := H.rcells hq hr
  obtain ⟨y, p1, p2, p3⟩ := part_run hC hi hp h2 h5 h6 w
  refine ⟨y, ?_, p2, p3⟩
  have hsz := Rope.size_eq h2
  have hlen := h5.length
  unfold part at hp
  cases ha : i.agg with
  | true =>
    rw [ha] at hp
    simp only [cond_true] at hp
    obtain ⟨g1, g2⟩ := of_cond_some hp
    rw [ble_true_iff] at g1
    simp [Go.part, sp.run_isAgg, sp.run_size, ha, List.extract_eq_take_drop] at p1
    subst p1
    have e : ((mid.drop off).take i.size).length = i.size := by simp; omega
    have := run_loadCells_list (P := C.P) (w := w) ⟨c, off + sh, none⟩ ((mid.drop off).take i.size) (by
      intro j y hj
      rw [List.getElem?_take] at hj
      split at hj
      · rw [List.getElem?_drop] at hj
        have := cell_of_row h1 h3 hj
        rw [addr_add, ← h4, ← this]
        congr 2; omega
      · cases hj)
    rw [e] at this
    simp [loadVar, sp.run_isAgg, sp.run_size, ha, this]
  | false =>
    rw [ha] at hp
    simp only [cond_false] at hp
    rw [Rope.get_eq off h2] at hp
    obtain ⟨y', k1, k2⟩ := h5.get hp
    simp [Go.part, sp.run_isAgg, ha, k1] at p1
    subst p1
    have := cell_of_row h1 h3 k1
    rw [h4] at this
    simp [loadVar, sp.run_isAgg, ha, this]

theorem splice_step (cur : List Value) (k : Nat) (v : Value) (rest : List Value) (h : k < cur.length) :
    (cur.set k v).take (k + 1) ++ rest ++ (cur.set k v).drop (k + 1 + rest.length) = cur.take k ++ (v :: rest) ++ cur.drop (k + (rest.length + 1)) := by
  rw [List.set_eq_take_append_cons_drop, if_pos h]
  have e : (cur.take k).length = k := by simp; omega
  rw [List.take_append, List.drop_append, e]
  rw [List.take_of_length_le (show (cur.take k).length ≤ k + 1 by omega), List.drop_eq_nil_of_le (show (cur.take k).length ≤ k + 1 + rest.length by omega)]
  rw [show k + 1 - k = 1 from by omega, show k + 1 + rest.length - k = rest.length + 1 from by omega]
  simp only [List.take_succ_cons, List.take_zero, List.nil_append, List.drop_succ_cons, List.drop_drop]
  simp [show k + 1 + rest.length = k + (rest.length + 1) from by omega]

/-- Cells are stored. -/
theorem run_storeCells_gen {P : Program} (g o : Nat) (t : TypeId) (fz : Nat × Nat) : ∀ (vs : List Value) (i : Nat) (cur : Array Value) (w : World), w.heap[g]? = some (.cells cur t fz) →
    o + i + vs.length ≤ cur.size → (∀ v ∈ vs, v.oneCell' = true) → (∀ i, i < cur.size → ¬ (fz.1 ≤ i ∧ i < fz.2)) →
    (Go.storeCells ⟨g, o, none⟩ vs i).run P w = .ok () { w with heap := w.heap.setIfInBounds g (.cells (cur.toList.take (o + i) ++ vs ++ cur.toList.drop (o + i + vs.length)).toArray t fz) }
  | [], i, cur, w, hg, hl, _, _ => by
    have hlt := (Array.getElem?_eq_some_iff.1 hg).1
    have hv := (Array.getElem?_eq_some_iff.1 hg).2
    simp only [Go.storeCells, List.append_nil, List.length_nil, Nat.add_zero, List.take_append_drop, Array.toArray_toList, Sem.run_pure]
    congr 1
    have : w.heap.setIfInBounds g (Obj.cells cur t fz) = w.heap := by
      apply Array.ext_getElem?
      intro k
      by_cases e : g = k
      · subst e; rw [hg]; simp [hlt]
      · rw [Array.getElem?_setIfInBounds_ne e]
    rw [this]
  | v :: rest, i, cur, w, hg, hl, h1, hz => by
    have hlt := (Array.getElem?_eq_some_iff.1 hg).1
    simp only [List.length_cons] at hl
    have hi : o + i < cur.size := by omega
    have hcell : w.cell? ⟨g, o + i, none⟩ = some cur[o + i] := by simp [World.cell?, hg, hi]
    have hfro : w.frozen? ⟨g, o + i, none⟩ = false := by
      have := hz (o + i) hi
      simp [World.frozen?, hg]; omega
    have hset : w.setCell ⟨g, o + i, none⟩ v = { w with heap := w.heap.setIfInBounds g (.cells (cur.setIfInBounds (o + i) v) t fz) } := by
      simp only [World.setCell]
      congr 1
      apply Array.ext_getElem?
      intro k
      rw [Array.getElem?_modify]
      by_cases e : g = k
      · subst e; rw [if_pos rfl, hg]; simp [hlt]
      · rw [Array.getElem?_setIfInBounds_ne e]; simp [e]
    have hst : (Go.store ((⟨g, o, none⟩ : Addr).add i) v).run P w = .ok () { w with heap := w.heap.setIfInBounds g (.cells (cur.setIfInBounds (o + i) v) t fz) } := by
      rw [addr_add, run_store P w _ v _ (h1 v (by simp)), hcell]
      simp [hfro, hset]
    have ih := run_storeCells_gen (P := P) g o t fz rest (i + 1) (cur.setIfInBounds (o + i) v) { w with heap := w.heap.setIfInBounds g (.cells (cur.setIfInBounds (o + i) v) t fz) }
      (by simp [hlt]) (by simp; omega) (fun x hx => h1 x (by simp [hx])) (by simpa using hz)
    simp only [Go.storeCells, Sem.run_bind, hst, Result.andThen_ok]
    rw [ih]
    simp only [Array.toList_setIfInBounds, Array.setIfInBounds_setIfInBounds, show o + (i + 1) = o + i + 1 from by omega, List.length_cons]
    rw [splice_step cur.toList (o + i) v rest (by simpa using hi)]

end
end Go.Ev
