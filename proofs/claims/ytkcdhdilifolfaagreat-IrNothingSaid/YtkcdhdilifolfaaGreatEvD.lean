/- How abstract values and memory stand to the model's. -/
import Derived.Test.YtkcdhdilifolfaaGreatEvC
import Derived.OrdersIn
import Derived.RangeFuncLeaves
import Derived.Laws.Sem
import Derived.Laws.World
import Derived.Laws.Cells
namespace Go.Ev

/-- Of an abstract block: the block, how far behind its beginning it begins, how many elements there is room for behind it. -/
abbrev Ren := Nat → Option (Nat × Nat × Nat)

def xcap (op : Bool) (ex : Nat) : Nat := if op then ex else 0

mutual
inductive VRel (ρ : Ren) : V → Value → Prop
  | s (x : Value) : VRel ρ (.s x) x
  | ptr {b off c sh ex : Nat} (h : ρ b = some (c, sh, ex)) : VRel ρ (.ptr b off) (.pointer (some ⟨c, off + sh, none⟩))
  | slice {b off len cap c sh ex o : Nat} {op : Bool} (h : ρ b = some (c, sh, ex)) (hl : len ≤ cap) (ho : cap + xcap op ex ≠ 0 → o = off + sh) :
      VRel ρ (.slice b off len cap op) (.slice (some ⟨c, o, none⟩) len (cap + xcap op ex))
  | map {b c sh ex : Nat} (h : ρ b = some (c, sh, ex)) : VRel ρ (.map b) (.map (some c))
  | func {fn : Fn} {first caps : List V} {xs ys : List Value} (h1 : VRels ρ first xs) (h2 : VRels ρ caps ys) : VRel ρ (.func fn first caps) (.func fn xs.toArray ys.toArray)
  | yield {l c sh ex : Nat} (h : ρ l = some (c, sh, ex)) : VRel ρ (.yield l) (.func (.yield c) #[] #[])
  | iface {t : TypeId} {v : V} {x : Value} (h : VRel ρ v x) : VRel ρ (.iface t v) (.iface t x)
  | agg {r : Rope V} {xs : List Value} (hok : r.Ok) (h : VRels ρ r.toList xs) (hc : ∀ x ∈ xs, x.oneCell' = true) : VRel ρ (.agg r) (.agg xs.toArray)
  | tup {vs : List V} {xs : List Value} (h : VRels ρ vs xs) : VRel ρ (.tup vs) (.tuple xs.toArray)
inductive VRels (ρ : Ren) : List V → List Value → Prop
  | nil : VRels ρ [] []
  | cons {v : V} {x : Value} {vs : List V} {xs : List Value} (h : VRel ρ v x) (hs : VRels ρ vs xs) : VRels ρ (v :: vs) (x :: xs)
end

def Ren.le (ρ ρ' : Ren) : Prop := ∀ b x, ρ b = some x → ρ' b = some x
theorem Ren.le_refl (ρ : Ren) : ρ.le ρ := fun _ _ h => h
theorem Ren.le_trans {a b c : Ren} (h : a.le b) (k : b.le c) : a.le c := fun _ _ e => k _ _ (h _ _ e)

mutual
theorem VRel.mono {ρ ρ' : Ren} (hle : ρ.le ρ') : ∀ {v : V} {x : Value}, VRel ρ v x → VRel ρ' v x
  | _, _, .s x => .s x
  | _, _, .ptr h => .ptr (hle _ _ h)
  | _, _, .slice h hl ho => .slice (hle _ _ h) hl ho
  | _, _, .map h => .map (hle _ _ h)
  | _, _, .func h1 h2 => .func (VRels.mono hle h1) (VRels.mono hle h2)
  | _, _, .yield h => .yield (hle _ _ h)
  | _, _, .iface h => .iface (VRel.mono hle h)
  | _, _, .agg hok h hc => .agg hok (VRels.mono hle h) hc
  | _, _, .tup h => .tup (VRels.mono hle h)
theorem VRels.mono {ρ ρ' : Ren} (hle : ρ.le ρ') : ∀ {vs : List V} {xs : List Value}, VRels ρ vs xs → VRels ρ' vs xs
  | _, _, .nil => .nil
  | _, _, .cons h hs => .cons (VRel.mono hle h) (VRels.mono hle hs)
end

namespace VRels
variable {ρ : Ren}
theorem length : ∀ {vs : List V} {xs : List Value}, VRels ρ vs xs → vs.length = xs.length
  | _, _, .nil => rfl
  | _, _, .cons _ hs => by simp [length hs]
theorem get : ∀ {vs : List V} {xs : List Value} {i : Nat} {v : V}, VRels ρ vs xs → vs[i]? = some v → ∃ x, xs[i]? = some x ∧ VRel ρ v x
  | _, _, _, _, .nil, e => by simp at e
  | _, _, 0, _, .cons h _, e => by simp at e; subst e; exact ⟨_, by simp, h⟩
  | _, _, i + 1, _, .cons _ hs, e => by
    obtain ⟨x, h1, h2⟩ := get (i := i) hs (by simpa using e)
    exact ⟨x, by simpa using h1, h2⟩
theorem get_none {vs : List V} {xs : List Value} {i : Nat} (h : VRels ρ vs xs) (e : vs[i]? = none) : xs[i]? = none := by
  have := h.length
  simp at e ⊢; omega
theorem append : ∀ {vs us : List V} {xs ys : List Value}, VRels ρ vs xs → VRels ρ us ys → VRels ρ (vs ++ us) (xs ++ ys)
  | _, _, _, _, .nil, k => k
  | _, _, _, _, .cons h hs, k => .cons h (append hs k)
theorem take : ∀ (n : Nat) {vs : List V} {xs : List Value}, VRels ρ vs xs → VRels ρ (vs.take n) (xs.take n)
  | 0, _, _, _ => by simpa using .nil
  | n + 1, _, _, .nil => .nil
  | n + 1, _, _, .cons h hs => .cons h (take n hs)
theorem drop : ∀ (n : Nat) {vs : List V} {xs : List Value}, VRels ρ vs xs → VRels ρ (vs.drop n) (xs.drop n)
  | 0, _, _, h => by simpa using h
  | n + 1, _, _, .nil => .nil
  | n + 1, _, _, .cons _ hs => drop n hs
theorem replicate {vs : List V} {xs : List Value} (h : VRels ρ vs xs) : ∀ n, VRels ρ (List.replicate n vs).flatten (List.replicate n xs).flatten
  | 0 => by simpa using .nil
  | n + 1 => by simpa [List.replicate_succ] using h.append (replicate h n)
theorem single {v : V} {x : Value} (h : VRel ρ v x) : VRels ρ [v] [x] := .cons h .nil
theorem split : ∀ {vs us : List V} {xs : List Value}, VRels ρ (vs ++ us) xs → ∃ ys zs, xs = ys ++ zs ∧ VRels ρ vs ys ∧ VRels ρ us zs
  | [], us, xs, h => ⟨[], xs, rfl, .nil, h⟩
  | v :: vs, us, _, .cons h hs => by
    obtain ⟨ys, zs, rfl, h1, h2⟩ := split (vs := vs) hs
    exact ⟨_ :: ys, zs, rfl, .cons h h1, h2⟩
theorem scalarsMap {α : Type} (f : α → Value) : ∀ l : List α, VRels ρ (l.map fun a => .s (f a)) (l.map f)
  | [] => .nil
  | a :: l => .cons (.s _) (scalarsMap f l)
theorem nil_inv {xs : List Value} (h : VRels ρ [] xs) : xs = [] := by cases h; rfl
theorem cons_inv {v : V} {vs : List V} {xs : List Value} (h : VRels ρ (v :: vs) xs) : ∃ y ys, xs = y :: ys ∧ VRel ρ v y ∧ VRels ρ vs ys := by
  cases h with | cons h hs => exact ⟨_, _, rfl, h, hs⟩
end VRels

/-- The cells of a value. -/
theorem VRel.cells {ρ : Ren} {v : V} {x : Value} {r : Rope V} (h : VRel ρ v x) (hf : v.cells = some r) :
    r.Ok ∧ VRels ρ r.toList x.cells.toList ∧ ∀ y ∈ x.cells.toList, y.oneCell' = true := by
  have one : ∀ {u : V} {y : Value}, VRel ρ u y → (flatV u = true → y.oneCell' = true) → (bif flatV u then some (Rope.one u) else none) = some r → y.cells = #[y] →
      r.Ok ∧ VRels ρ r.toList y.cells.toList ∧ ∀ z ∈ y.cells.toList, z.oneCell' = true := by
    intro u y hu hc hf hy
    obtain ⟨e1, e2⟩ := of_cond_some hf
    cases e2
    rw [hy]
    exact ⟨trivial, .single hu, by simpa using hc e1⟩
  cases h with
  | s x => cases x <;> first | exact one (.s _) (fun _ => rfl) hf rfl | simp [V.cells, flatV] at hf
  | agg hok h hc => simp only [V.cells] at hf; cases hf; exact ⟨hok, by simpa [Value.cells] using h, by simpa [Value.cells] using hc⟩
  | ptr h => exact one (.ptr h) (fun _ => rfl) hf rfl
  | slice h hl ho => exact one (.slice h hl ho) (fun _ => rfl) hf rfl
  | map h => exact one (.map h) (fun _ => rfl) hf rfl
  | func h1 h2 => exact one (.func h1 h2) (fun _ => rfl) hf rfl
  | yield h => exact one (.yield h) (fun _ => rfl) hf rfl
  | iface h => exact one (.iface h) (fun _ => rfl) hf rfl
  | tup h => simp [V.cells, flatV] at hf

/-! ### Memory -/
inductive ERel (ρ : Ren) : Ent → MapEntry → Prop
  | mk {k v : V} {n : Nat} {x y : Value} (hk : VRel ρ k x) (hv : VRel ρ v y) : ERel ρ ⟨k, v, n⟩ ⟨x, y, n⟩
inductive ERels (ρ : Ren) : List Ent → List MapEntry → Prop
  | nil : ERels ρ [] []
  | cons {e : Ent} {m : MapEntry} {es : List Ent} {ms : List MapEntry} (h : ERel ρ e m) (hs : ERels ρ es ms) : ERels ρ (e :: es) (m :: ms)

theorem ERel.mono {ρ ρ' : Ren} (hle : ρ.le ρ') {e : Ent} {m : MapEntry} (h : ERel ρ e m) : ERel ρ' e m := by
  cases h with | mk hk hv => exact .mk (hk.mono hle) (hv.mono hle)
theorem ERels.mono {ρ ρ' : Ren} (hle : ρ.le ρ') : ∀ {es : List Ent} {ms : List MapEntry}, ERels ρ es ms → ERels ρ' es ms
  | _, _, .nil => .nil
  | _, _, .cons h hs => .cons (h.mono hle) (ERels.mono hle hs)
theorem ERels.length {ρ : Ren} : ∀ {es : List Ent} {ms : List MapEntry}, ERels ρ es ms → es.length = ms.length
  | _, _, .nil => rfl
  | _, _, .cons _ hs => by simp [ERels.length hs]

/-- The temporaries. -/
structure TmRel (ρ : Ren) (tm : Tm) (tmps : Array Value) : Prop where
  size : tmps.size = tm.n
  get : ∀ i, VRel ρ (tm.get i) (tmps.getD i undef)
theorem TmRel.mono {ρ ρ' : Ren} (hle : ρ.le ρ') {tm : Tm} {tmps : Array Value} (h : TmRel ρ tm tmps) : TmRel ρ' tm tmps := ⟨h.size, fun i => (h.get i).mono hle⟩

inductive ORel (ρ : Ren) (sh ex : Nat) : O → Obj → Prop
  | cells {r : Rope V} {es : Nat} {arr : Array Value} {t : TypeId} {fz : Nat × Nat} (hok : r.Ok) (pre mid post : List Value) (ha : arr.toList = pre ++ mid ++ post)
      (hp : pre.length = sh) (hm : VRels ρ r.toList mid) (hc : ∀ x ∈ mid, x.oneCell' = true) (hx : ex * es ≤ post.length)
      (hz : ∀ i, i < arr.size → ¬ (fz.1 ≤ i ∧ i < fz.2)) : ORel ρ sh ex (.cells r es) (.cells arr t fz)
  | map {es : List Ent} {ms : List MapEntry} {clock : Nat} (hs : sh = 0) (h : ERels ρ es ms) : ORel ρ sh ex (.map es clock) (.map ms.toArray clock)
  | mapIterNil {since stepped : Nat} {seen : List Nat} (hs : sh = 0) : ORel ρ sh ex (.mapIter none since seen stepped) (.mapIter none since seen.toArray stepped)
  | mapIter {b c s x since stepped : Nat} {seen : List Nat} (hs : sh = 0) (h : ρ b = some (c, s, x)) :
      ORel ρ sh ex (.mapIter (some b) since seen stepped) (.mapIter (some c) since seen.toArray stepped)
  | strIter {s : ByteArray} {pos : Nat} (hs : sh = 0) : ORel ρ sh ex (.strIter s pos) (.stringIter s pos)
  | loop {st : LoopState} {pending : Option Code} {tm : Tm} {params : List Tmp} {assign body : Code} {l : Loop} (hs : sh = 0) (h1 : l.state = st) (h2 : l.pending = pending)
      (h3 : TmRel ρ tm l.tmps) (h4 : l.params = params.toArray) (h5 : l.assign = assign) (h6 : l.body = body) : ORel ρ sh ex (.loop st pending tm params assign body) (.loop l)
  | defd (hs : sh = 0) : ORel ρ sh ex .defd (.deferred (some []))
  | ro {r : Rope V} {es : Nat} {arr : Array Value} {t : TypeId} {fz : Nat × Nat} (hok : r.Ok) (pre mid post : List Value) (ha : arr.toList = pre ++ mid ++ post)
      (hp : pre.length = sh) (hm : VRels ρ r.toList mid) (hc : ∀ x ∈ mid, x.oneCell' = true) : ORel ρ sh ex (.ro r es) (.cells arr t fz)
  | roMap {es : List Ent} {ms : List MapEntry} {clock : Nat} (hs : sh = 0) (h : ERels ρ es ms) : ORel ρ sh ex (.roMap es clock) (.map ms.toArray clock)

theorem ORel.mono {ρ ρ' : Ren} (hle : ρ.le ρ') {sh ex : Nat} {o : O} {obj : Obj} (h : ORel ρ sh ex o obj) : ORel ρ' sh ex o obj := by
  cases h with
  | cells hok pre mid post ha hp hm hc hx hz => exact .cells hok pre mid post ha hp (hm.mono hle) hc hx hz
  | map hs h => exact .map hs (h.mono hle)
  | mapIterNil hs => exact .mapIterNil hs
  | mapIter hs h => exact .mapIter hs (hle _ _ h)
  | strIter hs => exact .strIter hs
  | loop hs h1 h2 h3 h4 h5 h6 => exact .loop hs h1 h2 (h3.mono hle) h4 h5 h6
  | defd hs => exact .defd hs
  | ro hok pre mid post ha hp hm hc => exact .ro hok pre mid post ha hp (hm.mono hle) hc
  | roMap hs h => exact .roMap hs (h.mono hle)

structure HRel (ρ : Ren) (h : Heap) (w : World) : Prop where
  obj : ∀ b o, h.get b = some o → ∃ c sh ex x, ρ b = some (c, sh, ex) ∧ w.heap[c]? = some x ∧ ORel ρ sh ex o x
  inj : ∀ b b' o o' x x', h.get b = some o → h.get b' = some o' → o.own = true → ρ b = some x → ρ b' = some x' → x.1 = x'.1 → b = b'

theorem HRel.at {ρ : Ren} {h : Heap} {w : World} (H : HRel ρ h w) {b : Nat} {o : O} {c sh ex : Nat} (hb : h.get b = some o) (hr : ρ b = some (c, sh, ex)) :
    ∃ x, w.heap[c]? = some x ∧ ORel ρ sh ex o x := by
  obtain ⟨c', sh', ex', x, h1, h2, h3⟩ := H.obj b o hb
  rw [hr] at h1
  cases h1
  exact ⟨x, h2, h3⟩

theorem HRel.lt {ρ : Ren} {h : Heap} {w : World} (H : HRel ρ h w) {b : Nat} {o : O} {x : Nat × Nat × Nat} (hb : h.get b = some o) (hr : ρ b = some x) : x.1 < w.heap.size := by
  obtain ⟨c, sh, ex⟩ := x
  obtain ⟨y, h1, _⟩ := H.at hb hr
  exact (Array.getElem?_eq_some_iff.1 h1).1

/-- Less memory. -/
theorem HRel.weaken {ρ : Ren} {h h' : Heap} {w : World} (H : HRel ρ h w) (hs : ∀ b o, h'.get b = some o → h.get b = some o) : HRel ρ h' w :=
  ⟨fun b o hb => H.obj b o (hs _ _ hb), fun b b' o o' x x' h1 h2 => H.inj b b' o o' x x' (hs _ _ h1) (hs _ _ h2)⟩

/-- Worlds that part in their heap, and in how much was drawn, alone. -/
structure Side (w w' : World) : Prop where
  tape : w'.tape = w.tape
  os : w'.os = w.os
  output : w'.output = w.output
theorem Side.refl (w : World) : Side w w := ⟨rfl, rfl, rfl⟩
theorem Side.trans {a b c : World} (h : Side a b) (k : Side b c) : Side a c := ⟨k.1.trans h.1, k.2.trans h.2, k.3.trans h.3⟩

/-- What has become of memory: 'h' that 'w' had is 'h'' that 'w'' has; new blocks are numbered from n to n'; no other block of w has turned. -/
structure Evo (ρ : Ren) (h : Heap) (n : Nat) (w : World) (ρ' : Ren) (h' : Heap) (n' : Nat) (w' : World) : Prop where
  le : ρ.le ρ'
  new : ∀ b x, ρ' b = some x → ρ b = none → n ≤ b ∧ b < n'
  num : n ≤ n'
  hrel : HRel ρ' h' w'
  size : w.heap.size ≤ w'.heap.size
  frame : ∀ c, c < w.heap.size → (∀ b o x, h.get b = some o → o.own = true → ρ b = some x → x.1 ≠ c) → w'.heap[c]? = w.heap[c]?
  dom : ∀ b o x, h'.get b = some o → o.own = true → ρ' b = some x → (∃ b0 o0 x0, h.get b0 = some o0 ∧ o0.own = true ∧ ρ b0 = some x0 ∧ x0.1 = x.1) ∨ w.heap.size ≤ x.1
  ros : ∀ b o, h'.get b = some o → o.own = false → h.get b = some o
  side : Side w w'

theorem Evo.refl {ρ : Ren} {h : Heap} {w : World} (n : Nat) (H : HRel ρ h w) : Evo ρ h n w ρ h n w :=
  ⟨Ren.le_refl ρ, fun b x h1 h2 => (by rw [h1] at h2; cases h2), Nat.le_refl _, H, Nat.le_refl _, fun _ _ _ => rfl, fun b o x h1 ho h2 => .inl ⟨b, o, x, h1, ho, h2, rfl⟩, fun _ _ h _ => h, .refl _⟩

theorem Evo.trans {ρ0 ρ1 ρ2 : Ren} {h0 h1 h2 : Heap} {n0 n1 n2 : Nat} {w0 w1 w2 : World} (a : Evo ρ0 h0 n0 w0 ρ1 h1 n1 w1) (b : Evo ρ1 h1 n1 w1 ρ2 h2 n2 w2) :
    Evo ρ0 h0 n0 w0 ρ2 h2 n2 w2 := by
  refine ⟨Ren.le_trans a.le b.le, ?_, Nat.le_trans a.num b.num, b.hrel, Nat.le_trans a.size b.size, ?_, ?_, fun k o hk ho => a.ros k o (b.ros k o hk ho) ho, a.side.trans b.side⟩
  · intro k x h2 h0
    cases h1 : ρ1 k with
    | none => have := b.new k x h2 h1; have := a.num; omega
    | some y => have := a.new k y h1 h0; have := b.num; omega
  · intro c hc hno
    rw [b.frame c (by have := a.size; omega) ?_, a.frame c hc hno]
    intro k o x hk ho hr e
    rcases a.dom k o x hk ho hr with ⟨b0, o0, x0, g1, g0, g2, g3⟩ | hge
    · exact hno b0 o0 x0 g1 g0 g2 (by rw [g3, e])
    · omega
  · intro k o x hk ho hr
    rcases b.dom k o x hk ho hr with ⟨b1, o1, x1, g1, g0, g2, g3⟩ | hge
    · rcases a.dom b1 o1 x1 g1 g0 g2 with ⟨b0, o0, x0, k1, k0, k2, k3⟩ | hge
      · exact .inl ⟨b0, o0, x0, k1, k0, k2, k3.trans g3⟩
      · right; omega
    · right; have := a.size; omega

/-- No block from n to n' has a name yet. -/
def Fresh (ρ : Ren) (n n' : Nat) : Prop := ∀ b, n ≤ b → b < n' → ρ b = none
theorem Fresh.left {ρ : Ren} {n m n' : Nat} (h : Fresh ρ n n') (hm : m ≤ n') : Fresh ρ n m := fun b h1 h2 => h b h1 (by omega)
theorem Fresh.right {ρ ρ' : Ren} {h h' : Heap} {n m n' : Nat} {w w' : World} (hf : Fresh ρ n n') (e : Evo ρ h n w ρ' h' m w') : Fresh ρ' m n' := by
  intro b h1 h2
  cases hb : ρ' b with
  | none => rfl
  | some x =>
    have := hf b (by have := e.num; omega) h2
    have := e.new b x hb this
    omega

/-! ### Single steps of memory -/
@[simp] theorem addr_add (c o n : Nat) : (⟨c, o, none⟩ : Addr).add n = ⟨c, o + n, none⟩ := by unfold Addr.add; split <;> simp_all

/-- One more block. -/
theorem Evo.alloc {ρ : Ren} {h : Heap} {w : World} (H : HRel ρ h w) {n b : Nat} {o : O} {x : Obj} {ex : Nat} (hb : ρ b = none) (hn : n ≤ b) (n' : Nat) (hn' : b < n') (ho : o.own = true)
    (hx : ∀ ρ' : Ren, ρ.le ρ' → ORel ρ' 0 ex o x) :
    ∃ ρ' : Ren, ρ' b = some (w.heap.size, 0, ex) ∧ Evo ρ h n w ρ' (h.set b o) n' (w.alloc x) := by
  let ρ' : Ren := fun k => if k = b then some (w.heap.size, 0, ex) else ρ k
  have hle : ρ.le ρ' := by
    intro k y hk
    show (if k = b then _ else ρ k) = _
    rw [if_neg (by rintro rfl; rw [hb] at hk; cases hk)]; exact hk
  have hb' : ρ' b = some (w.heap.size, 0, ex) := by show (if b = b then _ else _) = _; rw [if_pos rfl]
  have hne : ∀ k, k ≠ b → ρ' k = ρ k := fun k hk => by show (if k = b then _ else ρ k) = _; rw [if_neg hk]
  refine ⟨ρ', hb', hle, ?_, by omega, ⟨?_, ?_⟩, by simp, ?_, ?_, ?_, ⟨rfl, rfl, rfl⟩⟩
  · intro k y h1 h2
    by_cases e : k = b
    · omega
    · rw [hne k e, h2] at h1; cases h1
  · intro k ok hk
    rw [Tree.get_set] at hk
    by_cases e : k = b
    · subst e
      rw [if_pos rfl] at hk; cases hk
      exact ⟨_, _, _, x, hb', (by show (w.heap.push x)[w.heap.size]? = some x; simp), hx _ hle⟩
    · rw [if_neg e] at hk
      obtain ⟨c, sh, ex, y, g1, g2, g3⟩ := H.obj k ok hk
      refine ⟨c, sh, ex, y, by rw [hne k e]; exact g1, ?_, g3.mono hle⟩
      have := (Array.getElem?_eq_some_iff.1 g2).1
      show (w.heap.push x)[c]? = some y
      rw [Array.getElem?_push_lt this, ← Array.getElem?_eq_getElem this]; exact g2
  · intro k k' ok ok' y y' h1 h2 hk0 h3 h4 h5
    rw [Tree.get_set] at h1 h2
    by_cases e : k = b <;> by_cases e' : k' = b
    · rw [e, e']
    · subst e
      rw [hb'] at h3; cases h3
      rw [if_neg e'] at h2
      rw [hne k' e'] at h4
      have := H.lt h2 h4
      simp at h5; omega
    · subst e'
      rw [hb'] at h4; cases h4
      rw [if_neg e] at h1
      rw [hne k e] at h3
      have := H.lt h1 h3
      simp at h5; omega
    · rw [if_neg e] at h1; rw [if_neg e'] at h2; rw [hne k e] at h3; rw [hne k' e'] at h4
      exact H.inj k k' ok ok' y y' h1 h2 hk0 h3 h4 h5
  · intro c hc _
    show (w.heap.push x)[c]? = w.heap[c]?
    rw [Array.getElem?_push_lt hc, ← Array.getElem?_eq_getElem hc]
  · intro k ok y hk hk0 hr
    rw [Tree.get_set] at hk
    by_cases e : k = b
    · subst e; rw [hb'] at hr; cases hr; right; simp
    · rw [if_neg e] at hk; rw [hne k e] at hr
      exact .inl ⟨k, ok, y, hk, hk0, hr, rfl⟩
  · intro k ok hk hk0
    rw [Tree.get_set] at hk
    by_cases e : k = b
    · rw [if_pos e] at hk; cases hk; rw [ho] at hk0; cases hk0
    · rw [if_neg e] at hk; exact hk

/-- A block turned. -/
theorem Evo.turn {ρ : Ren} {h : Heap} {w : World} (H : HRel ρ h w) (n : Nat) {b : Nat} {o o' : O} {x' : Obj} {c sh ex : Nat} (hb : h.get b = some o) (hr : ρ b = some (c, sh, ex))
    (ho : o.own = true) (ho' : o'.own = true) (hx : ORel ρ sh ex o' x') :
    Evo ρ h n w ρ (h.set b o') n { w with heap := w.heap.setIfInBounds c x' } := by
  have hlt : c < w.heap.size := H.lt hb hr
  refine ⟨Ren.le_refl ρ, fun k y h1 h2 => (by rw [h1] at h2; cases h2), Nat.le_refl _, ⟨?_, ?_⟩, by simp, ?_, ?_, ?_, ⟨rfl, rfl, rfl⟩⟩
  · intro k ok hk
    rw [Tree.get_set] at hk
    by_cases e : k = b
    · subst e
      rw [if_pos rfl] at hk; cases hk
      exact ⟨c, sh, ex, x', hr, by simp [hlt], hx⟩
    · rw [if_neg e] at hk
      obtain ⟨c1, sh1, ex1, y, g1, g2, g3⟩ := H.obj k ok hk
      refine ⟨c1, sh1, ex1, y, g1, ?_, g3⟩
      have : c ≠ c1 := fun e1 => e (H.inj b k o ok _ _ hb hk ho hr g1 e1).symm
      simp [Array.getElem?_setIfInBounds_ne this, g2]
  · intro k k' ok ok' y y' h1 h2 hk0 h3 h4 h5
    have f : ∀ j oj, (h.set b o').get j = some oj → ∃ oj', h.get j = some oj' ∧ (oj.own = true → oj'.own = true) := by
      intro j oj hj
      rw [Tree.get_set] at hj
      by_cases e : j = b
      · exact ⟨o, e ▸ hb, fun _ => ho⟩
      · rw [if_neg e] at hj; exact ⟨_, hj, id⟩
    obtain ⟨p, hp, hp0⟩ := f _ _ h1
    obtain ⟨q, hq, _⟩ := f _ _ h2
    exact H.inj k k' p q y y' hp hq (hp0 hk0) h3 h4 h5
  · intro c1 hc1 hno
    have : c ≠ c1 := hno b o _ hb ho hr
    simp [Array.getElem?_setIfInBounds_ne this]
  · intro k ok y hk hk0 hr'
    rw [Tree.get_set] at hk
    by_cases e : k = b
    · subst e; exact .inl ⟨k, o, y, hb, ho, hr', rfl⟩
    · rw [if_neg e] at hk; exact .inl ⟨k, ok, y, hk, hk0, hr', rfl⟩
  · intro k ok hk hk0
    rw [Tree.get_set] at hk
    by_cases e : k = b
    · rw [if_pos e] at hk; cases hk; rw [ho'] at hk0; cases hk0
    · rw [if_neg e] at hk; exact hk

/-- A block that is looked at no more. -/
theorem Evo.drop {ρ : Ren} {h : Heap} {w : World} (H : HRel ρ h w) (n b : Nat) : Evo ρ h n w ρ (h.del b) n w := by
  have f : ∀ j oj, (h.del b).get j = some oj → h.get j = some oj := by
    intro j oj hj
    rw [Tree.get_del] at hj
    by_cases e : j = b
    · rw [if_pos e] at hj; cases hj
    · rwa [if_neg e] at hj
  exact ⟨Ren.le_refl ρ, fun k y h1 h2 => (by rw [h1] at h2; cases h2), Nat.le_refl _, H.weaken f, Nat.le_refl _, fun _ _ _ => rfl, fun k o x hk ho hr => .inl ⟨k, o, x, f _ _ hk, ho, hr, rfl⟩, fun k o hk _ => f _ _ hk, .refl _⟩

/-- Drawn. -/
theorem Evo.drew {ρ : Ren} {h : Heap} {w : World} (H : HRel ρ h w) (n : Nat) : Evo ρ h n w ρ h n w.drew :=
  ⟨Ren.le_refl ρ, fun k y h1 h2 => (by rw [h1] at h2; cases h2), Nat.le_refl _, ⟨H.obj, H.inj⟩, Nat.le_refl _, fun _ _ _ => rfl, fun k o x hk ho hr => .inl ⟨k, o, x, hk, ho, hr, rfl⟩, fun _ _ h _ => h, ⟨rfl, rfl, rfl⟩⟩
theorem HRel.drew {ρ : Ren} {h : Heap} {w : World} (H : HRel ρ h w) : HRel ρ h w.drew := ⟨H.obj, H.inj⟩

end Go.Ev
