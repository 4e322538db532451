/- Conversions; aggregates that are built; the operations that read. -/
import Derived.Test.YtkcdhdilifolfaaGreatEvI
import Derived.Laws.BytesString
namespace Go.Ev
variable {C : Ctx}

theorem firstCells_runs {ρ : Ren} {h : Heap} {w : World} (H : HRel ρ h w) {sz n : Nat} {v : V} {r : Rope V} (hf : firstCells h sz n v = some r) {x : Value} (hv : VRel ρ v x) :
    ∃ ys : List Value, r.Ok ∧ VRels ρ r.toList ys ∧ (∀ y ∈ ys, y.oneCell' = true) ∧ ∀ w' : World, w'.heap = w.heap → (Builtin.firstCells sz n x).run C.P w' = .ok ys.toArray w' ∧
      (∀ a l c, x = .slice (some a) l c → (Go.loadCells a (n * sz)).run C.P w' = .ok ys.toArray w') := by
  unfold firstCells at hf
  split at hf
  · rename_i b off len cap op
    obtain ⟨g, hf⟩ := of_cond_some hf
    rw [ble_true_iff] at g
    cases hv with | @slice _ _ _ _ c sh ex o _ hr hl ho =>
    by_cases hz : n * sz = 0
    · rw [hz] at hf
      simp at hf
      subst hf
      have : ∀ a w', (Go.loadCells a (n * sz)).run C.P w' = .ok ([] : List Value).toArray w' := fun a w' => by rw [hz]; rfl
      exact ⟨[], trivial, .nil, by simp, fun w' _ => ⟨this _ w', fun a l c _ => this a w'⟩⟩
    · rw [show Nat.beq (n * sz) 0 = false from by simpa using hz] at hf
      simp only [cond_false] at hf
      replace hf := of_bind hf
      obtain ⟨q, hq, hf⟩ := hf
      obtain ⟨g2, hf⟩ := of_cond_some hf
      cases hf
      rw [ble_true_iff] at g2
      obtain ⟨arr, t', fz, pre, mid, post, h1, h2, h3, h4, h5, h6⟩ := H.rcells hq hr
      have hsz := Rope.size_eq h2
      have hlen := h5.length
      obtain ⟨e1, e2⟩ := Rope.ext_ok off (n * sz) h2 g2
      have hn : n ≠ 0 := by rintro rfl; simp at hz
      have ho := ho (by omega)
      subst ho
      have e : ((mid.drop off).take (n * sz)).length = n * sz := by simp; omega
      have key : ∀ w' : World, w'.heap = w.heap → (Go.loadCells ⟨c, off + sh, none⟩ (n * sz)).run C.P w' = .ok ((mid.drop off).take (n * sz)).toArray w' := by
        intro w' hw
        have := run_loadCells_list (P := C.P) (w := w') ⟨c, off + sh, none⟩ ((mid.drop off).take (n * sz)) (by
          intro j y hj
          rw [List.getElem?_take] at hj
          split at hj
          · rw [List.getElem?_drop] at hj
            have := cell_of_row (w := w') (by rw [hw]; exact h1) h3 hj
            rw [addr_add, ← h4, ← this]
            congr 2; omega
          · cases hj)
        rw [e] at this
        exact this
      refine ⟨_, e1, by rw [e2]; exact (h5.drop off).take _, ?_, fun w' hw => ⟨key w' hw, ?_⟩⟩
      · intro y hy; exact h6 y (List.mem_of_mem_drop (List.mem_of_mem_take hy))
      · intro a l c' ha
        cases ha
        exact key w' hw
  · obtain ⟨g, hf⟩ := of_cond_some hf
    cases hf
    cases hv
    exact ⟨[], trivial, .nil, by simp, fun w' _ => ⟨rfl, fun a l c ha => by cases ha⟩⟩
  · rename_i a0
    obtain ⟨g, hf⟩ := of_cond_some hf
    have hn : n = 0 := by simpa using g
    subst hn
    cases hf
    cases hv
    have : ∀ a w', (Go.loadCells a (0 * sz)).run C.P w' = .ok ([] : List Value).toArray w' := fun a w' => by rw [Nat.zero_mul]; rfl
    exact ⟨[], trivial, .nil, by simp, fun w' _ => ⟨this _ w', fun a l c _ => this a w'⟩⟩
  · rename_i s
    cases hf
    cases hv
    obtain ⟨o1, o2, o3⟩ := Rope.ofList_ok (bytesV ((s.extract 0 n).data.toList))
    refine ⟨(s.extract 0 n).data.toList.map fun b => .int .u8 b.toNat, o1, ?_, ?_, fun w' _ => ⟨?_, fun a l c ha => by cases ha⟩⟩
    · rw [o2]; exact .scalarsMap _ _
    · intro y hy
      simp only [List.mem_map] at hy
      obtain ⟨b, _, rfl⟩ := hy
      rfl
    · simp only [Builtin.firstCells, Sem.run_pure]
      congr 1
      apply Array.toList_inj.1
      simp
  · cases hf

theorem firstCells_run {ρ : Ren} {h : Heap} {w : World} (H : HRel ρ h w) {sz n : Nat} {v : V} {r : Rope V} (hf : firstCells h sz n v = some r) {x : Value} (hv : VRel ρ v x) :
    ∃ ys : List Value, (Builtin.firstCells sz n x).run C.P w = .ok ys.toArray w ∧ r.Ok ∧ VRels ρ r.toList ys ∧ (∀ y ∈ ys, y.oneCell' = true) ∧
      (∀ a l c, x = .slice (some a) l c → (Go.loadCells a (n * sz)).run C.P w = .ok ys.toArray w) := by
  obtain ⟨ys, h1, h2, h3, h4⟩ := firstCells_runs (C := C) H hf hv
  exact ⟨ys, (h4 w rfl).1, h1, h2, h3, (h4 w rfl).2⟩

theorem toBytes_rel {ρ : Ren} : ∀ {l : List V} {bs : List UInt8} {ys : List Value}, toBytes l = some bs → VRels ρ l ys →
    ∃ ns : List Int, ys = ns.map (Value.int .u8) ∧ bs = ns.map fun n => UInt8.ofNat n.toNat
  | [], bs, ys, h, hr => by
    simp [toBytes] at h
    subst h
    exact ⟨[], by simpa using hr.nil_inv, rfl⟩
  | v :: l, bs, ys, h, hr => by
    obtain ⟨y, zs, rfl, h1, h2⟩ := hr.cons_inv
    unfold toBytes at h
    split at h
    · rename_i e; cases e
    · rename_i n l' e
      cases e
      replace h := of_bind h
      obtain ⟨bs', hb, h⟩ := h
      cases h
      obtain ⟨ns, e1, e2⟩ := toBytes_rel hb h2
      cases h1
      exact ⟨n :: ns, by simp [e1], by simp [e2]⟩
    · cases h

theorem foldl_push (ns : List Int) : ∀ s : ByteArray, ns.foldl (fun r n => r.push (UInt8.ofNat n.toNat)) s = ⟨(s.data.toList ++ ns.map fun n => UInt8.ofNat n.toNat).toArray⟩ := by
  induction ns with
  | nil => intro s; obtain ⟨⟨l⟩⟩ := s; simp
  | cons n ns ih => intro s; simp only [List.foldl_cons, ih]; obtain ⟨⟨l⟩⟩ := s; simp [ByteArray.push]

theorem convert_run (hC : C.Ok) {ρ : Ren} {h : Heap} {w : World} (H : HRel ρ h w) {src dst : TypeId} {v r : V} (hc : convert C h src dst v = some r) {x : Value} (hv : VRel ρ v x) :
    ∃ y, (Go.convert src dst x).run C.P w = .ok y w ∧ VRel ρ r y := by
  unfold convert at hc
  replace hc := of_bind hc
  obtain ⟨i, hi, hc⟩ := hc
  replace hc := of_bind hc
  obtain ⟨j, hj, hc⟩ := hc
  obtain ⟨_, si⟩ := hC.spec hi
  obtain ⟨_, sj⟩ := hC.spec hj
  have hU := si.und
  have hV := sj.und
  split at hc
  · rename_i e b off len cap op hd hd'
    replace hc := of_bind hc
    obtain ⟨k, hk, hc⟩ := hc
    obtain ⟨_, sk⟩ := hC.spec hk
    have hW := sk.und
    split at hc
    · rename_i hd''
      replace hc := of_bind hc
      obtain ⟨cs, hcs, hc⟩ := hc
      replace hc := of_bind hc
      obtain ⟨bs, hbs, hc⟩ := hc
      cases hc
      rw [hd] at hU; rw [hd'] at hV; rw [hd''] at hW
      cases hv with | @slice _ _ _ _ c sh ex o _ hr hl ho =>
      have hv2 : VRel ρ (.slice b off len len false) (.slice (some ⟨c, if len = 0 then o else off + sh, none⟩) len len) := by
        have := VRel.slice (ρ := ρ) (off := off) (len := len) (cap := len) (op := false) (o := if len = 0 then o else off + sh) hr (Nat.le_refl _) (by
          simp only [xcap, Bool.false_eq_true, if_false, Nat.add_zero]; intro h0; rw [if_neg h0])
        simpa [xcap] using this
      obtain ⟨ys, f1, f2, f3, f4, f5⟩ := firstCells_run (C := C) H hcs hv2
      have f6 := f5 _ _ _ rfl
      obtain ⟨ns, e1, e2⟩ := toBytes_rel hbs f3
      subst e1
      have e3 : (if len = 0 then o else off + sh) = o := by
        split
        · rfl
        · exact (ho (by omega)).symm
      rw [e3, Nat.mul_one] at f6
      refine ⟨.string ⟨bs.toArray⟩, ?_, .s _⟩
      rw [run_convert_bytes_string w src dst e _ _ _ hU hW hV, run_bytesToString w _ _ _ ns f6, foldl_push, e2]
      rfl
    · cases hc
  · rename_i e hd hd'
    replace hc := of_bind hc
    obtain ⟨k, hk, hc⟩ := hc
    obtain ⟨_, sk⟩ := hC.spec hk
    have hW := sk.und
    split at hc
    · rename_i hd''
      cases hc
      cases hv
      rw [hd] at hU; rw [hd'] at hV; rw [hd''] at hW
      exact ⟨_, by rw [run_convert_bytes_string w src dst e _ _ _ hU hW hV]; rfl, .s _⟩
    · cases hc
  · cases hc
  · cases hc
  · have hd' := ‹j.desc = TypeDesc.int _›
    cases hc
    cases hv
    rw [hd'] at hV
    refine ⟨_, ?_, .s _⟩
    simp [Go.convert, run_underlying hU, run_underlying hV, Conv.intToInt, wrapF_eq]
  · replace hc := of_bind hc
    obtain ⟨y, hy, hc⟩ := hc
    cases hc
    cases hv
    exact ⟨y, pure?_run hy w, .s _⟩
  · cases hc

/-! ### Aggregates that are built -/
theorem fillS_cons {fs : Array Field} {r r' : Rope V} {i : Nat} {v : V} {rest : List (Nat × V)} (h : fillS C fs r ((i, v) :: rest) = some r') :
    ∃ p cs, placeOf C fs i = some p ∧ v.cells = some cs ∧ cs.size = p.2.size ∧ p.1.offset + cs.size ≤ r.size ∧ fillS C fs (r.put p.1.offset cs) rest = some r' := by
  simp only [fillS] at h
  replace h := of_bind h
  obtain ⟨p, hp, h⟩ := h
  replace h := of_bind h
  obtain ⟨cs, hcs, h⟩ := h
  obtain ⟨g, h⟩ := of_cond_some h
  simp only [Bool.and_eq_true, beq_true_iff, ble_true_iff] at g
  exact ⟨p, cs, hp, hcs, g.1, g.2, h⟩
theorem fillA_cons {n : Nat} {r r' : Rope V} {i : Nat} {v : V} {rest : List (Nat × V)} (h : fillA n r ((i, v) :: rest) = some r') :
    ∃ cs, v.cells = some cs ∧ cs.size = n ∧ i * n + cs.size ≤ r.size ∧ fillA n (r.put (i * n) cs) rest = some r' := by
  simp only [fillA] at h
  replace h := of_bind h
  obtain ⟨cs, hcs, h⟩ := h
  obtain ⟨g, h⟩ := of_cond_some h
  simp only [Bool.and_eq_true, beq_true_iff, ble_true_iff] at g
  exact ⟨cs, hcs, g.1, g.2, h⟩

theorem fillA_run {ρ : Ren} {n : Nat} {parts : List (Nat × V)} {ps : List (Nat × Value)} {r r' : Rope V} {xs : List Value} (hp : NRels ρ parts ps) (hf : fillA n r parts = some r') (hok : r.Ok)
    (hr : VRels ρ r.toList xs) (hc : ∀ x ∈ xs, x.oneCell' = true) :
    ∃ ys : List Value, Instr.fill (fun i => some (i * n, n)) xs.toArray ps = some ys.toArray ∧ r'.Ok ∧ VRels ρ r'.toList ys ∧ (∀ y ∈ ys, y.oneCell' = true) :=
  fill_rel (fun i => some (i * n, n)) (fillA n) (fun r r' h => by simp [fillA] at h; exact h.symm)
    (fun r r' i v rest h => by
      obtain ⟨cs, a, b, c, d⟩ := fillA_cons h
      exact ⟨i * n, n, cs, rfl, a, b, by omega, d⟩) hp hf hok hr hc

theorem fillS_run {ρ : Ren} {fs : Array Field} {pl : Array (Nat × Nat)} (hpl : ∀ (k : Nat) (f : Field) (i : Ty), fs[k]? = some f → ty C f.type = some i → pl[k]? = some (f.offset, i.size))
    {parts : List (Nat × V)} {ps : List (Nat × Value)} {r r' : Rope V} {xs : List Value} (hp : NRels ρ parts ps) (hf : fillS C fs r parts = some r') (hok : r.Ok)
    (hr : VRels ρ r.toList xs) (hc : ∀ x ∈ xs, x.oneCell' = true) :
    ∃ ys : List Value, Instr.fill (pl[·]?) xs.toArray ps = some ys.toArray ∧ r'.Ok ∧ VRels ρ r'.toList ys ∧ (∀ y ∈ ys, y.oneCell' = true) :=
  fill_rel (pl[·]?) (fillS C fs) (fun r r' h => by simp [fillS] at h; exact h.symm)
    (fun r r' i v rest h => by
      obtain ⟨p, cs, a, b, c, d, e⟩ := fillS_cons h
      obtain ⟨a1, a2⟩ := placeOf_rel a
      exact ⟨p.1.offset, p.2.size, cs, hpl i p.1 p.2 a1 a2, b, c, by omega, e⟩) hp hf hok hr hc

theorem build_run (hC : C.Ok) {ρ : Ren} {t : TypeId} {parts : List (Nat × V)} {r : V} (h : build C t parts = some r) {ps : Array (Nat × Value)} (hp : NRels ρ parts ps.toList) (w : World) :
    ∃ y, (Instr.build t ps).run C.P w = .ok y w ∧ VRel ρ r y := by
  unfold build at h
  replace h := of_bind h
  obtain ⟨i, hi, h⟩ := h
  replace h := of_bind h
  obtain ⟨z, hz, h⟩ := h
  replace h := of_bind h
  obtain ⟨zs, hzs, h⟩ := h
  obtain ⟨_, sp⟩ := hC.spec hi
  have hU := sp.und
  obtain ⟨y, z1, z2, _⟩ := sp.run_zero hz ρ w
  obtain ⟨c1, c2, c3⟩ := z2.cells hzs
  split at h
  · rename_i fs hd
    replace h := of_bind h
    obtain ⟨r', hr', h⟩ := h
    cases h
    rw [hd] at hU
    obtain ⟨pl, p1, p2⟩ := run_places hC fs w (hC.fields t i fs hi hd)
    obtain ⟨ys, k1, k2, k3, k4⟩ := fillS_run p2 hp hr' c1 c2 c3
    refine ⟨.agg ys.toArray, ?_, .agg k2 k3 k4⟩
    simp only [Instr.build, Sem.run_bind, z1, Result.andThen_ok, run_underlying hU, p1]
    rw [show y.cells = y.cells.toList.toArray from by simp, k1]
    rfl
  · rename_i n e hd
    replace h := of_bind h
    obtain ⟨j, hj, h⟩ := h
    replace h := of_bind h
    obtain ⟨r', hr', h⟩ := h
    cases h
    rw [hd] at hU
    obtain ⟨_, sj⟩ := hC.spec hj
    obtain ⟨ys, k1, k2, k3, k4⟩ := fillA_run hp hr' c1 c2 c3
    refine ⟨.agg ys.toArray, ?_, .agg k2 k3 k4⟩
    simp only [Instr.build, Sem.run_bind, z1, Result.andThen_ok, run_underlying hU, sj.run_size]
    rw [show y.cells = y.cells.toList.toArray from by simp, k1]
    rfl
  · cases h

end Go.Ev
