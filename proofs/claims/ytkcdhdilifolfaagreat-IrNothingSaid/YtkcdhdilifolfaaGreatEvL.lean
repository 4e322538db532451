/- The operations that make a block. -/
import Derived.Test.YtkcdhdilifolfaaGreatEvK
namespace Go.Ev
variable {C : Ctx}

theorem range_mod {α : Type} [Inhabited α] (z : List α) (f : Nat → α) (hf : ∀ i, i < z.length → some (f i) = z[i]?) (hp : 0 < z.length) : ∀ n, (List.range (n * z.length)).map (fun i => f (i % z.length)) = (List.replicate n z).flatten
  | 0 => by simp
  | n + 1 => by
    rw [show (n + 1) * z.length = z.length + n * z.length from by rw [Nat.add_mul]; omega, List.range_add, List.map_append, List.map_map, List.replicate_succ, List.flatten_cons, ← range_mod z f hf hp n]
    congr 1
    · apply List.ext_getElem?
      intro i
      by_cases hi : i < z.length
      · simp only [List.getElem?_map, List.getElem?_range hi, Option.map_some]
        rw [Nat.mod_eq_of_lt hi, hf i hi]
      · rw [List.getElem?_eq_none (by simp; omega), List.getElem?_eq_none (by omega)]
    · apply List.map_congr_left
      intro i _
      simp

theorem zero_cells (z : Array Value) (n : Nat) (hz : z.size ≠ 0) : (Array.range (n * z.size)).map (fun i => z[i % z.size]!) = ((List.replicate n z.toList).flatten).toArray := by
  apply Array.toList_inj.1
  rw [Array.toList_map, Array.toList_range]
  have := range_mod z.toList (fun i => z[i]!) (fun i hi => by
    have hi : i < z.size := by simpa using hi
    simp [hi]) (by simp; omega) n
  simpa using this

theorem range0_map (f : Nat → Value) : (Array.range 0).map f = ([] : List Value).toArray := by simp
theorem wrap_i64 {n : Nat} (h : n < 9223372036854775808) : IntKind.i64.wrap (n : Int) = n := by
  unfold IntKind.wrap
  simp only [IntKind.bits, IntKind.signed, Bool.true_and, decide_eq_true_eq, show ((2 : Int) ^ 64) = 18446744073709551616 from rfl, show ((2 : Int) ^ (64 - 1)) = 9223372036854775808 from rfl]
  rw [if_neg (by omega)]
  omega

theorem run_stringToBytes {P : Program} (e : TypeId) (s : ByteArray) (w : World) (cap : Nat) (hcap : cap = s.size + w.tape w.drawn (.appendCap s.size 0 e) % (2 ^ 63 - s.size)) :
    (Conv.stringToBytes e s).run P w = .ok (.slice (some ⟨w.heap.size, 0, none⟩) s.size cap)
      (w.drew.alloc (.cells ((s.data.toList.map fun b => Value.int .u8 b.toNat) ++ List.replicate (cap - s.size) (Value.int .u8 0)).toArray e (cap, cap + 1))) := by
  have h1 : (s.data.map fun b => Value.int .u8 b.toNat) ++ Array.replicate (cap - s.size) (Value.int .u8 0) = ((s.data.toList.map fun b => Value.int .u8 b.toNat) ++ List.replicate (cap - s.size) (Value.int .u8 0)).toArray := by
    apply Array.toList_inj.1; simp
  have hsz : s.data.size = s.size := rfl
  have h2 : (((s.data.toList.map fun b => Value.int .u8 b.toNat) ++ List.replicate (cap - s.size) (Value.int .u8 0)).toArray).size = cap := by simp [hsz]; omega
  generalize ((s.data.toList.map fun b => Value.int .u8 b.toNat) ++ List.replicate (cap - s.size) (Value.int .u8 0)).toArray = arr at h1 h2 ⊢
  have hc : (choose (.appendCap s.size 0 e)).run P w = .ok cap w.drew := by
    rw [run_choose]; simp [Question.forced, Question.cut, ← hcap]
  have hshape : (w.drew.alloc (.cells arr e)).shape? w.heap.size = some (e, arr.size) := by
    have : (w.drew.alloc (.cells arr e)).heap[w.heap.size]? = some (.cells arr e) := by show (w.heap.push _)[w.heap.size]? = _; simp
    unfold World.shape?
    rw [this]
  have hfr : (w.drew.alloc (.cells arr e)).freeze ⟨w.heap.size, arr.size, none⟩ 1 = w.drew.alloc (.cells arr e (cap, cap + 1)) := by
    unfold World.freeze World.alloc
    simp only [Nat.one_ne_zero, if_false]
    congr 1
    apply Array.ext_getElem?
    intro k
    rw [Array.getElem?_modify]
    by_cases hk : w.heap.size = k
    · subst hk
      rw [if_pos rfl]
      show ((w.heap.push (Obj.cells arr e))[w.heap.size]?).map _ = (w.heap.push (Obj.cells arr e (cap, cap + 1)))[w.heap.size]?
      simp [h2]
    · simp only [if_neg hk]
      show (w.heap.push _)[k]? = (w.heap.push _)[k]?
      simp only [Array.getElem?_push]
      rw [if_neg (fun e => hk e.symm), if_neg (fun e => hk e.symm)]
  simp only [Conv.stringToBytes, Sem.run_bind, hc, Result.andThen_ok, h1, newRow, run_newObj, Sem.run_pure]
  have : ({ w.drew with heap := w.drew.heap.push (.cells arr e) } : World) = w.drew.alloc (.cells arr e) := rfl
  rw [this]
  simp only [markStringish, Sem.run_bind, run_shape, World.size_drew, hshape, Result.andThen_ok, run_freeze, hfr]

/-- What a made block's value is in the model. -/
def Mk.cval (c ex : Nat) : Mk → Value
  | .ptr => .pointer (some ⟨c, 0, none⟩)
  | .slice len cap op => .slice (some ⟨c, 0, none⟩) len (cap + xcap op ex)
  | .map => .map (some c)
def Mk.Fine : Mk → Prop
  | .slice len cap _ => len ≤ cap
  | _ => True
theorem Mk.rel {ρ : Ren} {b c ex : Nat} {k : Mk} (hr : ρ b = some (c, 0, ex)) (hf : k.Fine) : VRel ρ (k.val b) (k.cval c ex) := by
  cases k with
  | ptr => exact .ptr (off := 0) hr
  | slice len cap op => exact .slice (off := 0) hr hf (fun _ => rfl)
  | map => exact .map hr

theorem row_rel {ρ : Ren} {r : Rope V} {es : Nat} {xs : List Value} (t : TypeId) (ho : r.Ok) (hr : VRels ρ r.toList xs) (hc : ∀ x ∈ xs, x.oneCell' = true) :
    ORel ρ 0 0 (.cells r es) (.cells xs.toArray t) :=
  .cells ho [] xs [] (by simp) rfl hr hc (by simp) (fun i _ h => by simp at h)

theorem mk_own {ev : Operand → Option V} {o : Oper} {m : O × Mk} (hm : mk C ev o = some m) : m.1.own = true := by
  unfold mk at hm
  repeat' (first | (replace hm := of_bind hm; obtain ⟨_, _, hm⟩ := hm) | (replace hm := of_cond_some hm; obtain ⟨_, hm⟩ := hm) | (split at hm) | (cases hm; done) | (cases hm; rfl))

theorem mk_run (hC : C.Ok) {ρ : Ren} {h : Heap} {w : World} (H : HRel ρ h w) {ev : Operand → Option V} {σ : Operand → Value} {o : Oper} {m : O × Mk} (hm : mk C ev o = some m)
    (hev : ∀ x ∈ o.op.operands, ∀ u, ev x = some u → VRel ρ u (σ x)) {n b n' : Nat} (hb : ρ b = none) (hn : n ≤ b) (hn' : b < n') :
    ∃ y w' ρ', (execOp σ o).run C.P w = .ok (.value y) w' ∧ Evo ρ h n w ρ' (h.set b m.1) n' w' ∧ VRel ρ' (m.2.val b) y := by
  have fin : ∀ (d : World) (x : Obj) (ex : Nat), HRel ρ h d → Evo ρ h n w ρ h n d → m.2.Fine → (∀ ρ' : Ren, ρ.le ρ' → ORel ρ' 0 ex m.1 x) →
      (execOp σ o).run C.P w = .ok (.value (m.2.cval d.heap.size ex)) (d.alloc x) →
      ∃ y w' ρ', (execOp σ o).run C.P w = .ok (.value y) w' ∧ Evo ρ h n w ρ' (h.set b m.1) n' w' ∧ VRel ρ' (m.2.val b) y := by
    intro d x ex Hd Ed hf hx hrun
    obtain ⟨ρ', h1, h2⟩ := Evo.alloc Hd hb hn n' hn' (mk_own hm) hx
    exact ⟨_, _, ρ', hrun, Ed.trans h2, Mk.rel h1 hf⟩
  obtain ⟨dst, op, type, pos, after, guard⟩ := o
  have newVar : ∀ {t : TypeId} {x : Value} {s : Sem Addr}, s = Go.newVar t x → s.run C.P w = .ok ⟨w.heap.size, 0, none⟩ (w.alloc (.cells x.cells t)) := by
    rintro t x _ rfl
    simp [Go.newVar, Go.newRow]
  cases op with
  | alloc t =>
    simp only [mk] at hm
    replace hm := of_bind hm
    obtain ⟨i, hi, hm⟩ := hm
    replace hm := of_bind hm
    obtain ⟨z, hz, hm⟩ := hm
    replace hm := of_bind hm
    obtain ⟨zs, hzs, hm⟩ := hm
    cases hm
    obtain ⟨_, sp⟩ := hC.spec hi
    obtain ⟨y, z1, z2, _⟩ := sp.run_zero hz ρ w
    obtain ⟨c1, c2, c3⟩ := z2.cells hzs
    refine fin w (.cells y.cells t) 0 H (.refl n H) trivial (fun ρ' hle => ?_) ?_
    · have := row_rel (es := i.size) t c1 (c2.mono hle) c3
      simpa using this
    · simp [execOp, Instr.alloc, z1, newVar rfl, Mk.cval]
  | box t x =>
    simp only [mk] at hm
    replace hm := of_bind hm
    obtain ⟨v, hv, hm⟩ := hm
    replace hm := of_bind hm
    obtain ⟨i, hi, hm⟩ := hm
    replace hm := of_bind hm
    obtain ⟨cs, hcs, hm⟩ := hm
    cases hm
    have hx := hev x (by simp [Op.operands]) v hv
    obtain ⟨c1, c2, c3⟩ := hx.cells hcs
    refine fin w (.cells (σ x).cells t) 0 H (.refl n H) trivial (fun ρ' hle => ?_) ?_
    · have := row_rel (es := i.size) t c1 (c2.mono hle) c3
      simpa using this
    · simp [execOp, Instr.box, newVar rfl, Mk.cval]
  | buildSlice t len ps =>
    simp only [mk] at hm
    replace hm := of_bind hm
    obtain ⟨i, hi, hm⟩ := hm
    obtain ⟨_, sp⟩ := hC.spec hi
    have hU := sp.und
    split at hm
    · rename_i e hd
      replace hm := of_bind hm
      obtain ⟨j, hj, hm⟩ := hm
      replace hm := of_bind hm
      obtain ⟨z, hz, hm⟩ := hm
      replace hm := of_bind hm
      obtain ⟨zs, hzs, hm⟩ := hm
      replace hm := of_bind hm
      obtain ⟨vs, hvs, hm⟩ := hm
      obtain ⟨g, hm⟩ := of_cond_some hm
      replace hm := of_bind hm
      obtain ⟨r, hr, hm⟩ := hm
      cases hm
      simp only [Bool.and_eq_true, ble_true_iff, Bool.not_eq_true', beq_false_iff, beq_true_iff] at g
      obtain ⟨g1, g2, g3⟩ := g
      rw [hd] at hU
      obtain ⟨_, sj⟩ := hC.spec hj
      obtain ⟨y, z1, z2, _⟩ := sj.run_zero hz ρ w
      obtain ⟨c1, c2, c3⟩ := z2.cells hzs
      have hn := evp_rel (σ := σ) hvs (fun p hp u hu => hev p.2 (by simp only [Op.operands]; rw [List.mem_toArray]; exact List.mem_map.2 ⟨p, hp, rfl⟩) u hu)
      obtain ⟨r1, r2, r3⟩ := Rope.rep_ok c1 len
      have hsz : y.cells.size = j.size := by
        have := c2.length
        rw [← g3, Rope.size_eq c1, this]; simp
      obtain ⟨ys, k1, k2, k3, k4⟩ := fillA_run (ps := (ps.map fun (i, x) => (i, σ x)).toList) (by simpa using hn) hr r1 (by rw [r2]; exact c2.replicate len) (by
        intro x hx
        simp only [List.mem_flatten, List.mem_replicate] at hx
        obtain ⟨l, ⟨_, rfl⟩, hx⟩ := hx
        exact c3 x hx)
      refine fin w (.cells ys.toArray e) 0 H (.refl n H) (Nat.le_refl _) (fun ρ' hle => row_rel e k2 (k3.mono hle) k4) ?_
      have hlim : ¬ (len * j.size > 2 ^ 24) := by omega
      have hps : (ps.map fun (i, x) => (i, σ x)).toList = ps.toList.map fun (i, x) => (i, σ x) := by simp
      by_cases h0 : len * j.size = 0
      · have hl : len = 0 := by rcases Nat.mul_eq_zero.1 h0 with h | h; exact h; exact (g2 h).elim
        subst hl
        simp only [execOp, Instr.buildSlice, Sem.run_bind, run_underlying hU, Result.andThen_ok, sj.run_size, Sem.run_ite, hlim, if_false, h0, if_true, Sem.run_pure]
        simp only [List.replicate_zero, List.flatten_nil] at k1
        simp only [range0_map, k1]
        simp [Go.newRow, Mk.cval, xcap]
      · have hfill : (Array.range (len * j.size)).map (fun i => y.cells[i % y.cells.size]!) = ((List.replicate len y.cells.toList).flatten).toArray := by
          have := zero_cells y.cells len (by omega)
          rw [hsz] at this
          rw [hsz]; exact this
        simp only [execOp, Instr.buildSlice, Sem.run_bind, run_underlying hU, Result.andThen_ok, sj.run_size, Sem.run_ite, hlim, if_false, h0, z1, Sem.run_pure, hfill, k1]
        simp [Go.newRow, Mk.cval, xcap]
    · cases hm
  | makeMap t res =>
    cases res with
    | some _ => simp [mk] at hm
    | none =>
      simp only [mk] at hm
      cases hm
      refine fin w (.map #[] 0) 0 H (.refl n H) trivial (fun ρ' hle => ?_) ?_
      · exact .map rfl .nil
      · simp [execOp, Instr.makeMap, Mk.cval]
  | makeSlice t l c =>
    simp only [mk] at hm
    replace hm := of_bind hm
    obtain ⟨i, hi, hm⟩ := hm
    obtain ⟨_, sp⟩ := hC.spec hi
    have hU := sp.und
    split at hm
    · rename_i e hd
      replace hm := of_bind hm
      obtain ⟨j, hj, hm⟩ := hm
      replace hm := of_bind hm
      obtain ⟨z, hz, hm⟩ := hm
      replace hm := of_bind hm
      obtain ⟨zs, hzs, hm⟩ := hm
      replace hm := of_bind hm
      obtain ⟨lv, hlv, hm⟩ := hm
      replace hm := of_bind hm
      obtain ⟨ln, hln, hm⟩ := hm
      replace hm := of_bind hm
      obtain ⟨cv, hcv, hm⟩ := hm
      replace hm := of_bind hm
      obtain ⟨cn, hcn, hm⟩ := hm
      obtain ⟨g, hm⟩ := of_cond_some hm
      cases hm
      simp only [Bool.and_eq_true, ble_true_iff, blt_true_iff, Bool.not_eq_true', beq_false_iff, beq_true_iff] at g
      obtain ⟨g1, g2, g3, g4, g5⟩ := g
      rw [hd] at hU
      obtain ⟨xj, sj⟩ := hC.spec hj
      obtain ⟨y, z1, z2, _⟩ := sj.run_zero hz ρ w
      obtain ⟨c1, c2, c3⟩ := z2.cells hzs
      obtain ⟨k1, hl⟩ := asNat_rel hln (hev l (by simp [Op.operands]) lv hlv)
      obtain ⟨k2, hc⟩ := asNat_rel hcn (hev c (by simp [Op.operands]) cv hcv)
      obtain ⟨r1, r2, r3⟩ := Rope.rep_ok c1 cn
      have hsz : y.cells.size = j.size := by
        have := c2.length
        rw [← g5, Rope.size_eq c1, this]; simp
      refine fin w (.cells ((List.replicate cn y.cells.toList).flatten).toArray e) 0 H (.refl n H) g1 (fun ρ' hle => row_rel e r1 (by rw [r2]; exact (c2.mono hle).replicate cn) (by
        intro x hx
        simp only [List.mem_flatten, List.mem_replicate] at hx
        obtain ⟨l, ⟨_, rfl⟩, hx⟩ := hx
        exact c3 x hx)) ?_
      have hb : (xj.bytes : Int) * (cn : Int) ≤ 281474976710656 := by
        rw [← sj.bytes, ← Int.natCast_mul]
        generalize j.bytes * cn = q at g2 ⊢
        omega
      have w1 : IntKind.i64.wrap (cn : Int) = cn := wrap_i64 g3
      have w2 : IntKind.i64.wrap (ln : Int) = ln := wrap_i64 (by omega)
      have hno : (((decide ((cn : Int) < 0) || decide ((xj.bytes : Int) * (cn : Int) > 2 ^ 48)) || decide ((ln : Int) < 0)) || decide ((ln : Int) > (cn : Int))) = false := by
        simp only [Bool.or_eq_false_iff, decide_eq_false_iff_not]
        refine ⟨⟨⟨by omega, by omega⟩, by omega⟩, by omega⟩
      by_cases h0 : cn * j.size = 0
      · have hl0 : cn = 0 := by rcases Nat.mul_eq_zero.1 h0 with h | h; exact h; exact (g4 h).elim
        subst hl0
        obtain rfl : ln = 0 := by omega
        simp only [execOp, hl, hc, Instr.makeSlice, Sem.run_bind, run_underlying hU, Result.andThen_ok, Go.asInt, asIntOf, Sem.run_pure, sj.run_info, w1, w2, hno, Bool.false_eq_true, if_false, Sem.run_ite,
          run_askRoom, Int.toNat_natCast, sj.run_size, h0, if_true, range0_map]
        simp [Go.newRow, Mk.cval, xcap]
      · have hfill : (Array.range (cn * j.size)).map (fun i => y.cells[i % y.cells.size]!) = ((List.replicate cn y.cells.toList).flatten).toArray := by
          have := zero_cells y.cells cn (by omega)
          rw [hsz] at this
          rw [hsz]; exact this
        simp only [execOp, hl, hc, Instr.makeSlice, Sem.run_bind, run_underlying hU, Result.andThen_ok, Go.asInt, asIntOf, Sem.run_pure, sj.run_info, w1, w2, hno, Bool.false_eq_true, if_false, Sem.run_ite,
          run_askRoom, Int.toNat_natCast, sj.run_size, h0, z1, hfill]
        simp [Go.newRow, Mk.cval, xcap]
    · cases hm
  | convert src dst x =>
    simp only [mk] at hm
    replace hm := of_bind hm
    obtain ⟨v, hv, hm⟩ := hm
    replace hm := of_bind hm
    obtain ⟨i, hi, hm⟩ := hm
    replace hm := of_bind hm
    obtain ⟨j, hj, hm⟩ := hm
    obtain ⟨_, si⟩ := hC.spec hi
    obtain ⟨_, sj⟩ := hC.spec hj
    have hU := si.und
    have hV := sj.und
    have hx := hev x (by simp [Op.operands]) v hv
    generalize hy : σ x = y at hx
    split at hm
    · rename_i e s hd hd'
      replace hm := of_bind hm
      obtain ⟨k, hk, hm⟩ := hm
      obtain ⟨_, sk⟩ := hC.spec hk
      have hW := sk.und
      split at hm
      · rename_i hd''
        cases hm
        cases hx
        rw [hd] at hU; rw [hd'] at hV; rw [hd''] at hW
        let cap := s.size + w.tape w.drawn (.appendCap s.size 0 e) % (2 ^ 63 - s.size)
        have hcap : s.size ≤ cap := Nat.le_add_right _ _
        let elems : List Value := s.data.toList.map fun b => .int .u8 b.toNat
        have hel : elems.length = s.size := by simp [elems]
        refine fin w.drew (.cells (elems ++ List.replicate (cap - s.size) (Value.int .u8 0)).toArray e (cap, cap + 1)) (cap - s.size) H.drew (.drew H n) (Nat.le_refl _) (fun ρ' hle => ?_) ?_
        · obtain ⟨o1, o2, o3⟩ := Rope.ofList_ok (bytesV s.data.toList)
          refine .cells o1 [] elems (List.replicate (cap - s.size) (Value.int .u8 0)) (by simp) rfl (by rw [o2]; exact .scalarsMap _ _) ?_ (by simp) ?_
          · intro x hx
            simp only [elems, List.mem_map] at hx
            obtain ⟨b, _, rfl⟩ := hx
            rfl
          · intro i hi h
            simp [hel] at hi
            simp at h
            omega
        · have := run_stringToBytes (P := C.P) e s w cap rfl
          simp only [execOp, hy, Go.convert, Sem.run_bind, run_underlying hU, run_underlying hV, run_underlying hW, Result.andThen_ok, this, Sem.run_pure]
          simp only [Mk.cval, xcap, if_true, World.size_drew]
          rw [show s.size + (cap - s.size) = cap from by omega]
      · cases hm
    · cases hm
  | _ => cases hm

end Go.Ev
