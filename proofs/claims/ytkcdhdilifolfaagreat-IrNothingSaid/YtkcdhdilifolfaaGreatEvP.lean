/- What an operation that acts does. -/
import Derived.Test.YtkcdhdilifolfaaGreatEvO
import Derived.KernelRfl
namespace Go.Ev
variable {C : Ctx}

/-- No block from n on has a name yet. -/
def Fr (ρ : Ren) (n : Nat) : Prop := ∀ b, n ≤ b → ρ b = none
theorem Fr.le {ρ : Ren} {n m : Nat} (h : Fr ρ n) (hm : n ≤ m) : Fr ρ m := fun b hb => h b (by omega)
theorem Fr.fresh {ρ : Ren} {n m : Nat} (h : Fr ρ n) : Fresh ρ n m := fun b hb _ => h b hb
theorem Fr.evo {ρ ρ' : Ren} {h h' : Heap} {n n' : Nat} {w w' : World} (hf : Fr ρ n) (e : Evo ρ h n w ρ' h' n' w') : Fr ρ' n' := by
  intro b hb
  cases hr : ρ' b with
  | none => rfl
  | some x =>
    have := e.new b x hr (hf b (by have := e.num; omega))
    omega

/-- What stands for what an operation does. -/
def ActOk (C : Ctx) (ρ : Ren) (h : Heap) (n : Nat) (w : World) (s : Sem Next) : Out → Prop
  | .val v h' n' => ∃ y w' ρ', (s.run C.P w = .ok (.value y) w' ∨ (s.run C.P w = .ok .skip w' ∧ y = undef)) ∧ Evo ρ h n w ρ' h' n' w' ∧ VRel ρ' v y
  | .enter f args => ∃ xs, s.run C.P w = (callFunc f xs.toArray).run C.P w ∧ VRels ρ args xs
  | .round l args => ∃ c sh ex xs, ρ l = some (c, sh, ex) ∧ s.run C.P w = (Instr.yield c xs.toArray).run C.P w ∧ VRels ρ args xs

theorem methodOf_run (hC : C.Ok) {ρ : Ren} {t : TypeId} {v : V} {x : Value} {name : String} {q : FuncId × V} (h : methodOf C t v name = some q) (hv : VRel ρ v x) (w : World) (k : Nat) :
    ∃ y, (Go.method (k + 1) t x name).run C.P w = .ok (q.1, y) w ∧ VRel ρ q.2 y := by
  unfold methodOf at h
  replace h := of_bind h
  obtain ⟨i, hi, h⟩ := h
  replace h := of_bind h
  obtain ⟨m, hm, h⟩ := h
  replace h := of_cond_some h
  obtain ⟨hp, h⟩ := h
  replace h := of_bind h
  obtain ⟨fp, hfp, h⟩ := h
  obtain ⟨ti, sp⟩ := hC.spec hi
  have hfind : ti.methods.find? (·.name == name) = some m := by
    rw [← hm, sp.methods]; simp
  have hpath : m.path.toList = [] := by simpa using hp
  obtain ⟨f, pr⟩ := fp
  have hrun : ∀ y, (receiverAt t (.val x) pr (if m.path.isEmpty then some ((name.splitOn ".").getLastD name) else none)).run C.P w = .ok y w →
      (Go.method (k + 1) t x name).run C.P w = .ok (f, y) w := by
    intro y hy
    simp only [Go.method, Sem.run_bind, sp.run_info, Result.andThen_ok, hfind, hpath, follow, Sem.run_pure, hfp, hy]
  have hund := sp.run_und w
  generalize i.desc = d at h hund
  cases d <;> cases pr <;> simp only [reduceCtorEq] at h <;> cases h <;> refine ⟨x, hrun x ?_, hv⟩ <;>
    simp only [receiverAt, Sem.run_bind, hund, Result.andThen_ok, Place.get, Sem.run_pure]

theorem bytesAt_run {ρ : Ren} {h : Heap} {w : World} (H : HRel ρ h w) {v : V} {s : ByteArray} (hs : bytesAt h v = some s) {x : Value} (hv : VRel ρ v x) :
    (Extern.Bytes.bytesOf x).run C.P w = .ok s w := by
  unfold bytesAt at hs
  split at hs
  · rename_i b off len cap op
    replace hs := of_bind hs
    obtain ⟨cs, hcs, hs⟩ := hs
    replace hs := of_bind hs
    obtain ⟨bs, hbs, hs⟩ := hs
    cases hs
    cases hv with | @slice _ _ _ _ c sh ex o _ hr hl ho =>
    have key : ∀ (n : Nat) (acc : ByteArray) (ns : List Int) (k : Nat), (∀ j x, ns[j]? = some x → w.cell? ⟨c, o + k + j, none⟩ = some (.int .u8 x)) → ns.length = n →
        (Extern.Bytes.loadBytes ⟨c, o + k, none⟩ n acc).run C.P w = .ok ⟨acc.data ++ (ns.map fun n => UInt8.ofNat n.toNat).toArray⟩ w := by
      intro n
      induction n with
      | zero =>
        intro acc ns k _ hl
        have : ns = [] := by cases ns <;> simp_all
        subst this
        simp [Extern.Bytes.loadBytes]
      | succ n ih =>
        intro acc ns k hc hl
        cases ns with
        | nil => simp at hl
        | cons m ns =>
          have h0 := hc 0 m (by simp)
          have := ih (acc.push m.toNat.toUInt8) ns (k + 1) (fun j x hj => by
            have := hc (j + 1) x (by simpa using hj)
            rw [← this]; congr 2; omega) (by simpa using hl)
          simp only [Extern.Bytes.loadBytes, Sem.run_bind, run_load]
          rw [Nat.add_zero] at h0
          rw [h0]
          simp only [Result.andThen_ok, addr_add]
          rw [Nat.add_assoc, this]
          congr 1
          apply ByteArray.ext
          simp [ByteArray.push, Nat.toUInt8]
    unfold firstCells at hcs
    simp only at hcs
    obtain ⟨g, hcs⟩ := of_cond_some hcs
    by_cases hz : len * 1 = 0
    · rw [hz] at hcs
      simp at hcs
      subst hcs
      have hb0 : bs = [] := (Option.some.inj (show some [] = some bs from hbs)).symm
      subst hb0
      have hl0 : len = 0 := by omega
      subst hl0
      rfl
    · rw [show Nat.beq (len * 1) 0 = false from by simpa using hz] at hcs
      simp only [cond_false] at hcs
      replace hcs := of_bind hcs
      obtain ⟨q, hq, hcs⟩ := hcs
      obtain ⟨g2, hcs⟩ := of_cond_some hcs
      cases hcs
      rw [ble_true_iff] at g2
      obtain ⟨arr, t', fz, pre, mid, post, h1, h2, h3, h4, h5, h6⟩ := H.rcells hq hr
      obtain ⟨e1, e2⟩ := Rope.ext_ok off (len * 1) h2 g2
      have ho := ho (by omega)
      subst ho
      obtain ⟨ns, k1, k2⟩ := toBytes_rel (ys := (mid.drop off).take (len * 1)) hbs (by rw [e2]; exact (h5.drop off).take _)
      have hlen : ns.length = len := by
        have := congrArg List.length k1
        have hsz := Rope.size_eq h2
        have := h5.length
        simp at *; omega
      have := key len .empty ns 0 (fun j x hj => by
        have hj' : ((mid.drop off).take (len * 1))[j]? = some (.int .u8 x) := by rw [k1]; simp [hj]
        rw [List.getElem?_take] at hj'
        split at hj'
        · rw [List.getElem?_drop] at hj'
          have := cell_of_row (w := w) h1 h3 hj'
          rw [← this, ← h4]; congr 2; omega
        · cases hj') hlen
      simp only [Extern.Bytes.bytesOf]
      rw [Nat.add_zero] at this
      rw [this, k2]
      simp
  · cases hs
    cases hv
    rfl
  · cases hs

theorem compare_run {ρ : Ren} {h : Heap} {w : World} (H : HRel ρ h w) {n : Nat} {args : List V} {r : Out} (hr : compareB h n args = some r) {xs : List Value} (hx : VRels ρ args xs) {fn : Func} {f : FuncId}
    (hf : C.P.funcs[f]? = some fn) (hc : isCompare fn = true) {s : Sem Next} (hs : s.run C.P w = (callFunc f xs.toArray).run C.P w) : ActOk C ρ h n w s r := by
  unfold compareB at hr
  split at hr
  · replace hr := of_bind hr
    obtain ⟨x, h1, hr⟩ := hr
    replace hr := of_bind hr
    obtain ⟨y, h2, hr⟩ := hr
    cases hr
    obtain ⟨a, l1, rfl, g1, hx⟩ := hx.cons_inv
    obtain ⟨b, l2, rfl, g2, hx⟩ := hx.cons_inv
    cases hx.nil_inv
    refine ⟨_, w, ρ, .inl ?_, .refl n H, .s _⟩
    simp only [isCompare, Bool.and_eq_true, beq_iff_eq] at hc
    obtain ⟨c1, c2, c3⟩ := hc
    have e1 : Extern.findNext fn = none := by
      simp only [Extern.findNext, c2, c3]; kernel_rfl
    have e2 : Extern.find fn = some Extern.BytealgCompare.compare := by
      simp only [Extern.find, c2, c3]; kernel_rfl
    have e3 : ("internal/bytealg.Compare" == "runtime.NumGoroutine") = false := by decide
    rw [hs]
    simp only [callFunc, Sem.run_bind, run_program, Result.andThen_ok, hf, c2, e3, c1, e1, e2, Bool.false_eq_true, if_false, if_true, run_mark]
    have e4 : Extern.BytealgCompare.compare [a, b].toArray = (do pure (goInt (Extern.BytealgCompare.cmp (← Extern.Bytes.bytesOf a) (← Extern.Bytes.bytesOf b))) : Sem Value) := rfl
    rw [e4]
    simp only [Sem.run_bind, bytesAt_run H h1 g1, bytesAt_run H h2 g2, Result.andThen_ok, Sem.run_pure]
  · cases hr

theorem callFn_run (hC : C.Ok) {ρ : Ren} {h : Heap} {n : Nat} {fn : Fn} {args caps : List V} {r : Out} {w : World} (H : HRel ρ h w) (hr : callFn C h n fn args caps = some r) {xs ys : List Value}
    (h1 : VRels ρ args xs) (h2 : VRels ρ caps ys) {s : Sem Next} (hs : s.run C.P w = (invoke (.fn fn ys.toArray) xs.toArray).run C.P w) : ActOk C ρ h n w s r := by
  unfold callFn at hr
  split at hr
  · rename_i f
    split at hr
    · rename_i hX
      obtain ⟨fn, k1, k2⟩ := hC.ext f hX
      exact compare_run H hr (h1.append h2) k1 k2 (by rw [hs]; simp [invoke])
    · cases hr
      exact ⟨xs ++ ys, by rw [hs]; simp [invoke], h1.append h2⟩
  · cases hr
  · rename_i t path f pr
    replace hr := of_cond_some hr
    obtain ⟨hp, hr⟩ := hr
    split at hr
    · rename_i u rest
      obtain ⟨x, zs, rfl, g1, g2⟩ := h1.cons_inv
      replace hr := of_bind hr
      obtain ⟨i, hi, hr⟩ := hr
      obtain ⟨ti, sp⟩ := hC.spec hi
      have hpath : path.toList = [] := by simpa using hp
      have hrun : (receiverAt t (.val x) pr none).run C.P w = .ok x w → r = .enter f (u :: rest) → ActOk C ρ h n w s r := by
        rintro hy rfl
        refine ⟨x :: zs, ?_, .cons g1 g2⟩
        rw [hs]
        have : (x :: zs).toArray.extract 1 (x :: zs).toArray.size = zs.toArray := by simp
        simp only [invoke, receiverVia, List.getElem?_toArray, List.getElem?_cons_zero, Sem.run_bind, hpath, follow, Sem.run_pure, Result.andThen_ok, hy, this]
        simp
      have hund := sp.run_und w
      generalize i.desc = d at hr hund
      cases d <;> cases pr <;> simp only [reduceCtorEq] at hr <;> cases hr <;> refine hrun ?_ rfl <;>
        simp only [receiverAt, Sem.run_bind, hund, Result.andThen_ok, Place.get, Sem.run_pure]
    · cases hr
  · cases hr

theorem act_run (hC : C.Ok) {ρ : Ren} {h : Heap} {w : World} (H : HRel ρ h w) {n : Nat} (hf : Fr ρ n) {ev : Operand → Option V} {σ : Operand → Value} {o : Oper} {r : Out}
    (hr : act C ev o h n = some r) (hev : ∀ x ∈ o.op.operands, ∀ u, ev x = some u → VRel ρ u (σ x)) : ActOk C ρ h n w (execOp σ o) r := by
  obtain ⟨dst, op, type, pos, after, guard⟩ := o
  have skip : ∀ {s : Sem Unit} {h' : Heap}, (∃ w', s.run C.P w = .ok () w' ∧ Evo ρ h n w ρ h' n w') → ActOk C ρ h n w (do s; pure .skip) (.val undefV h' n) := by
    rintro s h' ⟨w', h1, h2⟩
    exact ⟨undef, w', ρ, .inr ⟨by simp only [Sem.run_bind, h1, Result.andThen_ok, Sem.run_pure], rfl⟩, h2, .s _⟩
  have value : ∀ {s : Sem Value} {v : V} {h' : Heap} {n' : Nat}, (∃ y w' ρ', s.run C.P w = .ok y w' ∧ Evo ρ h n w ρ' h' n' w' ∧ VRel ρ' v y) →
      ActOk C ρ h n w (do pure (.value (← s))) (.val v h' n') := by
    rintro s v h' n' ⟨y, w', ρ', h1, h2, h3⟩
    exact ⟨y, w', ρ', .inl (by simp only [Sem.run_bind, h1, Result.andThen_ok, Sem.run_pure]), h2, h3⟩
  cases op with
  | store t a x =>
    simp only [act] at hr
    replace hr := of_bind hr
    obtain ⟨p, hp, hr⟩ := hr
    replace hr := of_bind hr
    obtain ⟨q, hq, hr⟩ := hr
    replace hr := of_bind hr
    obtain ⟨v, hv, hr⟩ := hr
    replace hr := of_bind hr
    obtain ⟨h', hs, hr⟩ := hr
    cases hr
    have e1 := hev a (by simp [Op.operands]) _ hp
    have e2 := hev x (by simp [Op.operands]) _ hv
    obtain ⟨c, sh, ex, g1, g2⟩ := asPtr_rel hq e1
    refine skip ?_
    obtain ⟨w', k1, k2⟩ := store_run hC H hs g1 e2 n
    refine ⟨w', ?_, k2⟩
    simp only [g2, Instr.storeAt, asAddr]
    exact k1
  | mapUpdate t m k x =>
    simp only [act] at hr
    replace hr := of_bind hr
    obtain ⟨mv, hm, hr⟩ := hr
    replace hr := of_bind hr
    obtain ⟨kv, hk, hr⟩ := hr
    replace hr := of_bind hr
    obtain ⟨xv, hx, hr⟩ := hr
    replace hr := of_bind hr
    obtain ⟨h', hs, hr⟩ := hr
    cases hr
    exact skip (mapUpdate_run hC H hs (hev m (by simp [Op.operands]) _ hm) (hev k (by simp [Op.operands]) _ hk) (hev x (by simp [Op.operands]) _ hx) n)
  | insert t m k x =>
    simp only [act] at hr
    replace hr := of_bind hr
    obtain ⟨mv, hm, hr⟩ := hr
    replace hr := of_bind hr
    obtain ⟨kv, hk, hr⟩ := hr
    replace hr := of_bind hr
    obtain ⟨xv, hx, hr⟩ := hr
    replace hr := of_bind hr
    obtain ⟨h', hs, hr⟩ := hr
    cases hr
    exact skip (mapUpdate_run hC H hs (hev m (by simp [Op.operands]) _ hm) (hev k (by simp [Op.operands]) _ hk) (hev x (by simp [Op.operands]) _ hx) n)
  | range t x =>
    simp only [act] at hr
    replace hr := of_bind hr
    obtain ⟨i, hi, hr⟩ := hr
    replace hr := of_bind hr
    obtain ⟨v, hv, hr⟩ := hr
    obtain ⟨u, h', n', y, w', ρ', rfl, k1, k2, k3⟩ := range_run hC H hi hr (hev x (by simp [Op.operands]) _ hv) (hf n (Nat.le_refl _))
    exact value ⟨y, w', ρ', k1, k2, k3⟩
  | next it isString =>
    simp only [act] at hr
    replace hr := of_bind hr
    obtain ⟨p, hp, hr⟩ := hr
    replace hr := of_bind hr
    obtain ⟨q, hq, hr⟩ := hr
    replace hr := of_cond_some hr
    obtain ⟨h0, hr⟩ := hr
    obtain ⟨c, sh, ex, g1, g2⟩ := asPtr_rel hq (hev it (by simp [Op.operands]) _ hp)
    obtain ⟨u, h', y, w', rfl, k1, k2, k3⟩ := next_run hC H g1 (by simpa using h0) (t := type) hr
    refine value ⟨y, w', ρ, ?_, k2, k3⟩
    rw [g2]; exact k1
  | call c =>
    simp only [act] at hr
    replace hr := of_bind hr
    obtain ⟨args, ha, hr⟩ := hr
    have hargs : VRels ρ args (c.args.toList.map σ) := evs_rel ha (fun x hx u hu => hev x (by simp only [Op.operands, Call.operands, Array.mem_append]; exact .inr (Array.mem_def.2 hx)) u hu)
    have hmap : c.args.map σ = (c.args.toList.map σ).toArray := by rw [← Array.toList_map]
    generalize hxs : c.args.toList.map σ = xs at hargs hmap
    split at hr
    · rename_i f hc
      replace hr := of_bind hr
      obtain ⟨fv, hfv, hr⟩ := hr
      have e1 := hev f (by simp [Op.operands, Call.operands, hc]) _ hfv
      split at hr
      · rename_i fn first caps
        generalize hy : σ f = y at e1
        cases e1 with | @func _ _ _ ys zs g1 g2 =>
        refine callFn_run hC H hr (g1.append hargs) g2 ?_
        simp only [execOp, resolve, hc, hy, Deferred.ofValue, Sem.run_bind, Sem.run_pure, Result.andThen_ok, hmap]
        simp
      · rename_i l
        cases hr
        generalize hy : σ f = y at e1
        cases e1 with | @yield _ c' sh ex g1 =>
        refine ⟨c', sh, ex, xs, g1, ?_, hargs⟩
        simp only [execOp, resolve, hc, hy, Deferred.ofValue, Sem.run_bind, Sem.run_pure, Result.andThen_ok, hmap, invoke]
        simp
      · cases hr
    · rename_i recv m hc
      replace hr := of_bind hr
      obtain ⟨rv, hrv, hr⟩ := hr
      have e1 := hev recv (by simp [Op.operands, Call.operands, hc]) _ hrv
      split at hr
      · rename_i t x
        replace hr := of_bind hr
        obtain ⟨q, hq, hr⟩ := hr
        cases hr
        generalize hy : σ recv = y at e1
        cases e1 with | @iface _ _ x' g =>
        obtain ⟨y, k1, k2⟩ := methodOf_run hC hq g w (C.P.types.size + Made.depth - 1)
        have hd : C.P.types.size + Made.depth - 1 + 1 = C.P.types.size + Made.depth := by simp [Made.depth]
        rw [hd] at k1
        refine ⟨y :: xs, ?_, .cons k2 hargs⟩
        simp only [execOp, resolve, hc, hy, Sem.run_bind, Sem.run_pure, Result.andThen_ok, hmap, invoke]
        simp [callMethod, k1]
      · cases hr
    · rename_i hc
      split at hr
      · replace hr := of_bind hr
        obtain ⟨t0, h0, hr⟩ := hr
        replace hr := of_bind hr
        obtain ⟨t1, h1, hr⟩ := hr
        replace hr := of_bind hr
        obtain ⟨q, hq, hr⟩ := hr
        cases hr
        obtain ⟨x, l1, rfl, g1, hargs⟩ := hargs.cons_inv
        obtain ⟨y, l2, rfl, g2, hargs⟩ := hargs.cons_inv
        cases hargs.nil_inv
        have := value (append_run hC H (rt := type) hq h0 h1 g1 g2 hf.fresh)
        simp only [execOp, resolve, hc, hmap]
        exact this
      · cases hr
    · rename_i hc
      split at hr
      · replace hr := of_bind hr
        obtain ⟨t0, h0, hr⟩ := hr
        replace hr := of_bind hr
        obtain ⟨q, hq, hr⟩ := hr
        cases hr
        obtain ⟨x, l1, rfl, g1, hargs⟩ := hargs.cons_inv
        obtain ⟨y, l2, rfl, g2, hargs⟩ := hargs.cons_inv
        cases hargs.nil_inv
        obtain ⟨z, w', k1, k2, k3⟩ := copy_run hC H (rt := type) hq h0 g1 g2 n
        have := value ⟨z, w', ρ, k1, k2, k3⟩
        simp only [execOp, resolve, hc, hmap]
        exact this
      · cases hr
    · rename_i hc
      split at hr
      · replace hr := of_bind hr
        obtain ⟨t0, h0, hr⟩ := hr
        replace hr := of_bind hr
        obtain ⟨h', hq, hr⟩ := hr
        cases hr
        obtain ⟨x, l1, rfl, g1, hargs⟩ := hargs.cons_inv
        obtain ⟨y, l2, rfl, g2, hargs⟩ := hargs.cons_inv
        cases hargs.nil_inv
        obtain ⟨w', k1, k2⟩ := mapDelete_run hC H (rt := type) hq h0 g1 g2 n
        have := value ⟨_, w', ρ, k1, k2, (.s _ : VRel ρ undefV (.tuple #[]))⟩
        simp only [execOp, resolve, hc, hmap]
        exact this
      · cases hr
    · cases hr
  | _ => simp [act] at hr

end Go.Ev
