/- The operations that read: as the model does them. -/
import Derived.Test.YtkcdhdilifolfaaGreatEvJ
namespace Go.Ev
variable {C : Ctx}

theorem evs_rel {ρ : Ren} {ev : Operand → Option V} {σ : Operand → Value} : ∀ {l : List Operand} {vs : List V}, evs ev l = some vs → (∀ x ∈ l, ∀ u, ev x = some u → VRel ρ u (σ x)) → VRels ρ vs (l.map σ)
  | [], vs, h, _ => by simp [evs] at h; subst h; exact .nil
  | x :: l, vs, h, hev => by
    simp only [evs] at h
    replace h := of_bind h
    obtain ⟨v, hv, h⟩ := h
    replace h := of_bind h
    obtain ⟨us, hu, h⟩ := h
    cases h
    exact .cons (hev x (by simp) v hv) (evs_rel hu (fun y hy => hev y (by simp [hy])))
theorem evp_rel {ρ : Ren} {ev : Operand → Option V} {σ : Operand → Value} : ∀ {l : List (Nat × Operand)} {vs : List (Nat × V)}, evp ev l = some vs → (∀ p ∈ l, ∀ u, ev p.2 = some u → VRel ρ u (σ p.2)) →
    NRels ρ vs (l.map fun (i, x) => (i, σ x))
  | [], vs, h, _ => by simp [evp] at h; subst h; exact .nil
  | (i, x) :: l, vs, h, hev => by
    simp only [evp] at h
    replace h := of_bind h
    obtain ⟨v, hv, h⟩ := h
    replace h := of_bind h
    obtain ⟨us, hu, h⟩ := h
    cases h
    exact .cons (hev (i, x) (by simp) v hv) (evp_rel hu (fun y hy => hev y (by simp [hy])))
theorem evo_rel {ρ : Ren} {ev : Operand → Option V} {σ : Operand → Value} {o : Option Operand} {v : Option V} (h : evo ev o = some v) (hev : ∀ x, o = some x → ∀ u, ev x = some u → VRel ρ u (σ x)) :
    OptRel ρ v (o.map σ) := by
  cases o with
  | none => simp [evo] at h; subst h; exact .none
  | some x =>
    simp only [evo] at h
    replace h := of_bind h
    obtain ⟨u, hu, h⟩ := h
    cases h
    exact .some (hev x rfl u hu)
theorem scalars_rel {ρ : Ren} : ∀ {l : List V} {vs : List Value} {xs : List Value}, scalars l = some vs → VRels ρ l xs → xs = vs
  | [], vs, xs, h, hr => by simp [scalars] at h; subst h; exact hr.nil_inv
  | v :: l, vs, xs, h, hr => by
    obtain ⟨y, ys, rfl, h1, h2⟩ := hr.cons_inv
    unfold scalars at h
    split at h
    · rename_i e; cases e
    · rename_i a l' e
      cases e
      replace h := of_bind h
      obtain ⟨us, hu, h⟩ := h
      cases h
      cases h1
      rw [scalars_rel hu h2]
    · cases h

theorem rd_run (hC : C.Ok) {ρ : Ren} {h : Heap} {w : World} (H : HRel ρ h w) {ev : Operand → Option V} {σ : Operand → Value} {o : Oper} {v : V} (hr : rd C ev o h = some v)
    (hev : ∀ x ∈ o.op.operands, ∀ u, ev x = some u → VRel ρ u (σ x)) : ∃ y, (execOp σ o).run C.P w = .ok (.value y) w ∧ VRel ρ v y := by
  obtain ⟨dst, op, type, pos, after, guard⟩ := o
  have lift : ∀ {s : Sem Value}, (∃ y, s.run C.P w = .ok y w ∧ VRel ρ v y) → ∃ y, (do pure (.value (← s)) : Sem Next).run C.P w = .ok (.value y) w ∧ VRel ρ v y := by
    rintro s ⟨y, h1, h2⟩
    exact ⟨y, by simp only [Sem.run_bind, h1, Result.andThen_ok, Sem.run_pure], h2⟩
  cases op with
  | move x => exact ⟨σ x, rfl, hev x (by simp [Op.operands]) v hr⟩
  | assign x => exact ⟨σ x, rfl, hev x (by simp [Op.operands]) v hr⟩
  | pick c a b =>
    simp only [rd] at hr
    replace hr := of_bind hr
    obtain ⟨cv, hc, hr⟩ := hr
    replace hr := of_bind hr
    obtain ⟨t, ht, hr⟩ := hr
    have := asBool_rel ht (hev c (by simp [Op.operands]) cv hc)
    simp only [execOp, this, Go.asBool]
    cases t
    · exact ⟨σ b, by simp, hev b (by simp [Op.operands]) v hr⟩
    · exact ⟨σ a, by simp, hev a (by simp [Op.operands]) v hr⟩
  | build t ps =>
    simp only [rd] at hr
    replace hr := of_bind hr
    obtain ⟨vs, hvs, hr⟩ := hr
    have hn := evp_rel (σ := σ) hvs (fun p hp u hu => hev p.2 (by simp only [Op.operands]; rw [List.mem_toArray]; exact List.mem_map.2 ⟨p, hp, rfl⟩) u hu)
    exact lift (build_run hC hr (ps := ps.map fun (i, x) => (i, σ x)) (by simpa using hn) w)
  | load t a =>
    simp only [rd] at hr
    replace hr := of_bind hr
    obtain ⟨u, hu, hr⟩ := hr
    replace hr := of_bind hr
    obtain ⟨p, hp, hr⟩ := hr
    obtain ⟨c, sh, ex, h1, h2⟩ := asPtr_rel hp (hev a (by simp [Op.operands]) u hu)
    obtain ⟨y, l1, l2, _⟩ := load_run hC H hr h1
    exact lift ⟨y, by simp only [h2, Instr.loadAt, Instr.sureAddr, Sem.run_bind, Sem.run_pure, Result.andThen_ok, l1], l2⟩
  | nilCheck x =>
    simp only [rd] at hr
    replace hr := of_bind hr
    obtain ⟨u, hu, hr⟩ := hr
    have hx := hev x (by simp [Op.operands]) u hu
    generalize hy : σ x = y at hx
    split at hr <;> cases hr
    · cases hx with | ptr h1 => exact ⟨_, by simp [execOp, hy], .ptr h1⟩
    · cases hx with | func h1 h2 => exact ⟨_, by simp [execOp, hy], .func h1 h2⟩
    · cases hx with | iface h1 => exact ⟨_, by simp [execOp, hy], .iface h1⟩
  | binOp op xt x y yt =>
    simp only [rd] at hr
    replace hr := of_bind hr
    obtain ⟨a, ha, hr⟩ := hr
    replace hr := of_bind hr
    obtain ⟨b, hb, hr⟩ := hr
    exact lift (binop_run hC hr (hev x (by simp [Op.operands]) a ha) (hev y (by simp [Op.operands]) b hb) w)
  | unOp op xt x =>
    simp only [rd] at hr
    replace hr := of_bind hr
    obtain ⟨u, hu, hr⟩ := hr
    have hx := hev x (by simp [Op.operands]) u hu
    generalize hy : σ x = y at hx
    split at hr
    · replace hr := of_bind hr
      obtain ⟨z, hz, hr⟩ := hr
      cases hr
      cases hx
      have := pure?_run hz w
      simp only [execOp, hy]
      exact lift ⟨z, this, .s _⟩
    · cases hr
  | convert src dst x =>
    simp only [rd] at hr
    replace hr := of_bind hr
    obtain ⟨u, hu, hr⟩ := hr
    exact lift (convert_run hC H hr (hev x (by simp [Op.operands]) u hu))
  | makeInterface t x =>
    simp only [rd] at hr
    replace hr := of_bind hr
    obtain ⟨u, hu, hr⟩ := hr
    replace hr := of_bind hr
    obtain ⟨i, hi, hr⟩ := hr
    obtain ⟨_, sp⟩ := hC.spec hi
    have hU := sp.und
    split at hr
    · cases hr
    · rename_i hno
      cases hr
      refine lift ⟨.iface t (σ x), ?_, .iface (hev x (by simp [Op.operands]) u hu)⟩
      cases hd : i.desc <;> rw [hd] at hU <;> first
        | exact (hno _ hd).elim
        | simp [Instr.makeInterface, run_underlying hU]
  | makeFunc fn first caps =>
    simp only [rd] at hr
    replace hr := of_bind hr
    obtain ⟨a, ha, hr⟩ := hr
    replace hr := of_bind hr
    obtain ⟨b, hb, hr⟩ := hr
    split at hr
    · cases hr
    · cases hr
      have h1 := evs_rel (σ := σ) ha (fun x hx u hu => hev x (by simp only [Op.operands]; exact Array.mem_append.2 (.inl (by simpa using hx))) u hu)
      have h2 := evs_rel (σ := σ) hb (fun x hx u hu => hev x (by simp only [Op.operands]; exact Array.mem_append.2 (.inr (by simpa using hx))) u hu)
      refine lift ⟨.func fn (first.map σ) (caps.map σ), rfl, ?_⟩
      have e : ∀ a : Array Operand, (a.toList.map σ).toArray = a.map σ := fun a => by rw [← Array.toList_inj]; simp
      have := VRel.func (fn := fn) h1 h2
      rw [e, e] at this
      exact this
  | slice t x lo hi mx =>
    simp only [rd] at hr
    replace hr := of_bind hr
    obtain ⟨u, hu, hr⟩ := hr
    replace hr := of_bind hr
    obtain ⟨l, hl, hr⟩ := hr
    replace hr := of_bind hr
    obtain ⟨hh, hhh, hr⟩ := hr
    replace hr := of_bind hr
    obtain ⟨m, hm, hr⟩ := hr
    have e1 := evo_rel (σ := σ) hl (fun y hy u hu => hev y (by subst hy; simp [Op.operands]) u hu)
    have e2 := evo_rel (σ := σ) hhh (fun y hy u hu => hev y (by subst hy; simp [Op.operands]) u hu)
    have e3 := evo_rel (σ := σ) hm (fun y hy u hu => hev y (by subst hy; simp [Op.operands]) u hu)
    exact lift (sliceOp_run hC hr (hev x (by simp [Op.operands]) u hu) e1 e2 e3 w)
  | fieldAddr st x f =>
    simp only [rd] at hr
    replace hr := of_bind hr
    obtain ⟨u, hu, hr⟩ := hr
    replace hr := of_bind hr
    obtain ⟨p, hp, hr⟩ := hr
    replace hr := of_bind hr
    obtain ⟨i, hi, hr⟩ := hr
    obtain ⟨c, sh, ex, h1, h2⟩ := asPtr_rel hp (hev x (by simp [Op.operands]) u hu)
    split at hr
    · rename_i fs hd
      replace hr := of_bind hr
      obtain ⟨q, hq, hr⟩ := hr
      obtain ⟨g, hr⟩ := of_cond_none hr
      cases hr
      simp only [beq_false_iff] at g
      have := fieldAddr_run hC hi hd hq g h1 w (off := p.2)
      exact lift ⟨_, by rw [h2]; exact this, .ptr h1⟩
    · cases hr
  | field st x f =>
    simp only [rd] at hr
    replace hr := of_bind hr
    obtain ⟨u, hu, hr⟩ := hr
    replace hr := of_bind hr
    obtain ⟨i, hi, hr⟩ := hr
    have hx := hev x (by simp [Op.operands]) u hu
    split at hr
    · rename_i fs cs hd
      replace hr := of_bind hr
      obtain ⟨q, hq, hr⟩ := hr
      exact lift (field_run hC hi hd hq hr hx w)
    · cases hr
  | indexAddr t x ix =>
    simp only [rd] at hr
    replace hr := of_bind hr
    obtain ⟨u, hu, hr⟩ := hr
    replace hr := of_bind hr
    obtain ⟨k, hk, hr⟩ := hr
    exact lift (indexAddr_run hC hr (hev x (by simp [Op.operands]) u hu) (hev ix (by simp [Op.operands]) k hk) w)
  | index t x ix =>
    simp only [rd] at hr
    replace hr := of_bind hr
    obtain ⟨u, hu, hr⟩ := hr
    replace hr := of_bind hr
    obtain ⟨k, hk, hr⟩ := hr
    exact lift (index_run hC hr (hev x (by simp [Op.operands]) u hu) (hev ix (by simp [Op.operands]) k hk) w)
  | lookup t x ix ok =>
    simp only [rd] at hr
    replace hr := of_bind hr
    obtain ⟨u, hu, hr⟩ := hr
    replace hr := of_bind hr
    obtain ⟨k, hk, hr⟩ := hr
    exact lift (lookup_run hC H hr (hev x (by simp [Op.operands]) u hu) (hev ix (by simp [Op.operands]) k hk))
  | extract t i =>
    simp only [rd] at hr
    replace hr := of_bind hr
    obtain ⟨u, hu, hr⟩ := hr
    have hx := hev t (by simp [Op.operands]) u hu
    split at hr
    · generalize hy : σ t = y at hx
      cases hx with | tup hs =>
      obtain ⟨y, h1, h2⟩ := hs.get hr
      refine lift ⟨y, ?_, h2⟩
      simp [Instr.extract, hy, h1]
    · cases hr
  | typeAssert x xt a ok =>
    simp only [rd] at hr
    replace hr := of_bind hr
    obtain ⟨u, hu, hr⟩ := hr
    exact lift (typeAssert_run hC hr (hev x (by simp [Op.operands]) u hu) w)
  | call c =>
    obtain ⟨callee, cargs, cats⟩ := c
    simp only [rd] at hr
    replace hr := of_bind hr
    obtain ⟨args, ha, hr⟩ := hr
    have hargs := evs_rel (σ := σ) ha (fun x hx u hu => hev x (by simp only [Op.operands, Call.operands]; exact Array.mem_append.2 (.inr (by simpa using hx))) u hu)
    have run : ∀ (b : Builtin) (s : Array Value → Sem Value), callee = .builtin b → (∀ consts as, Go.builtin b cats type consts as = (do pure (.value (← s as)) : Sem Next)) →
        (∃ y, (s (cargs.map σ)).run C.P w = .ok y w ∧ VRel ρ v y) → ∃ y, (execOp σ ⟨dst, .call ⟨callee, cargs, cats⟩, type, pos, after, guard⟩).run C.P w = .ok (.value y) w ∧ VRel ρ v y := by
      rintro b s rfl hb ⟨y, h1, h2⟩
      refine ⟨y, ?_, h2⟩
      simp only [execOp, resolve, invoke, Sem.run_bind, Sem.run_pure, Result.andThen_ok, hb, h1]
    have sc : ∀ (b : Builtin) (s : Array Value → Sem Value), callee = .builtin b → (∀ consts as, Go.builtin b cats type consts as = (do pure (.value (← s as)) : Sem Next)) →
        ((scalars args).bind fun ys => (pure? C.P (s ys.toArray)).bind fun v => some (V.s v)) = some v →
        ∃ y, (execOp σ ⟨dst, .call ⟨callee, cargs, cats⟩, type, pos, after, guard⟩).run C.P w = .ok (.value y) w ∧ VRel ρ v y := by
      intro b s hc hb h
      replace h := of_bind h
      obtain ⟨ys, hys, h⟩ := h
      replace h := of_bind h
      obtain ⟨z, hz, h⟩ := h
      cases h
      have e := scalars_rel hys hargs
      refine run b s hc hb ⟨z, ?_, .s _⟩
      have : cargs.map σ = ys.toArray := by rw [← e, ← Array.toList_inj]; simp
      rw [this]
      exact pure?_run hz w
    split at hr
    · rename_i x
      replace hr := of_bind hr
      obtain ⟨t, ht, hr⟩ := hr
      obtain ⟨y, ys, e, h1, h2⟩ := hargs.cons_inv
      have e2 := h2.nil_inv
      subst e2
      have : cargs.map σ = #[y] := by rw [← Array.toList_inj]; simpa using e
      exact run .len (fun as => Builtin.len_ cats type as) rfl (fun _ _ => rfl) (by rw [this]; exact lenV_run hC H hr ht h1)
    · rename_i x
      replace hr := of_bind hr
      obtain ⟨t, ht, hr⟩ := hr
      obtain ⟨y, ys, e, h1, h2⟩ := hargs.cons_inv
      have e2 := h2.nil_inv
      subst e2
      have : cargs.map σ = #[y] := by rw [← Array.toList_inj]; simpa using e
      exact run .cap (fun as => Builtin.cap_ cats type as) rfl (fun _ _ => rfl) (by rw [this]; exact capV_run hC hr ht h1)
    · exact sc .min (fun as => Builtin.min_ cats type as) rfl (fun _ _ => rfl) hr
    · exact sc .max (fun as => Builtin.max_ cats type as) rfl (fun _ _ => rfl) hr
    · exact sc .real (fun as => Builtin.real_ cats type as) rfl (fun _ _ => rfl) hr
    · exact sc .imag (fun as => Builtin.imag_ cats type as) rfl (fun _ _ => rfl) hr
    · exact sc .complex (fun as => Builtin.complex_ cats type as) rfl (fun _ _ => rfl) hr
    · cases hr
  | _ => cases hr

end Go.Ev
