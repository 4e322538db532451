/- The operations that act by themselves. -/
import Derived.Test.YtkcdhdilifolfaaGreatEvL
namespace Go.Ev
variable {C : Ctx}

theorem ERels.append {ρ : Ren} : ∀ {es fs : List Ent} {ms ns : List MapEntry}, ERels ρ es ms → ERels ρ fs ns → ERels ρ (es ++ fs) (ms ++ ns)
  | _, _, _, _, .nil, k => k
  | _, _, _, _, .cons h hs, k => .cons h (ERels.append hs k)
theorem ERels.modifyAt {ρ : Ren} {k v : V} {x y : Value} (hk : VRel ρ k x) (hv : VRel ρ v y) {es : List Ent} {ms : List MapEntry} (h : ERels ρ es ms) :
    ∀ i, ERels ρ (modifyAt k v i es) (ms.modify i fun e => { e with key := x, val := y }) := by
  induction h with
  | nil => intro i; cases i <;> exact .nil
  | cons he hs ih =>
    intro i
    cases he with | mk h1 h2 =>
    cases i with
    | zero => exact .cons (.mk hk hv) hs
    | succ i => exact .cons (.mk h1 h2) (ih i)
theorem ERels.erase {ρ : Ren} {es : List Ent} {ms : List MapEntry} (h : ERels ρ es ms) : ∀ i, ERels ρ (es.eraseIdx i) (ms.eraseIdx i) := by
  induction h with
  | nil => intro i; exact .nil
  | cons he hs ih =>
    intro i
    cases i with
    | zero => exact hs
    | succ i => exact .cons he (ih i)

theorem run_setMap {P : Program} {w : World} {c : Nat} {x : Obj} (o : Obj) (h : w.heap[c]? = some x) (hx : ∀ a b d, x ≠ .cells a b d) :
    (Go.setObj c o).run P w = .ok () { w with heap := w.heap.setIfInBounds c o } := by
  simp only [Go.setObj, Sem.run, h]

theorem mapUpdate_run (hC : C.Ok) {ρ : Ren} {h h' : Heap} {w : World} (H : HRel ρ h w) {t : TypeId} {m k v : V} (hm : mapUpdate C h t m k v = some h') {x kx y : Value}
    (h1 : VRel ρ m x) (h2 : VRel ρ k kx) (h3 : VRel ρ v y) (n : Nat) : ∃ w', (Instr.mapUpdate t x kx y).run C.P w = .ok () w' ∧ Evo ρ h n w ρ h' n w' := by
  unfold mapUpdate at hm
  replace hm := of_bind hm
  obtain ⟨ke, hke, hm⟩ := hm
  obtain ⟨kt, u1, u2, u3⟩ := mapTy_rel hC hke
  split at hm
  · rename_i b
    replace hm := of_bind hm
    obtain ⟨c, hc, hm⟩ := hm
    replace hm := of_bind hm
    obtain ⟨r, hr, hm⟩ := hm
    cases h1 with | @map _ cc sh ex hρ =>
    obtain ⟨hg, hsh, ms, g1, g2⟩ := H.omap hc hρ
    have hfr := findKey_rel h2 g2 hr
    cases r with
    | none =>
      cases hm
      refine ⟨_, ?_, Evo.turn H n hg hρ rfl rfl (.map (ms := ms.toList ++ [⟨kx, y, c.2⟩]) hsh (g2.append (.cons (.mk h2 h3) .nil)))⟩
      simp only [Instr.mapUpdate, Sem.run_bind, run_underlying u1, Result.andThen_ok, run_getMap g1, run_checkKey u2 u3, run_findKey u2 hfr]
      rw [run_setMap _ g1 (by simp)]
      congr 3
      apply congrArg (fun l => Obj.map l (c.2 + 1))
      apply Array.toList_inj.1
      simp
    | some p =>
      obtain ⟨i, v0⟩ := p
      obtain ⟨e, f1, f2, f3, f4, f5, f6⟩ := hfr
      cases hm
      have f3' : ms[i]? = some e := by simpa using f3
      refine ⟨_, ?_, Evo.turn H n hg hρ rfl rfl (.map (ms := ms.toList.modify i fun e => { e with key := kx, val := y }) hsh (g2.modifyAt h2 h3 i))⟩
      have hstay : (Instr.keyThatStays kx kx).run C.P w = .ok kx w := by simp [Instr.keyThatStays, f6]
      simp only [Instr.mapUpdate, Sem.run_bind, run_underlying u1, Result.andThen_ok, run_getMap g1, run_checkKey u2 u3, run_findKey u2 f1, f3', Option.map_some, Option.getD_some, f4, hstay]
      rw [run_setMap _ g1 (by simp)]
      congr 3
      apply congrArg (fun l => Obj.map l c.2)
      apply Array.toList_inj.1
      simp
  · cases hm

theorem mapDelete_run (hC : C.Ok) {ρ : Ren} {h h' : Heap} {w : World} (H : HRel ρ h w) {ats : Array TypeId} {t rt : TypeId} {m k : V} (hm : mapDelete C h t m k = some h') (h0 : ats[0]? = some t) {x kx : Value}
    (h1 : VRel ρ m x) (h2 : VRel ρ k kx) (n : Nat) : ∃ w', (Builtin.delete_ ats rt #[x, kx]).run C.P w = .ok (.tuple #[]) w' ∧ Evo ρ h n w ρ h' n w' := by
  unfold mapDelete at hm
  replace hm := of_bind hm
  obtain ⟨ke, hke, hm⟩ := hm
  obtain ⟨kt, u1, u2, u3⟩ := mapTy_rel hC hke
  split at hm
  · cases hm
    cases h1
    refine ⟨w, ?_, .refl n H⟩
    simp [Builtin.delete_, h0, run_underlying u1, run_checkKey u2 u3]
  · rename_i b
    replace hm := of_bind hm
    obtain ⟨c, hc, hm⟩ := hm
    replace hm := of_bind hm
    obtain ⟨r, hr, hm⟩ := hm
    cases h1 with | @map _ cc sh ex hρ =>
    obtain ⟨hg, hsh, ms, g1, g2⟩ := H.omap hc hρ
    have hfr := findKey_rel h2 g2 hr
    cases r with
    | none =>
      cases hm
      refine ⟨_, ?_, Evo.turn H n hg hρ rfl rfl (.map (ms := ms.toList) hsh g2)⟩
      simp only [Builtin.delete_, h0, List.getElem?_toArray, List.getElem?_cons_zero, List.getElem?_cons_succ, Sem.run_bind, run_underlying u1, Result.andThen_ok, run_getMap g1, run_checkKey u2 u3, run_findKey u2 hfr]
      rw [run_setMap _ g1 (by simp)]
      simp
    | some p =>
      obtain ⟨i, v0⟩ := p
      obtain ⟨e, f1, f2, f3, f4, f5, f6⟩ := hfr
      cases hm
      refine ⟨_, ?_, Evo.turn H n hg hρ rfl rfl (.map (ms := ms.toList.eraseIdx i) hsh (g2.erase i))⟩
      simp only [Builtin.delete_, h0, List.getElem?_toArray, List.getElem?_cons_zero, List.getElem?_cons_succ, Sem.run_bind, run_underlying u1, Result.andThen_ok, run_getMap g1, run_checkKey u2 u3, run_findKey u2 f1]
      rw [run_setMap _ g1 (by simp)]
      simp only [Result.andThen_ok, Sem.run_pure]
      congr 3
      apply congrArg (fun l => Obj.map l c.2)
      apply Array.toList_inj.1
      simp
  · cases hm

theorem lenOf_run {ρ : Ren} {v : V} {m : Nat} (h : lenOf v = some m) {x : Value} (hv : VRel ρ v x) (w : World) : (Builtin.lenOf x).run C.P w = .ok m w := by
  unfold lenOf at h
  split at h <;> cases h <;> cases hv <;> rfl

theorem copy_run (hC : C.Ok) {ρ : Ren} {h : Heap} {w : World} (H : HRel ρ h w) {ats : Array TypeId} {t rt : TypeId} {d s : V} {r : V × Heap} (hc : copy C h t d s = some r) (h0 : ats[0]? = some t) {dx sx : Value}
    (h1 : VRel ρ d dx) (h2 : VRel ρ s sx) (n : Nat) : ∃ y w', (Builtin.copy_ ats rt #[dx, sx]).run C.P w = .ok y w' ∧ Evo ρ h n w ρ r.2 n w' ∧ VRel ρ r.1 y := by
  unfold copy at hc
  replace hc := of_bind hc
  obtain ⟨i, hi, hc⟩ := hc
  obtain ⟨_, sp⟩ := hC.spec hi
  have hU := sp.und
  split at hc
  · rename_i e hd
    replace hc := of_bind hc
    obtain ⟨j, hj, hc⟩ := hc
    replace hc := of_bind hc
    obtain ⟨a, ha, hc⟩ := hc
    obtain ⟨_, sj⟩ := hC.spec hj
    rw [hd] at hU
    have l1 := lenOf_run (C := C) ha h2 w
    split at hc
    · rename_i b off len cap op
      replace hc := of_bind hc
      obtain ⟨cs, hcs, hc⟩ := hc
      have hm : (bif Nat.ble a len then a else len) = Nat.min a len := by
        by_cases hab : a ≤ len
        · rw [show Nat.ble a len = true from by simpa]; simp [Nat.min_def, hab]
        · rw [show Nat.ble a len = false from by simpa using hab]; simp [Nat.min_def, hab]
      rw [hm] at hcs hc
      obtain ⟨ys, f1, f2, f3, f4, f5⟩ := firstCells_run (C := C) H hcs h2
      cases h1 with | @slice _ _ _ _ c sh ex o _ hr hl ho =>
      by_cases hz : cs.size = 0
      · rw [show Nat.beq cs.size 0 = true from by simpa using hz] at hc
        simp only [cond_true] at hc
        cases hc
        have e1 := f3.length
        rw [← Rope.size_eq f2, hz] at e1
        have : ys = [] := List.eq_nil_of_length_eq_zero e1.symm
        subst this
        refine ⟨.int .i64 (Nat.min a len), w, ?_, .refl n H, .s _⟩
        simp only [Builtin.copy_, h0, List.getElem?_toArray, List.getElem?_cons_zero, List.getElem?_cons_succ, Sem.run_bind, run_underlying hU, l1, sj.run_size, f1, Result.andThen_ok, Go.storeCells, Sem.run_pure, goInt]
      · rw [show Nat.beq cs.size 0 = false from by simpa using hz] at hc
        simp only [cond_false] at hc
        obtain ⟨g, hc⟩ := of_cond_none hc
        simp only [beq_false_iff] at g
        replace hc := of_bind hc
        obtain ⟨h', hst, hc⟩ := hc
        cases hc
        have ho := ho (by have : Nat.min a len ≤ len := Nat.min_le_right _ _; omega)
        subst ho
        obtain ⟨w', s1, s2⟩ := storeCells_run (C := C) H hst hr f2 f3 f4 n
        refine ⟨.int .i64 (Nat.min a len), w', ?_, s2, .s _⟩
        simp only [Builtin.copy_, h0, List.getElem?_toArray, List.getElem?_cons_zero, List.getElem?_cons_succ, Sem.run_bind, run_underlying hU, l1, sj.run_size, f1, s1, Result.andThen_ok, Sem.run_pure, goInt]
    · replace hc := of_bind hc
      obtain ⟨cs, hcs, hc⟩ := hc
      cases hc
      obtain ⟨ys, f1, f2, f3, f4, f5⟩ := firstCells_run (C := C) H hcs h2
      cases h1
      refine ⟨.int .i64 0, w, ?_, .refl n H, .s _⟩
      have hm : Nat.min a 0 = 0 := Nat.min_eq_right (Nat.zero_le _)
      simp only [Builtin.copy_, h0, List.getElem?_toArray, List.getElem?_cons_zero, List.getElem?_cons_succ, Sem.run_bind, run_underlying hU, l1, sj.run_size, hm, f1, Result.andThen_ok, Sem.run_pure, goInt]
      rfl
    · cases hc
  · cases hc

end Go.Ev
