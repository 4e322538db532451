/- Slices, indices, fields, maps that are read. -/
import Derived.Test.YtkcdhdilifolfaaGreatEvG
namespace Go.Ev
variable {C : Ctx}

/-- Perhaps a value. -/
inductive OptRel (ρ : Ren) : Option V → Option Value → Prop
  | none : OptRel ρ none none
  | some {v : V} {x : Value} (h : VRel ρ v x) : OptRel ρ (some v) (some x)

theorem asNat_rel {ρ : Ren} {v : V} {x : Value} {n : Nat} (h : asNat v = some n) (hv : VRel ρ v x) : ∃ k, x = .int k (n : Int) := by
  unfold asNat at h
  split at h
  · cases h; cases hv; exact ⟨_, rfl⟩
  · cases h
theorem asPtr_rel {ρ : Ren} {v : V} {x : Value} {p : Nat × Nat} (h : asPtr v = some p) (hv : VRel ρ v x) :
    ∃ c sh ex, ρ p.1 = some (c, sh, ex) ∧ x = .pointer (some ⟨c, p.2 + sh, none⟩) := by
  unfold asPtr at h
  split at h
  · cases h
    cases hv with | ptr h => exact ⟨_, _, _, h, rfl⟩
  · cases h
theorem asBool_rel {ρ : Ren} {v : V} {x : Value} {b : Bool} (h : asBool v = some b) (hv : VRel ρ v x) : x = .bool b := by
  unfold asBool at h
  split at h
  · cases h; cases hv; rfl
  · cases h

theorem run_sliceBound {P : Program} {k : IntKind} {n y : Nat} (h : n ≤ y) (code : BoundsCode) (w : World) : (Instr.sliceBound (.int k (n : Int)) y code).run P w = .ok n w := by
  simp only [Instr.sliceBound, asIntOf, Sem.run_bind, Sem.run_pure, Result.andThen_ok, Sem.run_ite]
  rw [if_pos (by omega)]
  simp

theorem bounds_run {ρ : Ren} {len cap cap' : Nat} {low high max : Option V} {l' h' m' : Option Value} {q : Nat × Nat × Nat} (hb : bounds len cap low high max = some q) (hcap : cap ≤ cap')
    (hlc : len ≤ cap) (h1 : OptRel ρ low l') (h2 : OptRel ρ high h') (h3 : OptRel ρ max m') {P : Program} (isS : Bool) (w : World) :
    ∃ m, (Instr.sliceBounds isS len cap' l' h' m').run P w = .ok (q.1, q.2.1, m) w ∧ q.1 ≤ q.2.1 ∧ q.2.1 ≤ q.2.2 ∧ q.2.2 ≤ cap ∧ (max.isSome = true → m = q.2.2) ∧ (max = none → m = cap' ∧ q.2.2 = cap) := by
  unfold bounds at hb
  obtain ⟨g, hb⟩ := of_cond_none hb
  replace hb := of_bind hb
  obtain ⟨m, hm, hb⟩ := hb
  replace hb := of_bind hb
  obtain ⟨hh, hhh, hb⟩ := hb
  replace hb := of_bind hb
  obtain ⟨l, hl, hb⟩ := hb
  cases hb
  have key : ∀ {v : Option V} {x : Option Value} {top d n : Nat}, bound v top d = some n → OptRel ρ v x →
      (v = none ∧ x = none ∧ n = d) ∨ (∃ k u, v = some u ∧ x = some (.int k (n : Int)) ∧ n ≤ top) := by
    intro v x top d n hb hr
    unfold bound at hb
    cases hr with
    | none => simp at hb; exact .inl ⟨rfl, rfl, hb.symm⟩
    | some hv =>
      replace hb := of_bind hb
      obtain ⟨a, ha, hb⟩ := hb
      obtain ⟨h1, hb⟩ := of_cond_some hb
      cases hb
      obtain ⟨k, rfl⟩ := asNat_rel ha hv
      exact .inr ⟨k, _, rfl, rfl, by simpa using h1⟩
  rcases key hm h3 with ⟨rfl, rfl, rfl⟩ | ⟨k3, u3, rfl, rfl, hm'⟩
  · rcases key hhh h2 with ⟨rfl, rfl, rfl⟩ | ⟨k2, u2, rfl, rfl, hh'⟩
    · rcases key hl h1 with ⟨rfl, rfl, rfl⟩ | ⟨k1, u1, rfl, rfl, hl'⟩
      · exact ⟨cap', by simp [Instr.sliceBounds], by simp, hlc, Nat.le_refl _, by simp, fun _ => ⟨rfl, rfl⟩⟩
      · exact ⟨cap', by simp [Instr.sliceBounds, run_sliceBound hl'], hl', hlc, Nat.le_refl _, by simp, fun _ => ⟨rfl, rfl⟩⟩
    · have hh2 : hh ≤ cap' := by omega
      rcases key hl h1 with ⟨rfl, rfl, rfl⟩ | ⟨k1, u1, rfl, rfl, hl'⟩
      · exact ⟨cap', by simp [Instr.sliceBounds, run_sliceBound hh2], by simp, hh', Nat.le_refl _, by simp, fun _ => ⟨rfl, rfl⟩⟩
      · exact ⟨cap', by simp [Instr.sliceBounds, run_sliceBound hl', run_sliceBound hh2], hl', hh', Nat.le_refl _, by simp, fun _ => ⟨rfl, rfl⟩⟩
  · have hm2 : m ≤ cap' := by omega
    rcases key hhh h2 with ⟨rfl, rfl, rfl⟩ | ⟨k2, u2, rfl, rfl, hh'⟩
    · simp at g
    · rcases key hl h1 with ⟨rfl, rfl, rfl⟩ | ⟨k1, u1, rfl, rfl, hl'⟩
      · exact ⟨m, by simp [Instr.sliceBounds, run_sliceBound hh', run_sliceBound hm2], by simp, hh', hm', by simp, by simp⟩
      · exact ⟨m, by simp [Instr.sliceBounds, run_sliceBound hl', run_sliceBound hh', run_sliceBound hm2], hl', hh', hm', by simp, by simp⟩

theorem VRel.cut {ρ : Ren} {b off len l h m sz c sh ex o mc : Nat} {op' : Bool} (hr : ρ b = some (c, sh, ex)) (h1 : l ≤ h) (h2 : h ≤ m) (hm : mc = m + xcap op' ex)
    (ho : mc ≠ 0 → o = off + sh) (hlen : len = h - l) :
    VRel ρ (.slice b (off + l * sz) (h - l) (m - l) op') (.slice (some (if mc = l then ⟨c, o, none⟩ else ⟨c, o + l * sz, none⟩)) len (mc - l)) := by
  subst hlen
  have e : mc - l = m - l + xcap op' ex := by omega
  rw [e]
  by_cases hc : mc = l
  · rw [if_pos hc]
    exact .slice hr (by omega) (fun h0 => by omega)
  · rw [if_neg hc]
    exact .slice hr (by omega) (fun h0 => by have := ho (by omega); omega)

theorem sliceOp_run (hC : C.Ok) {ρ : Ren} {t : TypeId} {u r : V} {low high max : Option V} (h : sliceOp C t u low high max = some r) {x : Value} {l' h' m' : Option Value}
    (hu : VRel ρ u x) (h1 : OptRel ρ low l') (h2 : OptRel ρ high h') (h3 : OptRel ρ max m') (w : World) :
    ∃ y, (Instr.sliceAt t x l' h' m').run C.P w = .ok y w ∧ VRel ρ r y := by
  unfold sliceOp at h
  replace h := of_bind h
  obtain ⟨i, hi, h⟩ := h
  obtain ⟨_, sp⟩ := hC.spec hi
  have hU := sp.und
  split at h
  · rename_i n e b off hd
    replace h := of_bind h
    obtain ⟨j, hj, h⟩ := h
    replace h := of_bind h
    obtain ⟨q, hq, h⟩ := h
    cases h
    obtain ⟨_, sj⟩ := hC.spec hj
    cases hu with | @ptr _ _ c sh ex hr =>
    obtain ⟨m, b1, b2, b3, b4, b5, b6⟩ := bounds_run hq (Nat.le_refl _) (Nat.le_refl _) h1 h2 h3 (P := C.P) false w
    have hm : m = q.2.2 := by
      cases max with
      | none => obtain ⟨a, b⟩ := b6 rfl; omega
      | some _ => exact b5 rfl
    rw [hd] at hU
    refine ⟨.slice (some (if m = q.1 then ⟨c, off + sh, none⟩ else ⟨c, off + sh + q.1 * j.size, none⟩)) (q.2.1 - q.1) (m - q.1), ?_, VRel.cut (op' := false) hr b2 b3 (by simp [xcap, hm]) (fun _ => rfl) rfl⟩
    simp only [Instr.sliceAt, Sem.run_bind, run_underlying hU, Result.andThen_ok, Instr.sureAddr, Sem.run_pure, b1, sj.run_size, addr_add]
  · rename_i e b off len cap op hd
    replace h := of_bind h
    obtain ⟨j, hj, h⟩ := h
    replace h := of_bind h
    obtain ⟨q, hq, h⟩ := h
    cases h
    obtain ⟨_, sj⟩ := hC.spec hj
    cases hu with | @slice _ _ _ _ c sh ex o _ hr hl ho =>
    obtain ⟨m, b1, b2, b3, b4, b5, b6⟩ := bounds_run (cap' := cap + xcap op ex) hq (by omega) hl h1 h2 h3 (P := C.P) true w
    have hm : m = q.2.2 + xcap (op && max.isNone) ex := by
      cases max with
      | none => obtain ⟨a, b⟩ := b6 rfl; simp; omega
      | some _ => simp [xcap, b5 rfl]
    have hm2 : m ≤ cap + xcap op ex := by
      cases max with
      | none => obtain ⟨a, b⟩ := b6 rfl; omega
      | some _ => have := b5 rfl; omega
    rw [hd] at hU
    refine ⟨.slice (some (if m = q.1 then ⟨c, o, none⟩ else ⟨c, o + q.1 * j.size, none⟩)) (q.2.1 - q.1) (m - q.1), ?_, VRel.cut hr b2 b3 hm (fun h0 => ho (by omega)) rfl⟩
    simp only [Instr.sliceAt, Instr.slice, Sem.run_bind, run_underlying hU, Result.andThen_ok, Sem.run_pure, b1, sj.run_size]
    split <;> simp [addr_add]
  · rename_i e hd
    replace h := of_bind h
    obtain ⟨j, hj, h⟩ := h
    replace h := of_bind h
    obtain ⟨q, hq, h⟩ := h
    cases h
    obtain ⟨_, sj⟩ := hC.spec hj
    cases hu
    obtain ⟨m, b1, b2, b3, b4, b5, b6⟩ := bounds_run hq (Nat.le_refl _) (Nat.le_refl _) h1 h2 h3 (P := C.P) true w
    have hm : m = 0 := by
      cases max with
      | none => obtain ⟨a, b⟩ := b6 rfl; omega
      | some _ => have := b5 rfl; omega
    subst hm
    have e1 : q.1 = 0 := by omega
    have e2 : q.2.1 = 0 := by omega
    rw [hd] at hU
    rw [e1, e2] at b1
    refine ⟨.slice none 0 0, ?_, .s _⟩
    simp [Instr.sliceAt, Instr.slice, run_underlying hU, b1, sj.run_size]
  · rename_i s hd
    obtain ⟨g, h⟩ := of_cond_none h
    replace h := of_bind h
    obtain ⟨q, hq, h⟩ := h
    cases h
    cases hu
    cases h3 with
    | some _ => simp at g
    | none =>
    obtain ⟨m, b1, b2, b3, b4, b5, b6⟩ := bounds_run hq (Nat.le_refl _) (Nat.le_refl _) h1 h2 .none (P := C.P) false w
    rw [hd] at hU
    refine ⟨.string (s.extract q.1 q.2.1), ?_, .s _⟩
    simp [Instr.sliceAt, Instr.slice, run_underlying hU, b1]
  · cases h

theorem indexAddr_run (hC : C.Ok) {ρ : Ren} {t : TypeId} {u k r : V} (h : indexAddr C t u k = some r) {x ix : Value} (hu : VRel ρ u x) (hk : VRel ρ k ix) (w : World) :
    ∃ y, (Instr.indexAt t x ix).run C.P w = .ok y w ∧ VRel ρ r y := by
  unfold indexAddr at h
  replace h := of_bind h
  obtain ⟨i, hi, h⟩ := h
  replace h := of_bind h
  obtain ⟨n, hn, h⟩ := h
  obtain ⟨_, sp⟩ := hC.spec hi
  have hU := sp.und
  obtain ⟨kk, rfl⟩ := asNat_rel hn hk
  split at h
  · rename_i len e b off hd
    replace h := of_bind h
    obtain ⟨j, hj, h⟩ := h
    obtain ⟨g, h⟩ := of_cond_some h
    cases h
    rw [blt_true_iff] at g
    obtain ⟨_, sj⟩ := hC.spec hj
    cases hu with | @ptr _ _ c sh ex hr =>
    rw [hd] at hU
    refine ⟨.pointer (some ⟨c, off + n * j.size + sh, none⟩), ?_, .ptr hr⟩
    have hlt : (0 : Int) ≤ (n : Int) ∧ (n : Int) < (len : Int) := by omega
    simp only [Instr.indexAt, asIntOf, Instr.sureAddr, Sem.run_bind, Sem.run_pure, Result.andThen_ok, run_underlying hU, hlt, and_self, if_true, sj.run_size, addr_add, Int.toNat_natCast]
    rw [show off + n * j.size + sh = off + sh + n * j.size from by omega]
  · rename_i e b off len cap op hd
    replace h := of_bind h
    obtain ⟨j, hj, h⟩ := h
    obtain ⟨g, h⟩ := of_cond_some h
    cases h
    rw [blt_true_iff] at g
    obtain ⟨_, sj⟩ := hC.spec hj
    cases hu with | @slice _ _ _ _ c sh ex o _ hr hl ho =>
    rw [hd] at hU
    have ho := ho (by omega)
    subst ho
    refine ⟨.pointer (some ⟨c, off + n * j.size + sh, none⟩), ?_, .ptr hr⟩
    have hlt : (0 : Int) ≤ (n : Int) ∧ (n : Int) < (len : Int) := by omega
    simp only [Instr.indexAt, asIntOf, Sem.run_bind, Sem.run_pure, Result.andThen_ok, run_underlying hU, hlt, and_self, if_true, sj.run_size, addr_add, Int.toNat_natCast]
    rw [show off + n * j.size + sh = off + sh + n * j.size from by omega]
  · cases h

theorem index_run (hC : C.Ok) {ρ : Ren} {t : TypeId} {u k r : V} (h : index C t u k = some r) {x ix : Value} (hu : VRel ρ u x) (hk : VRel ρ k ix) (w : World) :
    ∃ y, (Instr.index t x ix).run C.P w = .ok y w ∧ VRel ρ r y := by
  unfold index at h
  replace h := of_bind h
  obtain ⟨i, hi, h⟩ := h
  obtain ⟨_, sp⟩ := hC.spec hi
  have hU := sp.und
  split at h
  · rename_i len e cs hd
    replace h := of_bind h
    obtain ⟨n, hn, h⟩ := h
    replace h := of_bind h
    obtain ⟨j, hj, h⟩ := h
    obtain ⟨g, h⟩ := of_cond_some h
    rw [blt_true_iff] at g
    obtain ⟨_, sj⟩ := hC.spec hj
    obtain ⟨kk, rfl⟩ := asNat_rel hn hk
    cases hu with | agg ho hx hc =>
    obtain ⟨y, p1, p2, _⟩ := part_run hC hj h ho hx hc w
    rw [hd] at hU
    refine ⟨y, ?_, p2⟩
    have hlt : (0 : Int) ≤ (n : Int) ∧ (n : Int) < (len : Int) := by omega
    simp only [Instr.index, asIntOf, Sem.run_bind, Sem.run_pure, Result.andThen_ok, run_underlying hU, hlt, and_self, if_true, sj.run_size, Int.toNat_natCast, p1]
  · replace h := of_bind h
    obtain ⟨y, hy, h⟩ := h
    cases h
    cases hu; cases hk
    exact ⟨y, pure?_run hy w, .s _⟩
  · cases h

theorem placeOf_rel {fs : Array Field} {f : Nat} {q : Field × Ty} (h : placeOf C fs f = some q) : fs[f]? = some q.1 ∧ ty C q.1.type = some q.2 := by
  unfold placeOf at h
  replace h := of_bind h
  obtain ⟨x, h1, h⟩ := h
  replace h := of_bind h
  obtain ⟨i, h2, h⟩ := h
  cases h
  exact ⟨h1, h2⟩

theorem field_run (hC : C.Ok) {ρ : Ren} {t : TypeId} {i : Ty} {fs : Array Field} {f : Nat} {q : Field × Ty} {cs : Rope V} {r : V} (hi : ty C t = some i) (hd : i.desc = .struct fs)
    (hq : placeOf C fs f = some q) (h : part q.2 cs q.1.offset = some r) {x : Value} (hu : VRel ρ (.agg cs) x) (w : World) :
    ∃ y, (Instr.field t x f).run C.P w = .ok y w ∧ VRel ρ r y := by
  obtain ⟨_, sp⟩ := hC.spec hi
  have hU := sp.und
  rw [hd] at hU
  obtain ⟨h1, h2⟩ := placeOf_rel hq
  cases hu with | agg ho hx hc =>
  obtain ⟨y, p1, p2, _⟩ := part_run hC h2 h ho hx hc w
  exact ⟨y, by simp [Instr.field, run_underlying hU, h1, asAgg, p1], p2⟩

theorem fieldAddr_run (hC : C.Ok) {ρ : Ren} {t : TypeId} {i : Ty} {fs : Array Field} {f : Nat} {q : Field × Ty} (hi : ty C t = some i) (hd : i.desc = .struct fs)
    (hq : placeOf C fs f = some q) (hz : q.2.size ≠ 0) {b off c sh ex : Nat} (hr : ρ b = some (c, sh, ex)) (w : World) :
    (Instr.fieldAt t (.pointer (some ⟨c, off + sh, none⟩)) f).run C.P w = .ok (.pointer (some ⟨c, off + q.1.offset + sh, none⟩)) w := by
  obtain ⟨_, sp⟩ := hC.spec hi
  have hU := sp.und
  rw [hd] at hU
  obtain ⟨h1, h2⟩ := placeOf_rel hq
  obtain ⟨_, sj⟩ := hC.spec h2
  simp only [Instr.fieldAt, Sem.run_bind, run_underlying hU, Result.andThen_ok, h1, Instr.sureAddr, Sem.run_pure, fieldPlace, sj.run_size, Sem.run_ite]
  rw [if_neg hz]
  simp [show off + q.1.offset + sh = off + sh + q.1.offset from by omega]

end Go.Ev
