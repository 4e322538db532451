/- Maps that are read, type assertions, lengths, conversions, aggregates that are built. -/
import Derived.Test.YtkcdhdilifolfaaGreatEvH
namespace Go.Ev
variable {C : Ctx}

theorem bytes_beq {a b : ByteArray} : (a == b) = true ↔ a = b := by
  obtain ⟨⟨x⟩⟩ := a
  obtain ⟨⟨y⟩⟩ := b
  show ((⟨x⟩ : Array UInt8) == ⟨y⟩) = true ↔ _
  simp

/-! ### Keys -/
theorem keyNow_rel {ρ : Ren} {d : TypeDesc} {k k' : V} {b : Bool} (h : keyNow d k k' = some b) {x x' : Value} (hx : VRel ρ k x) (hx' : VRel ρ k' x') :
    Instr.sameNow d x x' = some b ∧ (b = true → x = x') ∧ (∀ n, Instr.sameBits n x x = true) := by
  unfold keyNow at h
  split at h
  · obtain ⟨h1, h⟩ := of_cond_some h
    cases h
    cases hx; cases hx'
    rw [kindEq_iff] at h1
    subst h1
    refine ⟨by simp [Instr.sameNow, intEq_eq], fun e => ?_, fun n => by cases n <;> simp [Instr.sameBits]⟩
    rw [intEq_eq] at e
    simp at e; rw [e]
  · cases h
    cases hx; cases hx'
    exact ⟨rfl, fun e => by rw [bytes_beq.1 e], fun n => by cases n <;> simp [Instr.sameBits, bytes_beq.2 rfl]⟩
  · cases h
    cases hx; cases hx'
    exact ⟨rfl, fun e => by rw [eq_of_beq e], fun n => by cases n <;> simp [Instr.sameBits]⟩
  · cases h

theorem findKey_rel {ρ : Ren} {d : TypeDesc} {k : V} {x : Value} (hk : VRel ρ k x) {es : List Ent} {ms : List MapEntry} (he : ERels ρ es ms) : ∀ {i : Nat} {r : Option (Nat × V)}, findKey d k es i = some r →
    match r with
    | none => Instr.findNow d x ms i = some none
    | some (j, v) => ∃ m, Instr.findNow d x ms i = some (some (j, m.val)) ∧ i ≤ j ∧ ms[j - i]? = some m ∧ m.key = x ∧ VRel ρ v m.val ∧ (∀ n, Instr.sameBits n x x = true) := by
  induction he with
  | nil => intro i r h; simp [findKey] at h; subst h; rfl
  | cons he hs ih =>
    intro i r h
    simp only [findKey] at h
    replace h := of_bind h
    obtain ⟨b, hb, h⟩ := h
    cases he with | @mk k' v n x' y hk' hv =>
    obtain ⟨h1, h2, h3⟩ := keyNow_rel hb hk hk'
    cases b with
    | true =>
      simp only [cond_true] at h
      cases h
      have := h2 rfl
      subst this
      exact ⟨⟨x, y, n⟩, by simp [Instr.findNow, h1], Nat.le_refl _, by simp, rfl, hv, h3⟩
    | false =>
      simp only [cond_false] at h
      have ih := ih h
      cases r with
      | none => simpa [Instr.findNow, h1] using ih
      | some q =>
        obtain ⟨j, u⟩ := q
        obtain ⟨m', g1, g2, g3, g4⟩ := ih
        refine ⟨m', by simpa [Instr.findNow, h1] using g1, by omega, ?_, g4⟩
        rw [show j - i = j - (i + 1) + 1 from by omega]
        simpa using g3

theorem mapTy_rel (hC : C.Ok) {t : TypeId} {q : TypeDesc × TypeId} (h : mapTy C t = some q) :
    ∃ k, C.P.underlying t = some (.map k q.2) ∧ C.P.underlying k = some q.1 ∧ plainKey q.1 = true := by
  unfold mapTy at h
  replace h := of_bind h
  obtain ⟨i, hi, h⟩ := h
  obtain ⟨_, sp⟩ := hC.spec hi
  have hU := sp.und
  split at h
  · rename_i k e hd
    replace h := of_bind h
    obtain ⟨j, hj, h⟩ := h
    obtain ⟨h1, h⟩ := of_cond_some h
    cases h
    obtain ⟨_, sj⟩ := hC.spec hj
    rw [hd] at hU
    exact ⟨k, hU, sj.und, h1⟩
  · cases h

theorem run_checkKey {P : Program} {k : TypeId} {d : TypeDesc} (hu : P.underlying k = some d) (hp : plainKey d = true) (e : Bool) (x : Value) (w : World) :
    (Instr.checkKey e 10000 k x).run P w = .ok () w := by
  have h : ∀ n, (Instr.checkKey e (n + 1) k x).run P w = .ok () w := by
    intro n
    cases d <;> simp [plainKey] at hp <;> simp [Instr.checkKey, run_underlying hu]
  exact h 9999

theorem run_findKey {P : Program} {k : TypeId} {d : TypeDesc} (hu : P.underlying k = some d) {x : Value} {ms : List MapEntry} {r : Option (Nat × Value)} (h : Instr.findNow d x ms 0 = some r) (w : World) :
    (Instr.findKey k x ms).run P w = .ok r w := by
  simp [Instr.findKey, run_underlying hu, h]

theorem HRel.map {ρ : Ren} {h : Heap} {w : World} (H : HRel ρ h w) {b : Nat} {q : List Ent × Nat} (hm : mapAt h (.map b) = some q) {c sh ex : Nat} (hr : ρ b = some (c, sh, ex)) :
    sh = 0 ∧ ∃ ms, w.heap[c]? = some (.map ms q.2) ∧ ERels ρ q.1 ms.toList := by
  unfold mapAt at hm
  simp only at hm
  split at hm
  · rename_i es cl hg
    cases hm
    obtain ⟨x, h1, h2⟩ := H.at hg hr
    cases h2 with
    | map hs he => exact ⟨hs, _, h1, by simpa using he⟩
  · rename_i es cl hg
    cases hm
    obtain ⟨x, h1, h2⟩ := H.at hg hr
    cases h2 with
    | roMap hs he => exact ⟨hs, _, h1, by simpa using he⟩
  · cases hm
theorem HRel.omap {ρ : Ren} {h : Heap} {w : World} (H : HRel ρ h w) {b : Nat} {q : List Ent × Nat} (hm : mapOwn h b = some q) {c sh ex : Nat} (hr : ρ b = some (c, sh, ex)) :
    h.get b = some (.map q.1 q.2) ∧ sh = 0 ∧ ∃ ms, w.heap[c]? = some (.map ms q.2) ∧ ERels ρ q.1 ms.toList := by
  unfold mapOwn at hm
  split at hm
  · rename_i es cl hg
    cases hm
    obtain ⟨x, h1, h2⟩ := H.at hg hr
    cases h2 with
    | map hs he => exact ⟨hg, hs, _, h1, by simpa using he⟩
  · cases hm

theorem run_getMap {P : Program} {w : World} {c : Nat} {ms : Array MapEntry} {cl : Nat} (h : w.heap[c]? = some (.map ms cl)) : (Go.getObj c).run P w = .ok (.map ms cl) w := by
  simp [Go.getObj, Sem.run, h]

theorem lookup_run (hC : C.Ok) {ρ : Ren} {h : Heap} {w : World} (H : HRel ρ h w) {t : TypeId} {m k r : V} {ok : Bool} (hl : lookup C h t m k ok = some r) {x kx : Value}
    (hm : VRel ρ m x) (hk : VRel ρ k kx) : ∃ y, (Instr.lookup t x kx ok).run C.P w = .ok y w ∧ VRel ρ r y := by
  unfold lookup at hl
  replace hl := of_bind hl
  obtain ⟨ke, hke, hl⟩ := hl
  replace hl := of_bind hl
  obtain ⟨q, hq, hl⟩ := hl
  replace hl := of_bind hl
  obtain ⟨f, hf, hl⟩ := hl
  obtain ⟨kt, u1, u2, u3⟩ := mapTy_rel hC hke
  have key : ∀ (ms : Array MapEntry), ERels ρ q.1 ms.toList → ∀ w' : World, (∃ y, (Go.zeroValue ke.2).run C.P w' = .ok y w' ∧ (Instr.findKey kt kx ms.toList).run C.P w' = .ok none w' ∧
        VRel ρ r (if ok then .tuple #[y, .bool false] else y)) ∨
      ∃ j y, (Instr.findKey kt kx ms.toList).run C.P w' = .ok (some (j, y)) w' ∧ VRel ρ r (if ok then .tuple #[y, .bool true] else y) := by
    intro ms he w'
    have hfr := findKey_rel hk he hf
    cases f with
    | none =>
      try simp only at hfr hl
      replace hl := of_bind hl
      obtain ⟨i, hi, hl⟩ := hl
      replace hl := of_bind hl
      obtain ⟨z, hz, hl⟩ := hl
      obtain ⟨_, sp⟩ := hC.spec hi
      obtain ⟨y, z1, z2, _⟩ := sp.run_zero hz ρ w'
      refine .inl ⟨y, z1, run_findKey u2 hfr w', ?_⟩
      cases ok
      · simp at hl; subst hl; simpa using z2
      · simp at hl; subst hl
        simpa using VRel.tup (.cons z2 (.cons (.s (.bool false)) .nil))
    | some p =>
      obtain ⟨j, v⟩ := p
      obtain ⟨e, g1, g2, g3, g4, g5, g6⟩ := hfr
      simp only at hl
      refine .inr ⟨j, e.val, run_findKey u2 g1 w', ?_⟩
      cases ok
      · simp at hl; subst hl; simpa using g5
      · simp at hl; subst hl
        simpa using VRel.tup (.cons g5 (.cons (.s (.bool true)) .nil))
  cases m with
  | s a =>
    simp only [mapAt] at hq
    cases hm
    cases x <;> try (simp at hq; done)
    rename_i a
    cases a <;> try (simp at hq; done)
    simp at hq
    subst hq
    rcases key #[] .nil w with ⟨y, z1, z2, z3⟩ | ⟨j, y, z1, z2⟩
    · exact ⟨_, by simp only [Instr.lookup, Sem.run_bind, run_underlying u1, Result.andThen_ok, Sem.run_pure, run_checkKey u2 u3, z2, z1], z3⟩
    · exact ⟨_, by simp only [Instr.lookup, Sem.run_bind, run_underlying u1, Result.andThen_ok, Sem.run_pure, run_checkKey u2 u3, z1], z2⟩
  | map b =>
    cases hm with | map hr =>
    obtain ⟨_, ms, g1, g2⟩ := H.map hq hr
    rcases key ms g2 w with ⟨y, z1, z2, z3⟩ | ⟨j, y, z1, z2⟩
    · exact ⟨_, by simp only [Instr.lookup, Sem.run_bind, run_underlying u1, Result.andThen_ok, run_getMap g1, Sem.run_pure, run_checkKey u2 u3, z2, z1], z3⟩
    · exact ⟨_, by simp only [Instr.lookup, Sem.run_bind, run_underlying u1, Result.andThen_ok, run_getMap g1, Sem.run_pure, run_checkKey u2 u3, z1], z2⟩
  | _ => simp [mapAt] at hq

/-! ### Type assertions -/
theorem typeAssert_run (hC : C.Ok) {ρ : Ren} {v r : V} {xt asserted : TypeId} {ok : Bool} (h : typeAssert C v asserted ok = some r) {x : Value} (hv : VRel ρ v x) (w : World) :
    ∃ y, (Instr.typeAssert x xt asserted ok).run C.P w = .ok y w ∧ VRel ρ r y := by
  unfold typeAssert at h
  replace h := of_bind h
  obtain ⟨i, hi, h⟩ := h
  obtain ⟨_, sp⟩ := hC.spec hi
  have hU := sp.und
  have hfail : (bif ok then i.zero.bind fun z => some (V.tup [z, .s (.bool false)]) else none) = some r →
      ok = true ∧ ∃ y, (Go.zeroValue asserted).run C.P w = .ok y w ∧ VRel ρ r (.tuple #[y, .bool false]) := by
    intro hf
    obtain ⟨h1, hf⟩ := of_cond_some hf
    replace hf := of_bind hf
    obtain ⟨z, hz, hf⟩ := hf
    cases hf
    obtain ⟨y, z1, z2, _⟩ := sp.run_zero hz ρ w
    exact ⟨h1, y, z1, by simpa using VRel.tup (.cons z2 (.cons (.s (.bool false)) .nil))⟩
  have hhold : ∀ (u : V) (y : Value), VRel ρ u y → some (bif ok then V.tup [u, .s (.bool true)] else u) = some r → VRel ρ r (if ok then .tuple #[y, .bool true] else y) := by
    intro u y hu hr
    cases ok
    · simp at hr; subst hr; simpa using hu
    · simp at hr; subst hr
      simpa using VRel.tup (.cons hu (.cons (.s (.bool true)) .nil))
  simp only at h
  split at h
  · rename_i ms hd
    obtain ⟨rfl, y, z1, z2⟩ := hfail h
    cases hv
    rw [hd] at hU
    exact ⟨_, by simp [Instr.typeAssert, run_underlying hU, z1], z2⟩
  · rename_i want t u hd
    replace h := of_bind h
    obtain ⟨j, hj, h⟩ := h
    obtain ⟨xj, sj⟩ := hC.spec hj
    have hmeth : j.methods.toArray = xj.methods := by rw [sj.methods]
    rw [hmeth] at h
    rw [hd] at hU
    have hvv := hv
    cases hv with | iface hu =>
    split at h
    · rename_i hmm
      refine ⟨_, ?_, hhold _ _ hvv h⟩
      simp [Instr.typeAssert, run_underlying hU, sj.run_info, hmm]
    · rename_i m hmm
      obtain ⟨rfl, y, z1, z2⟩ := hfail h
      exact ⟨_, by simp [Instr.typeAssert, run_underlying hU, sj.run_info, hmm, z1], z2⟩
  · rename_i hno
    obtain ⟨rfl, y, z1, z2⟩ := hfail h
    cases hv
    refine ⟨_, ?_, z2⟩
    have : ∀ ms, i.desc ≠ .interface ms := fun ms e => hno ms e
    cases hd : i.desc <;> rw [hd] at hU <;> first
      | exact (this _ hd).elim
      | simp [Instr.typeAssert, run_underlying hU, z1]
  · rename_i t u hno
    have this : ∀ ms, i.desc ≠ .interface ms := fun ms e => hno ms e
    cases hv with | iface hu =>
    by_cases e : t = asserted
    · subst e
      rw [show Nat.beq t t = true from by simp] at h
      refine ⟨_, ?_, hhold _ _ hu h⟩
      cases hd : i.desc <;> rw [hd] at hU <;> first
        | exact (this _ hd).elim
        | simp [Instr.typeAssert, run_underlying hU]
    · rw [show Nat.beq t asserted = false from by simpa using e] at h
      obtain ⟨rfl, y, z1, z2⟩ := hfail h
      refine ⟨_, ?_, z2⟩
      cases hd : i.desc <;> rw [hd] at hU <;> first
        | exact (this _ hd).elim
        | simp [Instr.typeAssert, run_underlying hU, e, z1]
  · cases h

/-! ### Lengths -/
theorem lenV_run (hC : C.Ok) {ρ : Ren} {h : Heap} {w : World} (H : HRel ρ h w) {ats : Array TypeId} {t rt : TypeId} {v r : V} (hl : lenV C h t v = some r) (h0 : ats[0]? = some t) {x : Value} (hv : VRel ρ v x) :
    ∃ y, (Builtin.len_ ats rt #[x]).run C.P w = .ok y w ∧ VRel ρ r y := by
  unfold lenV at hl
  replace hl := of_bind hl
  obtain ⟨i, hi, hl⟩ := hl
  obtain ⟨_, sp⟩ := hC.spec hi
  have hU := sp.und
  split at hl
  · rename_i s hd
    cases hl; cases hv
    rw [hd] at hU
    exact ⟨_, by simp [Builtin.len_, h0, run_underlying hU], .s _⟩
  · rename_i n e hd
    cases hl
    rw [hd] at hU
    refine ⟨_, ?_, .s _⟩
    cases hv <;> simp [Builtin.len_, h0, run_underlying hU]
  · rename_i arr hd
    replace hl := of_bind hl
    obtain ⟨j, hj, hl⟩ := hl
    obtain ⟨_, sj⟩ := hC.spec hj
    have hV := sj.und
    rw [hd] at hU
    split at hl
    · rename_i n e hd'
      cases hl
      rw [hd'] at hV
      refine ⟨_, ?_, .s _⟩
      cases hv <;> simp [Builtin.len_, h0, run_underlying hU, run_underlying hV]
    · cases hl
  · rename_i e b off n cap op hd
    cases hl
    cases hv with | slice hr hl ho =>
    rw [hd] at hU
    exact ⟨_, by simp [Builtin.len_, h0, run_underlying hU], .s _⟩
  · rename_i e hd
    cases hl; cases hv
    rw [hd] at hU
    exact ⟨_, by simp [Builtin.len_, h0, run_underlying hU], .s _⟩
  · rename_i hd
    cases hl; cases hv
    rw [hd] at hU
    exact ⟨_, by simp [Builtin.len_, h0, run_underlying hU], .s _⟩
  · rename_i v _ _ k e hd
    replace hl := of_bind hl
    obtain ⟨q, hq, hl⟩ := hl
    cases hl
    rw [hd] at hU
    cases v with
    | s a =>
      simp only [mapAt] at hq
      cases hv
      cases x <;> try (simp at hq; done)
      rename_i a
      cases a <;> try (simp at hq; done)
      simp at hq
      subst hq
      exact ⟨_, by simp [Builtin.len_, h0, run_underlying hU], .s _⟩
    | map b =>
      cases hv with | map hr =>
      obtain ⟨_, ms, g1, g2⟩ := H.map hq hr
      have := g2.length
      refine ⟨_, ?_, .s _⟩
      simp [Builtin.len_, h0, run_underlying hU, run_getMap g1, this]
    | _ => simp [mapAt] at hq
  · cases hl

theorem capV_run (hC : C.Ok) {ρ : Ren} {w : World} {ats : Array TypeId} {t rt : TypeId} {v r : V} (hl : capV C t v = some r) (h0 : ats[0]? = some t) {x : Value} (hv : VRel ρ v x) :
    ∃ y, (Builtin.cap_ ats rt #[x]).run C.P w = .ok y w ∧ VRel ρ r y := by
  unfold capV at hl
  replace hl := of_bind hl
  obtain ⟨i, hi, hl⟩ := hl
  obtain ⟨_, sp⟩ := hC.spec hi
  have hU := sp.und
  split at hl
  · rename_i n e hd
    cases hl
    rw [hd] at hU
    refine ⟨_, ?_, .s _⟩
    cases hv <;> simp [Builtin.cap_, h0, run_underlying hU]
  · rename_i e b off n cap hd
    cases hl
    cases hv with | slice hr hl ho =>
    rw [hd] at hU
    exact ⟨_, by simp [Builtin.cap_, h0, run_underlying hU, xcap], .s _⟩
  · rename_i e hd
    cases hl; cases hv
    rw [hd] at hU
    exact ⟨_, by simp [Builtin.cap_, h0, run_underlying hU], .s _⟩
  · cases hl

end Go.Ev
