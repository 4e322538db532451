/- Numbers, equality, operations of two operands. -/
import Derived.Test.YtkcdhdilifolfaaGreatEvF
import Derived.Laws.StructEq
namespace Go.Ev
variable {C : Ctx}

theorem kindEq_iff {a b : IntKind} : kindEq a b = true ↔ a = b := by cases a <;> cases b <;> simp [kindEq]
theorem intEq_eq (a b : Int) : intEq a b = (a == b) := by
  have h1 : ∀ m n : Nat, Nat.beq m n = (m == n) := fun m n => by rw [Bool.eq_iff_iff]; simp
  cases a <;> cases b <;> simp only [intEq, h1]
  · rw [Bool.eq_iff_iff]; simp; omega
  · symm; rw [beq_eq_false_iff_ne]; intro h; cases h
  · symm; rw [beq_eq_false_iff_ne]; intro h; cases h
  · rw [Bool.eq_iff_iff]; simp
theorem intLt_eq (a b : Int) : intLt a b = decide (a < b) := by
  cases a with
  | ofNat a => cases b with
    | ofNat b => rw [Bool.eq_iff_iff]; simp only [intLt, blt_true_iff, decide_eq_true_eq, Int.ofNat_eq_natCast]; omega
    | negSucc b => rw [Bool.eq_iff_iff]; simp only [intLt, decide_eq_true_eq, Int.ofNat_eq_natCast, Bool.false_eq_true, false_iff]; omega
  | negSucc a => cases b with
    | ofNat b => rw [Bool.eq_iff_iff]; simp only [intLt, decide_eq_true_eq, Int.ofNat_eq_natCast, true_iff]; omega
    | negSucc b => rw [Bool.eq_iff_iff]; simp only [intLt, blt_true_iff, decide_eq_true_eq]; omega

theorem p2_eq (k : IntKind) : ((p2 k : Nat) : Int) = 2 ^ k.bits := by cases k <;> rfl
theorem p2_half (k : IntKind) : ((p2 k / 2 : Nat) : Int) = 2 ^ (k.bits - 1) := by cases k <;> rfl
theorem p2_pos (k : IntKind) : 0 < p2 k := by cases k <;> decide
theorem wrapF_eq (k : IntKind) (n : Int) : wrapF k n = k.wrap n := by
  have h0 : 0 ≤ n % (2 ^ k.bits : Int) := by
    rw [← p2_eq]; exact Int.emod_nonneg _ (by have := p2_pos k; omega)
  unfold wrapF IntKind.wrap
  simp only [Int.ofNat_eq_natCast]
  rw [p2_eq]
  have e : n.emod (2 ^ k.bits) = n % (2 ^ k.bits : Int) := rfl
  rw [e]
  generalize n % (2 ^ k.bits : Int) = m at *
  cases hs : k.signed with
  | false => simp
  | true =>
    simp only [cond_true, Bool.true_and, decide_eq_true_eq]
    rw [← p2_half]
    by_cases h : (p2 k / 2 : Nat) ≤ m.toNat
    · rw [show Nat.ble (p2 k / 2) m.toNat = true from by simpa]
      simp only [cond_true]
      rw [if_pos (by omega)]
    · rw [show Nat.ble (p2 k / 2) m.toNat = false from by simpa using h]
      simp only [cond_false]
      rw [if_neg (by omega)]

theorem fastBin_run {P : Program} {op : BinOp} {k : IntKind} {a b : Int} {v : Value} (t : TypeId) (h : fastBin op k a b = some v) (w : World) :
    (binOp op t (.int k a) (.int k b)).run P w = .ok v w := by
  cases op <;> simp only [fastBin, Option.some.injEq, reduceCtorEq] at h <;> subst h <;>
    simp [binOp, Op.intArith, Op.intCmp, wrapF_eq, intEq_eq, intLt_eq]
  · rw [bne]
  all_goals (rw [← decide_not]; congr 1; simp)

theorem scalarBin_run {op : BinOp} {t : TypeId} {a b v : Value} (h : scalarBin C op t a b = some v) (w : World) : (binOp op t a b).run C.P w = .ok v w := by
  unfold scalarBin at h
  split at h
  · rename_i k x k' y
    cases hk : kindEq k k' with
    | false => rw [hk] at h; exact pure?_run (by simpa using h) w
    | true =>
      rw [hk] at h
      rw [kindEq_iff] at hk
      subst hk
      simp only [cond_true] at h
      split at h
      · rename_i v' hv
        cases h
        exact fastBin_run t hv w
      · exact pure?_run h w
  · exact pure?_run h w

/-! ### Equality -/
/-- The elements of an array, one behind the other. -/
def eqElemsS (d : Nat) (elem : TypeId) (n : Nat) (xs ys : Array Value) : List Nat → Sem Bool
  | [] => pure true
  | i :: l => do
    let a ← Go.part elem xs (i * n)
    let b ← Go.part elem ys (i * n)
    let r ← Op.equalIn d elem a b
    if (!r) = true then pure false else eqElemsS d elem n xs ys l

theorem run_equalIn_array {P : Program} (w : World) (d : Nat) (t elem : TypeId) (len n : Nat) (xs ys : Array Value) (ht : P.underlying t = some (.array len elem))
    (hn : ∀ w, (Go.sizeOf elem).run P w = .ok n w) :
    (Op.equalIn (d + 1) t (.agg xs) (.agg ys)).run P w = (eqElemsS d elem n xs ys (List.range' 0 len)).run P w := by
  simp only [Op.equalIn, Sem.run_bind, run_underlying ht, Result.andThen_ok, hn]
  rw [Std.Legacy.Range.forIn_eq_forIn_range']
  simp only [Std.Legacy.Range.size, Nat.sub_zero, Nat.add_sub_cancel, Nat.div_one]
  generalize List.range' 0 len = l
  clear ht
  induction l generalizing w with
  | nil => simp [eqElemsS]
  | cons i l ih =>
    simp only [List.forIn_cons, eqElemsS, Sem.run_bind, Sem.run_ite]
    generalize (Go.part elem xs (i * n)).run P w = r1
    cases r1 with
    | ok a w1 =>
      simp only [Result.andThen_ok]
      generalize (Go.part elem ys (i * n)).run P w1 = r2
      cases r2 with
      | ok b w2 =>
        simp only [Result.andThen_ok]
        generalize (Op.equalIn d elem a b).run P w2 = r3
        cases r3 with
        | ok r w3 =>
          cases r
          · simp only [Result.andThen_ok, Bool.not_false, if_true, Sem.run_pure]
          · simp only [Result.andThen_ok, Bool.not_true, Bool.false_eq_true, if_false, Sem.run_pure]
            exact ih w3
        | halt x w3 => simp [Result.andThen]
      | halt x w2 => simp [Result.andThen]
    | halt x w1 => simp [Result.andThen]

theorem eqFields_run (hC : C.Ok) {ρ : Ren} {d : Nat} {eq : TypeId → V → V → Option Bool}
    (ih : ∀ t u v b x y, eq t u v = some b → VRel ρ u x → VRel ρ v y → ∀ w, (Op.equalIn d t x y).run C.P w = .ok b w)
    {rx ry : Rope V} {xs ys : List Value} (ox : rx.Ok) (oy : ry.Ok) (hx : VRels ρ rx.toList xs) (hy : VRels ρ ry.toList ys)
    (cx : ∀ x ∈ xs, x.oneCell' = true) (cy : ∀ x ∈ ys, x.oneCell' = true) (w : World) :
    ∀ {fs : List Field} {b : Bool}, eqFields C eq fs rx ry = some b → (Op.eqFields d xs.toArray ys.toArray fs).run C.P w = .ok b w
  | [], b, h => by simp [eqFields] at h; subst h; simp [Op.eqFields]
  | f :: fs, b, h => by
    simp only [eqFields] at h
    simp only [Op.eqFields]
    by_cases hn : f.name = "_"
    · rw [show (f.name == "_") = true from by simpa using hn] at h
      rw [if_neg (by simpa using hn)]
      exact eqFields_run hC ih ox oy hx hy cx cy w (by simpa using h)
    · rw [show (f.name == "_") = false from by simpa using hn] at h
      simp only [cond_false] at h
      rw [if_pos (by simpa using hn)]
      obtain ⟨j, hj, h⟩ := of_bind h
      obtain ⟨u, hu, h⟩ := of_bind h
      obtain ⟨v, hv, h⟩ := of_bind h
      obtain ⟨c, hc, h⟩ := of_bind h
      obtain ⟨x, a1, a2, _⟩ := part_run hC hj hu ox hx cx w
      obtain ⟨y, b1, b2, _⟩ := part_run hC hj hv oy hy cy w
      have e := ih _ _ _ _ _ _ hc a2 b2 w
      simp only [Sem.run_bind, a1, b1, e, Result.andThen_ok, Sem.run_ite]
      cases c with
      | true =>
        simp only [cond_true] at h
        simp only [Bool.not_true, Bool.false_eq_true, if_false]
        exact eqFields_run hC ih ox oy hx hy cx cy w h
      | false => simp at h; subst h; simp

theorem eqElems_run (hC : C.Ok) {ρ : Ren} {d : Nat} {eq : TypeId → V → V → Option Bool}
    (ih : ∀ t u v b x y, eq t u v = some b → VRel ρ u x → VRel ρ v y → ∀ w, (Op.equalIn d t x y).run C.P w = .ok b w)
    {rx ry : Rope V} {xs ys : List Value} (ox : rx.Ok) (oy : ry.Ok) (hx : VRels ρ rx.toList xs) (hy : VRels ρ ry.toList ys)
    (cx : ∀ x ∈ xs, x.oneCell' = true) (cy : ∀ x ∈ ys, x.oneCell' = true) {e : TypeId} {j : Ty} (hj : ty C e = some j) (w : World) :
    ∀ (n k : Nat) {b : Bool}, eqElems eq e j n k rx ry = some b → (eqElemsS d e j.size xs.toArray ys.toArray (List.range' k n)).run C.P w = .ok b w
  | 0, k, b, h => by simp [eqElems] at h; subst h; simp [eqElemsS]
  | n + 1, k, b, h => by
    simp only [eqElems] at h
    rw [List.range'_succ]
    simp only [eqElemsS]
    obtain ⟨u, hu, h⟩ := of_bind h
    obtain ⟨v, hv, h⟩ := of_bind h
    obtain ⟨c, hc, h⟩ := of_bind h
    obtain ⟨x, a1, a2, _⟩ := part_run hC hj hu ox hx cx w
    obtain ⟨y, b1, b2, _⟩ := part_run hC hj hv oy hy cy w
    have e := ih _ _ _ _ _ _ hc a2 b2 w
    simp only [Sem.run_bind, a1, b1, e, Result.andThen_ok, Sem.run_ite]
    cases c with
    | true =>
      simp only [cond_true] at h
      simp only [Bool.not_true, Bool.false_eq_true, if_false]
      exact eqElems_run hC ih ox oy hx hy cx cy hj w n (k + 1) h
    | false => simp at h; subst h; simp

theorem eqIn_run (hC : C.Ok) {ρ : Ren} : ∀ (d : Nat) (t : TypeId) (u v : V) (b : Bool) (x y : Value), eqIn C d t u v = some b → VRel ρ u x → VRel ρ v y →
    ∀ w, (Op.equalIn d t x y).run C.P w = .ok b w
  | 0, _, _, _, _, _, _, h, _, _ => by simp [eqIn] at h
  | d + 1, t, u, v, b, x, y, h, hu, hv => by
    intro w
    simp only [eqIn] at h
    replace h := of_bind h
    obtain ⟨i, hi, h⟩ := h
    obtain ⟨info, sp⟩ := hC.spec hi
    have ih := eqIn_run hC (ρ := ρ) d
    split at h
    · rename_i fs xs ys hd
      cases hst : i.stood with
      | true => rw [hst] at h; simp at h
      | false =>
        rw [hst] at h
        simp only [cond_false] at h
        cases hu with | agg ox hx cx =>
        cases hv with | agg oy hy cy =>
        have hu := sp.und
        rw [hd] at hu
        have hf : C.P.fieldsOf t = fs := by simp [Program.fieldsOf, hu]
        rw [run_equalIn_struct (P := C.P) w d t _ _ (by rw [hf]; exact hu) (by rw [← sp.stood]; exact hst), hf]
        exact eqFields_run hC ih ox oy hx hy cx cy w h
    · rename_i len e xs ys hd
      obtain ⟨j, hj, h⟩ := of_bind h
      obtain ⟨_, sj⟩ := hC.spec hj
      cases hu with | agg ox hx cx =>
      cases hv with | agg oy hy cy =>
      have hu := sp.und
      rw [hd] at hu
      rw [run_equalIn_array w d t e len j.size _ _ hu (fun w => sj.run_size w)]
      exact eqElems_run hC ih ox oy hx hy cx cy hj w len 0 h
    all_goals (try (rename_i hd; cases h; cases hu; cases hv; have hU := sp.und; rw [hd] at hU; simp [Op.equalIn, run_underlying hU]; done))
    · rename_i tx vx ty' vy hd
      cases hu with | iface hu =>
      cases hv with | iface hv =>
      have hU := sp.und
      rw [hd] at hU
      simp only [Op.equalIn, Sem.run_bind, run_underlying hU, Result.andThen_ok]
      by_cases e : tx = ty'
      · subst e
        rw [show Nat.beq tx tx = true from by simp] at h
        simp only [cond_true] at h
        obtain ⟨j, hj, h⟩ := of_bind h
        obtain ⟨h1, h⟩ := of_cond_some h
        obtain ⟨xj, sj⟩ := hC.spec hj
        have := ih _ _ _ _ _ _ h hu hv w
        simp [sj.run_info, ← sj.comparable, h1, this]
      · rw [show Nat.beq tx ty' = false from by simpa using e] at h
        simp at h
        subst h
        simp [e]
    · rename_i k k' a k'' b' hd
      obtain ⟨h1, h⟩ := of_cond_some h
      cases h
      rw [kindEq_iff] at h1
      subst h1
      cases hu; cases hv
      have hU := sp.und
      rw [hd] at hU
      rw [run_equalIn_int (P := C.P) w d t _ _ _ _ hU, intEq_eq]
    · cases hu; cases hv
      exact pure?_run h w
    · cases h

/-! ### Operations of two operands -/
/-- A value that is no scalar. -/
def isBig : Value → Bool
  | .pointer (some _) | .slice (some _) _ _ | .map (some _) | .func .. | .iface .. | .agg _ | .tuple _ => true
  | _ => false

theorem VRel.big {ρ : Ren} {v : V} {x : Value} (h : VRel ρ v x) (hv : ∀ y, v = .s y → False) : isBig x = true := by
  cases h <;> first | rfl | exact (hv _ rfl).elim

theorem binOp_eql {t : TypeId} {a b : Value} (h : isBig a = true ∨ isBig b = true) : Go.binOp .eql t a b = (do pure (.bool (← Op.equal t a b)) : Sem Value) := by
  cases a <;> cases b <;> first | rfl | (simp [isBig] at h)
theorem binOp_neq {t : TypeId} {a b : Value} (h : isBig a = true ∨ isBig b = true) : Go.binOp .neq t a b = (do pure (.bool (!(← Op.equal t a b))) : Sem Value) := by
  cases a <;> cases b <;> first | rfl | (simp [isBig] at h)

theorem guard_const {P : Program} {op : BinOp} {t : TypeId} {x y : Operand} (h : (isConst x || isConst y) = true) (w : World) :
    (eqGuard op t x y .nilIface .nilIface).run P w = .ok () w := by
  cases x <;> cases y <;> first | (simp [isConst] at h; done) | (cases op <;> simp [eqGuard])
theorem guard_other {P : Program} {op : BinOp} {t : TypeId} {x y : Operand} {a b : Value} (h1 : ¬ (a = .nilIface ∧ b = .nilIface)) (h2 : ¬ ((∃ c, a = .agg c) ∧ ∃ c, b = .agg c)) (w : World) :
    (eqGuard op t x y a b).run P w = .ok () w := by
  cases a <;> cases b <;> first
    | (simp at h2; done)
    | (simp at h1; done)
    | (cases op <;> simp [eqGuard])

/-- '==' and '!=' on values of one type; other operations on scalars. -/
theorem binop_run (hC : C.Ok) {ρ : Ren} {op : BinOp} {t : TypeId} {x y : Operand} {u v r : V} (h : binop C op t (isConst x || isConst y) u v = some r) {a b : Value}
    (ha : VRel ρ u a) (hb : VRel ρ v b) (w : World) :
    ∃ z, (do eqGuard op t x y a b; Go.binOp op t a b : Sem Value).run C.P w = .ok z w ∧ VRel ρ r z := by
  have hq : (isBig a = true ∨ isBig b = true) → (eqGuard op t x y a b).run C.P w = .ok () w → eqOp op (eqIn C 10000 t u v) = some r →
      ∃ z, (do eqGuard op t x y a b; Go.binOp op t a b : Sem Value).run C.P w = .ok z w ∧ VRel ρ r z := by
    intro hbig hg he
    cases op <;> simp only [eqOp, reduceCtorEq] at he
    · replace he := of_bind he
      obtain ⟨bb, h1, he⟩ := he
      cases he
      have := eqIn_run hC 10000 t u v bb a b h1 ha hb w
      refine ⟨.bool bb, ?_, .s _⟩
      simp only [Sem.run_bind, hg, Result.andThen_ok, binOp_eql hbig, Op.equal, Op.maxDepth, this, Sem.run_pure]
    · replace he := of_bind he
      obtain ⟨bb, h1, he⟩ := he
      cases he
      have := eqIn_run hC 10000 t u v bb a b h1 ha hb w
      refine ⟨.bool (!bb), ?_, .s _⟩
      simp only [Sem.run_bind, hg, Result.andThen_ok, binOp_neq hbig, Op.equal, Op.maxDepth, this, Sem.run_pure]
  unfold binop at h
  split at h
  · cases ha; cases hb
    obtain ⟨h1, h⟩ := of_cond_some h
    replace h := of_bind h
    obtain ⟨z, hz, h⟩ := h
    cases h
    refine ⟨z, ?_, .s _⟩
    have hg : (eqGuard op t x y a b).run C.P w = .ok () w := by
      cases hn : bothNil a b with
      | true =>
        rw [hn] at h1
        have : a = .nilIface ∧ b = .nilIface := by cases a <;> cases b <;> simp [bothNil] at hn <;> simp
        obtain ⟨rfl, rfl⟩ := this
        exact guard_const (by simpa using h1) w
      | false =>
        rw [hn] at h1
        refine guard_other ?_ ?_ w
        · rintro ⟨rfl, rfl⟩; simp [bothNil] at hn
        · rintro ⟨⟨c, rfl⟩, _⟩; simp [flatV] at h1
    simp only [Sem.run_bind, hg, Result.andThen_ok]
    exact scalarBin_run hz w
  · replace h := of_bind h
    obtain ⟨i, hi, h⟩ := h
    obtain ⟨h1, h⟩ := of_cond_none h
    obtain ⟨_, sp⟩ := hC.spec hi
    refine hq (.inl (ha.big (by rintro _ ⟨⟩))) ?_ h
    cases ha with | agg _ _ _ =>
    cases hb with | agg _ _ _ =>
    exact run_eqGuard_agg w op t x y _ _ (by rw [← sp.guard]; exact h1)
  · cases h
  · cases h
  · rename_i n1 n2 n3 n4
    have hbig : isBig a = true ∨ isBig b = true := by
      by_cases e : ∃ y, u = .s y
      · obtain ⟨y, rfl⟩ := e
        exact .inr (hb.big (fun z hz => n3 _ _ rfl hz))
      · exact .inl (ha.big (fun z hz => e ⟨z, hz⟩))
    refine hq hbig (guard_other ?_ ?_ w) h
    · rintro ⟨rfl, rfl⟩; simp [isBig] at hbig
    · rintro ⟨⟨c, rfl⟩, c', rfl⟩
      cases ha with
      | agg _ _ _ => exact n1 _ rfl
      | s _ =>
        cases hb with
        | agg _ _ _ => exact n2 _ rfl
        | s _ => exact n3 _ _ rfl rfl

end Go.Ev
