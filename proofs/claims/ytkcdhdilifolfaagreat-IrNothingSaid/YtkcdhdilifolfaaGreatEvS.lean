/- Arguments, results, rounds, leaving. -/
import Derived.Test.YtkcdhdilifolfaaGreatEvR
import Derived.RangeFuncRecord
namespace Go.Ev
variable {C : Ctx}

theorem argsTm_get (n : Nat) : ∀ (l : List V) (i : Nat) (t : Tree V) (j : Nat), (argsTm n i l t).n = n ∧
    (argsTm n i l t).get j = if i ≤ j ∧ j < i + l.length then (l[j - i]?).getD undefV else (t.get j).getD undefV
  | [], i, t, j => by
    refine ⟨rfl, ?_⟩
    rw [if_neg (by simp)]; rfl
  | v :: l, i, t, j => by
    obtain ⟨h1, h2⟩ := argsTm_get n l (i + 1) (t.set i v) j
    refine ⟨h1, ?_⟩
    simp only [argsTm]
    rw [h2, Tree.get_set]
    by_cases e : j = i
    · subst e
      rw [if_neg (by omega), if_pos rfl, if_pos (by simp)]
      simp
    · by_cases h : i + 1 ≤ j ∧ j < i + 1 + l.length
      · rw [if_pos h, if_pos (by simp; omega)]
        have : j - i = j - (i + 1) + 1 := by omega
        rw [this, List.getElem?_cons_succ]
      · rw [if_neg h, if_neg e, if_neg (by simp; omega)]

theorem argsTm_rel {ρ : Ren} {args : List V} {xs : List Value} (h : VRels ρ args xs) {n : Nat} (hn : args.length ≤ n) :
    TmRel ρ (argsTm n 0 args .leaf) (xs.toArray ++ Array.replicate (n - xs.toArray.size) undef) := by
  have hl := h.length
  refine ⟨by rw [(argsTm_get n args 0 .leaf 0).1]; simp; omega, fun i => ?_⟩
  rw [(argsTm_get n args 0 .leaf i).2]
  by_cases hi : i < args.length
  · rw [if_pos (by omega)]
    have h1 : args[i]? = some args[i] := by simp [hi]
    obtain ⟨x, g1, g2⟩ := h.get h1
    simp only [Nat.sub_zero, h1, Option.getD_some]
    have hx : i < xs.length := by omega
    have : (xs.toArray ++ Array.replicate (n - xs.toArray.size) undef).getD i undef = x := by
      have e : (xs.toArray ++ Array.replicate (n - xs.toArray.size) undef)[i]? = some x := by
        rw [Array.getElem?_append_left (by simpa using hx)]; simpa using g1
      rw [Array.getD_eq_getD_getElem?, e]; rfl
    rw [this]; exact g2
  · rw [if_neg (by omega)]
    have : (xs.toArray ++ Array.replicate (n - xs.toArray.size) undef).getD i undef = undef := by
      rw [Array.getD_eq_getD_getElem?, Array.getElem?_append_right (by simp; omega)]
      simp [Array.getElem?_replicate]
      split <;> rfl
    rw [this]
    exact .s _

theorem resultsOf_run (hC : C.Ok) {ρ : Ren} {h : Heap} {w : World} (H : HRel ρ h w) {tm : Tm} {tmps : Array Value} (ht : TmRel ρ tm tmps) {f : ResultVar → Sem Value}
    (f1 : ∀ t, f (.tmp t) = pure (tmps.getD t undef)) (f2 : ∀ a t, f (.cell a t) = (do loadVar t (← asAddr (tmps.getD a undef)))) :
    ∀ {rs : List ResultVar} {vs : List V}, resultsOf C tm h rs = some vs → ∃ ys, VRels ρ vs ys ∧ (rs.mapM f).run C.P w = .ok ys w
  | [], vs, h => by simp only [resultsOf] at h; cases h; exact ⟨[], .nil, by simp⟩
  | .tmp t :: l, vs, h => by
    simp only [resultsOf] at h
    replace h := of_bind h
    obtain ⟨us, h1, h⟩ := h
    cases h
    obtain ⟨ys, g1, g2⟩ := resultsOf_run hC H ht f1 f2 h1
    exact ⟨_, .cons (ht.get t) g1, by simp only [List.mapM_cons, f1, Sem.run_bind, Sem.run_pure, Result.andThen_ok, g2]⟩
  | .cell a t :: l, vs, h => by
    simp only [resultsOf] at h
    replace h := of_bind h
    obtain ⟨p, hp, h⟩ := h
    replace h := of_bind h
    obtain ⟨v, hv, h⟩ := h
    replace h := of_bind h
    obtain ⟨us, h1, h⟩ := h
    cases h
    obtain ⟨ys, g1, g2⟩ := resultsOf_run hC H ht f1 f2 h1
    obtain ⟨c, sh, ex, k1, k2⟩ := asPtr_rel hp (ht.get a)
    obtain ⟨y, m1, m2, _⟩ := load_run hC H hv k1
    refine ⟨_, .cons m2 g1, ?_⟩
    simp only [List.mapM_cons, f2, Sem.run_bind, k2, asAddr, Sem.run_pure, Result.andThen_ok, m1, g2]

theorem results_run (hC : C.Ok) {ρ : Ren} {h : Heap} {w : World} (H : HRel ρ h w) {tm : Tm} {tmps : Array Value} (ht : TmRel ρ tm tmps) {fn : Func} {vs : List V}
    (hr : resultsOf C tm h fn.results.toList = some vs) : ∃ y, (results fn tmps).run C.P w = .ok y w ∧ VRel ρ (oneOf vs) y := by
  have : ∀ f : ResultVar → Sem Value, (∀ t, f (.tmp t) = pure (tmps.getD t undef)) → (∀ a t, f (.cell a t) = (do loadVar t (← asAddr (tmps.getD a undef)))) →
      ∃ y, (do let vs ← fn.results.mapM f; pure (if h : vs.size = 1 then vs[0] else .tuple vs) : Sem Value).run C.P w = .ok y w ∧ VRel ρ (oneOf vs) y := by
    intro f f1 f2
    obtain ⟨ys, g1, g2⟩ := resultsOf_run hC H ht f1 f2 hr
    refine ⟨if h : ys.toArray.size = 1 then ys.toArray[0] else .tuple ys.toArray, ?_, ?_⟩
    · rw [← Array.toArray_toList (xs := fn.results), List.mapM_toArray]
      simp only [Sem.run_bind, Sem.run_map, g2, Result.andThen_ok, Sem.run_pure]
    · cases g1 with
      | nil => exact .tup (xs := []) .nil
      | cons h1 h2 =>
        cases h2 with
        | nil => exact h1
        | cons h3 h4 => simpa [oneOf] using VRel.tup (.cons h1 (.cons h3 h4))
  exact this _ (fun _ => rfl) (fun _ _ => rfl)

theorem putAll_rel {ρ : Ren} : ∀ {ps : List Tmp} {vs : List V} {xs : List Value} {tm tm' : Tm} {tmps : Array Value}, putAll ps vs tm = some tm' → VRels ρ vs xs → TmRel ρ tm tmps →
    TmRel ρ tm' ((ps.zip xs).foldl (fun tmps (q : Tmp × Value) => tmps.setIfInBounds q.1 q.2) tmps) ∧ xs.length = ps.length
  | [], _, _, tm, tm', tmps, h, hx, ht => by
    cases hx with
    | nil => simp only [putAll] at h; cases h; exact ⟨ht, rfl⟩
    | cons _ _ => simp [putAll] at h
  | p :: ps, _, _, tm, tm', tmps, h, hx, ht => by
    cases hx with
    | nil => simp [putAll] at h
    | @cons v x vs xs hv hs =>
    simp only [putAll] at h
    replace h := of_bind h
    obtain ⟨tm1, h1, h⟩ := h
    obtain ⟨g1, _⟩ := TmRel.put (a := { tmps, defers := [] }) ht h1 hv
    obtain ⟨k1, k2⟩ := putAll_rel h hs g1
    exact ⟨by simpa [Act.put] using k1, by simp [k2]⟩

/-- A block that turns and is looked at no more. -/
theorem Evo.lose {ρ : Ren} {h : Heap} {w : World} (H : HRel ρ h w) (n : Nat) {b : Nat} {o : O} {x' : Obj} {c sh ex : Nat} (hb : h.get b = some o) (hr : ρ b = some (c, sh, ex)) (ho : o.own = true) :
    Evo ρ h n w ρ (h.del b) n { w with heap := w.heap.setIfInBounds c x' } := by
  have f : ∀ j oj, (h.del b).get j = some oj → j ≠ b ∧ h.get j = some oj := by
    intro j oj hj
    rw [Tree.get_del] at hj
    by_cases e : j = b
    · rw [if_pos e] at hj; cases hj
    · rw [if_neg e] at hj; exact ⟨e, hj⟩
  refine ⟨Ren.le_refl ρ, fun k y h1 h2 => (by rw [h1] at h2; cases h2), Nat.le_refl _, ⟨?_, ?_⟩, by simp, ?_, ?_, fun k ok hk _ => (f _ _ hk).2, ⟨rfl, rfl, rfl⟩⟩
  · intro k ok hk
    obtain ⟨e, hk⟩ := f _ _ hk
    obtain ⟨c1, sh1, ex1, y, g1, g2, g3⟩ := H.obj k ok hk
    refine ⟨c1, sh1, ex1, y, g1, ?_, g3⟩
    have : c ≠ c1 := fun e1 => e (H.inj b k o ok _ _ hb hk ho hr g1 e1).symm
    simp [Array.getElem?_setIfInBounds_ne this, g2]
  · intro k k' ok ok' y y' h1 h2 hk0 h3 h4 h5
    exact H.inj k k' ok ok' y y' (f _ _ h1).2 (f _ _ h2).2 hk0 h3 h4 h5
  · intro c1 hc1 hno
    have : c ≠ c1 := hno b o _ hb ho hr
    simp [Array.getElem?_setIfInBounds_ne this]
  · intro k ok y hk hk0 hr'
    exact .inl ⟨k, ok, y, (f _ _ hk).2, hk0, hr', rfl⟩

/-- The marks among the deferred calls are come to. -/
theorem leaves {F : Fence} {N : Nat} {fn : Func} {tmps : Array Value} {R : Ending → World → Prop} {n : Nat} : ∀ {ds : List Nat} {es : List Deferred} {ρ : Ren} {h h' : Heap} {w : World},
    dropDefs ds h = some h' → DRel ρ ds es → HRel ρ h w →
    (∀ w', Evo ρ h n w ρ h' n w' → LeavesInM F N C.P fn tmps R [] .returning w') → LeavesInM F N C.P fn tmps R es .returning w
  | [], es, ρ, h, h', w, hd, hes, H, K => by
    cases hes
    simp only [dropDefs] at hd
    cases hd
    exact K w (.refl n H)
  | d :: ds, es, ρ, h, h', w, hd, hes, H, K => by
    cases hes with | @cons _ c sh ex _ es hρ hs =>
    simp only [dropDefs] at hd
    split at hd
    · rename_i hg
      obtain ⟨x, g1, g2⟩ := H.at hg hρ
      cases g2 with | defd h0 =>
      have e1 : Evo ρ h n w ρ (h.del d) n (w.putObj c (.deferred none)) := Evo.lose H n hg hρ rfl
      refine ⟨by simp, .inl ⟨c, _, rfl, run_takeDeferred g1, ?_⟩⟩
      exact leaves hd hs e1.hrel fun w' e2 => K w' (e1.trans e2)
    · cases hd

end Go.Ev
