/- append. -/
import Derived.Test.YtkcdhdilifolfaaGreatEvM
namespace Go.Ev
variable {C : Ctx}

theorem growBy_le (newLen : Nat) : ∀ (k c : Nat), c ≤ newLen → Builtin.growBy newLen k c ≤ newLen + (newLen + 768) / 4
  | 0, c, h => by simp [Builtin.growBy]; omega
  | k + 1, c, h => by
    simp only [Builtin.growBy]
    split
    · omega
    · by_cases h2 : c + (c + 768) / 4 ≤ newLen
      · exact growBy_le newLen k _ h2
      · cases k with
        | zero => simp [Builtin.growBy]; omega
        | succ k => simp only [Builtin.growBy]; rw [if_pos (by omega)]; omega
theorem nextslicecap_le {newLen oldCap : Nat} (h : oldCap < newLen) : Builtin.nextslicecap newLen oldCap ≤ 2 * newLen + 192 := by
  unfold Builtin.nextslicecap
  split
  · omega
  · split
    · omega
    · have := growBy_le newLen 4 oldCap (by omega); omega

/-- A block under a new name, from further on; what it was named before is dropped. -/
theorem Evo.rename {ρ : Ren} {h : Heap} {w : World} (H : HRel ρ h w) {b n : Nat} {o o' : O} {x' : Obj} {c sh ex sh' ex' : Nat} (hb : h.get b = some o) (hr : ρ b = some (c, sh, ex)) (hn : ρ n = none) (ho : o.own = true) (ho' : o'.own = true)
    (hx : ∀ ρ' : Ren, ρ.le ρ' → ORel ρ' sh' ex' o' x') :
    ∃ ρ' : Ren, ρ' n = some (c, sh', ex') ∧ Evo ρ h n w ρ' ((h.del b).set n o') (n + 1) { w with heap := w.heap.setIfInBounds c x' } := by
  have hlt : c < w.heap.size := H.lt hb hr
  have hbn : b ≠ n := by rintro rfl; rw [hr] at hn; cases hn
  let ρ' : Ren := fun k => if k = n then some (c, sh', ex') else ρ k
  have hle : ρ.le ρ' := by
    intro k y hk
    show (if k = n then _ else ρ k) = _
    rw [if_neg (by rintro rfl; rw [hn] at hk; cases hk)]; exact hk
  have hn' : ρ' n = some (c, sh', ex') := by show (if n = n then _ else _) = _; rw [if_pos rfl]
  have hne : ∀ k, k ≠ n → ρ' k = ρ k := fun k hk => by show (if k = n then _ else ρ k) = _; rw [if_neg hk]
  have look : ∀ {k : Nat} {ok : O}, ((h.del b).set n o').get k = some ok → (k = n ∧ ok = o') ∨ (k ≠ n ∧ k ≠ b ∧ h.get k = some ok) := by
    intro k ok hk
    rw [Tree.get_set] at hk
    by_cases e : k = n
    · rw [if_pos e] at hk; cases hk; exact .inl ⟨e, rfl⟩
    · rw [if_neg e, Tree.get_del] at hk
      by_cases e' : k = b
      · rw [if_pos e'] at hk; cases hk
      · rw [if_neg e'] at hk; exact .inr ⟨e, e', hk⟩
  refine ⟨ρ', hn', hle, ?_, by omega, ⟨?_, ?_⟩, by simp, ?_, ?_, ?_, ⟨rfl, rfl, rfl⟩⟩
  · intro k y h1 h2
    by_cases e : k = n
    · omega
    · rw [hne k e, h2] at h1; cases h1
  · intro k ok hk
    rcases look hk with ⟨rfl, rfl⟩ | ⟨e1, e2, hk⟩
    · exact ⟨_, _, _, x', hn', by simp [hlt], hx _ hle⟩
    · obtain ⟨c1, sh1, ex1, y, g1, g2, g3⟩ := H.obj k ok hk
      refine ⟨c1, sh1, ex1, y, by rw [hne k e1]; exact g1, ?_, g3.mono hle⟩
      have : c ≠ c1 := fun e => e2 (H.inj b k o ok _ _ hb hk ho hr g1 e).symm
      simp [Array.getElem?_setIfInBounds_ne this, g2]
  · intro k k' ok ok' y y' h1 h2 hk0 h3 h4 h5
    rcases look h1 with ⟨rfl, rfl⟩ | ⟨e1, e2, g1⟩ <;> rcases look h2 with ⟨rfl, rfl⟩ | ⟨e1', e2', g2⟩
    · rfl
    · rw [hn'] at h3; cases h3
      rw [hne k' e1'] at h4
      exact (e2' (H.inj b k' o ok' _ _ hb g2 ho hr h4 h5).symm).elim
    · rw [hn'] at h4; cases h4
      rw [hne k e1] at h3
      exact (e2 (H.inj b k o ok _ _ hb g1 ho hr h3 h5.symm).symm).elim
    · rw [hne k e1] at h3; rw [hne k' e1'] at h4
      exact H.inj k k' ok ok' y y' g1 g2 hk0 h3 h4 h5
  · intro c1 hc1 hno
    have : c ≠ c1 := hno b o _ hb ho hr
    simp [Array.getElem?_setIfInBounds_ne this]
  · intro k ok y hk hk0 hr'
    rcases look hk with ⟨rfl, rfl⟩ | ⟨e1, e2, hk⟩
    · rw [hn'] at hr'; cases hr'
      exact .inl ⟨b, o, _, hb, ho, hr, rfl⟩
    · rw [hne k e1] at hr'
      exact .inl ⟨k, ok, y, hk, hk0, hr', rfl⟩
  · intro k ok hk hk0
    rcases look hk with ⟨rfl, rfl⟩ | ⟨e1, e2, hk⟩
    · rw [ho'] at hk0; cases hk0
    · exact hk

section
variable {ats : Array TypeId} {t0 t1 e rt : TypeId} {i0 i1 j : Ty} {x0 x1 xj : TypeInfo}

/-- append, when it must make a new row. -/
theorem append_grows {P : Program} {w : World} (h0 : ats[0]? = some t0) (h1 : ats[1]? = some t1) (u0 : P.underlying t0 = some (.slice e)) {d1 : TypeDesc} (u1 : P.underlying t1 = some d1)
    (hd1 : ∀ k, d1 ≠ .int k) {sz : Nat} (hs : ∀ w, (Go.sizeOf e).run P w = .ok sz w) (hi : ∀ w, (Go.typeInfo e).run P w = .ok xj w) (hbytes : xj.bytes ≠ 0)
    {base : Option Addr} {len cap m : Nat} {xx : Value} (hl : (Builtin.lenOf xx).run P w = .ok m w) (hno : ¬ (len + m ≤ cap)) (hroom : Builtin.nextslicecap (len + m) cap * xj.bytes ≤ 281474976710656)
    {old new : List Value} (ho : ∀ w', w'.heap = w.heap → (Builtin.firstCells sz len (.slice base len cap)).run P w' = .ok old.toArray w')
    (hn : ∀ w', w'.heap = w.heap → (Builtin.firstCells sz m xx).run P w' = .ok new.toArray w') {z : Value} (hz : ∀ w, (Go.zeroValue e).run P w = .ok z w) (hzs : z.cells.size ≠ 0) :
    ∃ r : Nat, (Builtin.append_ ats rt #[.slice base len cap, xx]).run P w = .ok (.slice (some ⟨w.heap.size, 0, none⟩) (len + m) (len + m + r))
      (w.drew.alloc (.cells (old ++ new ++ (List.replicate r z.cells.toList).flatten).toArray e)) := by
  let r := w.tape w.drawn (.appendCap (len + m) cap e) % (2 ^ 63 - (len + m))
  refine ⟨r, ?_⟩
  have hc : (choose (.appendCap (len + m) cap e)).run P w = .ok (len + m + r) w.drew := by
    rw [run_choose]; simp [Question.forced, Question.cut, r]
  have hm : (match d1 with | .int _ => true | _ => false) = false := by
    cases d1 <;> first | rfl | exact (hd1 _ rfl).elim
  have hcond : ¬ (((len + m : Nat) : Int) > IntKind.i64.max ∧ (False ∨ xj.bytes = 0)) := by rintro ⟨_, h | h⟩; exact h; exact hbytes h
  have hroom2 : ¬ (Builtin.nextslicecap (len + m) cap * xj.bytes > 2 ^ 48) := by omega
  have hzero : Builtin.zeroCells z.cells r = ((List.replicate r z.cells.toList).flatten).toArray := zero_cells z.cells r hzs
  have e1 : len + m + r - (len + m) = r := by omega
  simp only [Builtin.append_, h0, h1, List.getElem?_toArray, List.getElem?_cons_zero, List.getElem?_cons_succ, Sem.run_bind, run_underlying u0, run_underlying u1, Result.andThen_ok, hs, Sem.run_pure, hm,
    Bool.false_eq_true, if_false, hl, Sem.run_ite, if_neg hno, hi, hcond, hroom2, hc, run_askRoom, ho w.drew rfl, hn w.drew rfl, Bool.not_false, if_true, hz, e1, hzero, Go.newRow, run_newObj]
  simp only [List.append_toArray]
  rfl

/-- append, when there is room. -/
theorem append_fits {P : Program} {w w' : World} (h0 : ats[0]? = some t0) (h1 : ats[1]? = some t1) (u0 : P.underlying t0 = some (.slice e)) {d1 : TypeDesc} (u1 : P.underlying t1 = some d1)
    (hd1 : ∀ k, d1 ≠ .int k) {sz : Nat} (hs : ∀ w, (Go.sizeOf e).run P w = .ok sz w)
    {base : Option Addr} {len cap m : Nat} {xx : Value} (hl : (Builtin.lenOf xx).run P w = .ok m w) (hno : len + m ≤ cap)
    {new : List Value} (hn : (Builtin.firstCells sz m xx).run P w = .ok new.toArray w)
    (hst : (match base with | some a => Go.storeCells (a.add (len * sz)) new | none => pure ()).run P w = .ok () w') :
    (Builtin.append_ ats rt #[.slice base len cap, xx]).run P w = .ok (.slice base (len + m) cap) w' := by
  have hm : (match d1 with | .int _ => true | _ => false) = false := by
    cases d1 <;> first | rfl | exact (hd1 _ rfl).elim
  cases base with
  | none =>
    simp only [Sem.run_pure, Result.ok.injEq, true_and] at hst
    subst hst
    simp only [Builtin.append_, h0, h1, List.getElem?_toArray, List.getElem?_cons_zero, List.getElem?_cons_succ, Sem.run_bind, run_underlying u0, run_underlying u1, Result.andThen_ok, hs, Sem.run_pure, hm,
      Bool.false_eq_true, if_false, hl, Sem.run_ite, if_pos hno, Bool.not_false, if_true, hn]
  | some a =>
    simp only at hst
    simp only [Builtin.append_, h0, h1, List.getElem?_toArray, List.getElem?_cons_zero, List.getElem?_cons_succ, Sem.run_bind, run_underlying u0, run_underlying u1, Result.andThen_ok, hs, Sem.run_pure, hm,
      Bool.false_eq_true, if_false, hl, Sem.run_ite, if_pos hno, Bool.not_false, if_true, hn, hst]
end

theorem grown_spec {h : Heap} {n need : Nat} {j : Ty} {row : Rope V} {r : V × Heap × Nat} (hg : grown h n need j row = some r) :
    ∃ z zs, j.zero = some z ∧ z.cells = some zs ∧ zs.size = j.size ∧ (2 * need + 192) * j.bytes ≤ 281474976710656 ∧ r = (.slice n 0 need need true, h.set n (.cells row j.size), n + 1) := by
  unfold grown at hg
  replace hg := of_bind hg
  obtain ⟨z, hz, hg⟩ := hg
  replace hg := of_bind hg
  obtain ⟨zs, hzs, hg⟩ := hg
  obtain ⟨g, hg⟩ := of_cond_some hg
  cases hg
  simp only [Bool.and_eq_true, beq_true_iff, ble_true_iff] at g
  exact ⟨z, zs, hz, hzs, g.1, g.2, rfl⟩

/-- A grown row, as memory. -/
theorem grown_evo {ρ : Ren} {h : Heap} {w d : World} (H : HRel ρ h w) (hd : d = w.drew) {n : Nat} (hn : ρ n = none) {row : Rope V} {es : Nat} {xs : List Value} (ho : row.Ok) (hr : VRels ρ row.toList xs) (hc : ∀ x ∈ xs, x.oneCell' = true)
    {rest : List Value} {ex : Nat} (hx : ex * es ≤ rest.length) (e : TypeId) (need : Nat) :
    ∃ ρ', Evo ρ h n w ρ' (h.set n (.cells row es)) (n + 1) (d.alloc (.cells (xs ++ rest).toArray e)) ∧ VRel ρ' (.slice n 0 need need true) (.slice (some ⟨w.heap.size, 0, none⟩) need (need + ex)) := by
  subst hd
  obtain ⟨ρ', h1, h2⟩ := Evo.alloc (b := n) (n := n) (o := .cells row es) (ex := ex) (x := .cells (xs ++ rest).toArray e) H.drew hn (Nat.le_refl _) (n + 1) (by omega) rfl (fun ρ' hle =>
    .cells ho [] xs rest (by simp) rfl (hr.mono hle) hc hx (fun i _ h => by simp at h))
  refine ⟨ρ', (Evo.drew H n).trans h2, ?_⟩
  have := VRel.slice (ρ := ρ') (off := 0) (len := need) (cap := need) (op := true) (o := 0) h1 (Nat.le_refl _) (fun _ => rfl)
  simpa [xcap] using this

theorem append_run (hC : C.Ok) {ρ : Ren} {h : Heap} {w : World} (H : HRel ρ h w) {n : Nat} {ats : Array TypeId} {t0 t1 rt : TypeId} {s x : V} {r : V × Heap × Nat} (ha : append C h n t0 t1 s x = some r)
    (h0 : ats[0]? = some t0) (h1 : ats[1]? = some t1) {sx xx : Value} (hs : VRel ρ s sx) (hx : VRel ρ x xx) (hf : Fresh ρ n r.2.2) :
    ∃ y w' ρ', (Builtin.append_ ats rt #[sx, xx]).run C.P w = .ok y w' ∧ Evo ρ h n w ρ' r.2.1 r.2.2 w' ∧ VRel ρ' r.1 y := by
  unfold append at ha
  replace ha := of_bind ha
  obtain ⟨i0, hi0, ha⟩ := ha
  replace ha := of_bind ha
  obtain ⟨i1, hi1, ha⟩ := ha
  obtain ⟨_, s0⟩ := hC.spec hi0
  obtain ⟨_, s1⟩ := hC.spec hi1
  have u0 := s0.und
  have u1 := s1.und
  split at ha
  · cases ha
  · rename_i e hd0 hno
    have hd1 : ∀ k, i1.desc ≠ .int k := fun k hk => hno k hk
    rw [hd0] at u0
    replace ha := of_bind ha
    obtain ⟨j, hj, ha⟩ := ha
    obtain ⟨xj, sj⟩ := hC.spec hj
    replace ha := of_cond_none ha
    obtain ⟨g, ha⟩ := ha
    simp only [Bool.or_eq_false_iff, beq_false_iff] at g
    obtain ⟨g1, g2⟩ := g
    replace ha := of_bind ha
    obtain ⟨m, hm, ha⟩ := ha
    replace ha := of_bind ha
    obtain ⟨new, hnew, ha⟩ := ha
    replace ha := of_cond_none ha
    obtain ⟨gsz, ha⟩ := ha
    simp only [Bool.not_eq_false', beq_true_iff] at gsz
    have l1 := lenOf_run (C := C) hm hx w
    obtain ⟨ys, f2, f3, f4, f1⟩ := firstCells_runs (C := C) H hnew hx
    have f1' : ∀ w', w'.heap = w.heap → (Builtin.firstCells j.size m xx).run C.P w' = .ok ys.toArray w' := fun w' hw => (f1 w' hw).1
    have hbytes : xj.bytes ≠ 0 := by rw [← sj.bytes]; exact g2
    have grows : ∀ {base : Option Addr} {len cap need : Nat} {row : Rope V} {h2 : Heap} {olds : List Value}, HRel ρ h2 w → ¬ (len + m ≤ cap) → need = len + m → grown h2 n need j row = some r →
        sx = .slice base len cap → row.Ok → VRels ρ row.toList (olds ++ ys) → (∀ x ∈ olds, x.oneCell' = true) → (∀ w', w'.heap = w.heap → (Builtin.firstCells j.size len sx).run C.P w' = .ok olds.toArray w') →
        ∃ y w' ρ', (Builtin.append_ ats rt #[sx, xx]).run C.P w = .ok y w' ∧ Evo ρ h2 n w ρ' r.2.1 r.2.2 w' ∧ VRel ρ' r.1 y := by
      rintro base len cap need row h2 olds H2 hfit rfl hg rfl o1 o2 o3 o4
      obtain ⟨z, zs, hz, hzs, hz2, hroom, rfl⟩ := grown_spec hg
      obtain ⟨zy, z1, z2⟩ := sj.run_zeros hz ρ
      obtain ⟨c1, c2, c3⟩ := z2.cells hzs
      have hzy : zy.cells.size = j.size := by
        have := c2.length
        rw [← hz2, Rope.size_eq c1, this]; simp
      have hle : Builtin.nextslicecap (len + m) cap * xj.bytes ≤ 281474976710656 := by
        have := nextslicecap_le (newLen := len + m) (oldCap := cap) (by omega)
        rw [← sj.bytes]
        exact Nat.le_trans (Nat.mul_le_mul_right _ this) hroom
      obtain ⟨q, hq⟩ := append_grows (rt := rt) (P := C.P) (w := w) h0 h1 u0 u1 hd1 (sj.run_size) (sj.run_info) hbytes l1 hfit hle o4 f1' z1 (by omega)
      obtain ⟨ρ', e1, e2⟩ := grown_evo (d := w.drew) (es := j.size) (xs := olds ++ ys) (ex := q) (rest := (List.replicate q zy.cells.toList).flatten) H2 rfl (hf n (Nat.le_refl _) (by simp)) o1 o2
        (by intro x hx; rcases List.mem_append.1 hx with hx | hx; exact o3 x hx; exact f4 x hx) (by simp [hzy]) e (len + m)
      exact ⟨_, _, ρ', hq, e1, e2⟩
    have n0 := Rope.size_eq f2
    have n1 := f3.length
    split at ha
    · cases hs
      by_cases hm0 : m = 0
      · rw [show Nat.beq m 0 = true from by simpa using hm0] at ha
        simp only [cond_true] at ha
        cases ha
        refine ⟨.slice none 0 0, w, ρ, ?_, .refl n H, .s _⟩
        have := append_fits (rt := rt) (P := C.P) (w := w) (w' := w) (base := none) (len := 0) (cap := 0) h0 h1 u0 u1 hd1 sj.run_size l1 (by omega) (f1' w rfl) rfl
        rw [this, hm0]
      · rw [show Nat.beq m 0 = false from by simpa using hm0] at ha
        simp only [cond_false] at ha
        exact grows (olds := []) H (by omega) (by omega) ha rfl f2 (by simpa using f3) (by simp) (fun w' _ => rfl)
    · rename_i b off len cap op
      cases hs with | @slice _ _ _ _ c sh ex o _ hr hl ho =>
      by_cases hfit : len + m ≤ cap
      · rw [show Nat.ble (len + m) cap = true from by simpa using hfit] at ha
        simp only [cond_true] at ha
        replace ha := of_bind ha
        obtain ⟨h', hh, ha⟩ := ha
        cases ha
        by_cases hz : new.size = 0
        · rw [show Nat.beq new.size 0 = true from by simpa using hz] at hh
          simp only [cond_true] at hh
          cases hh
          have : ys = [] := List.eq_nil_of_length_eq_zero (by omega)
          subst this
          refine ⟨_, w, ρ, append_fits (rt := rt) (P := C.P) (w := w) (w' := w) (base := some ⟨c, o, none⟩) (len := len) (cap := cap + xcap op ex) h0 h1 u0 u1 hd1 sj.run_size l1 (by omega) (f1' w rfl) rfl, .refl n H, .slice hr hfit ho⟩
        · rw [show Nat.beq new.size 0 = false from by simpa using hz] at hh
          simp only [cond_false] at hh
          obtain ⟨g, hh⟩ := of_cond_none hh
          simp only [beq_false_iff] at g
          have ho' := ho (by omega)
          subst ho'
          obtain ⟨w', s1, s2⟩ := storeCells_run (C := C) H hh hr f2 f3 f4 n
          refine ⟨_, w', ρ, append_fits (rt := rt) (P := C.P) (w := w) (w' := w') (base := some ⟨c, off + sh, none⟩) (len := len) (cap := cap + xcap op ex) h0 h1 u0 u1 hd1 sj.run_size l1 (by omega) (f1' w rfl) ?_, s2, .slice hr hfit ho⟩
          simp only [addr_add]
          rw [show off + sh + len * j.size = off + len * j.size + sh from by omega]
          exact s1
      · rw [show Nat.ble (len + m) cap = false from by simpa using hfit] at ha
        simp only [cond_false] at ha
        replace ha := of_bind ha
        obtain ⟨old, hold, ha⟩ := ha
        have hsv : VRel ρ (.slice b off len cap op) (.slice (some ⟨c, o, none⟩) len (cap + xcap op ex)) := .slice hr hl ho
        obtain ⟨os, p2, p3, p4, p1⟩ := firstCells_runs (C := C) H hold hsv
        have p1' : ∀ w', w'.heap = w.heap → (Builtin.firstCells j.size len (.slice (some ⟨c, o, none⟩) len (cap + xcap op ex))).run C.P w' = .ok os.toArray w' := fun w' hw => (p1 w' hw).1
        obtain ⟨a1, a2, a3⟩ := Rope.app_ok p2 f2
        have arow : VRels ρ (old.app new).toList (os ++ ys) := by rw [a2]; exact p3.append f3
        cases op with
        | false =>
          simp only [cond_false] at ha
          exact grows H (by simpa [xcap] using hfit) rfl ha rfl a1 arow p4 p1'
        | true =>
          simp only [cond_true] at ha
          replace ha := of_bind ha
          obtain ⟨q, hq, ha⟩ := ha
          obtain ⟨gg, ha⟩ := of_cond_some ha
          simp only [Bool.and_eq_true, beq_true_iff] at gg
          obtain ⟨gg1, gg2⟩ := gg
          by_cases hfit2 : len + m ≤ cap + ex
          · obtain ⟨hg, arr, t', fz, pre, mid, post, k1, k2, k3, k4, k5, k6, k7, k8⟩ := H.cells hq hr
            have ho' := ho (by simp [xcap]; omega)
            subst ho'
            have z1 := Rope.size_eq k2
            have z2 := k5.length
            have z3 : arr.size = pre.length + mid.length + post.length := by rw [← Array.length_toList, k3]; simp; omega
            obtain ⟨_, _, _, _, _, _, hrr⟩ := grown_spec ha
            have hmul : len * j.size ≤ cap * j.size := Nat.mul_le_mul_right _ hl
            have hos : os = (mid.drop off).take (len * j.size) := by
              have e1 := (p1 w rfl).2 _ _ _ rfl
              have e : ((mid.drop off).take (len * j.size)).length = len * j.size := by simp; omega
              have e2 := run_loadCells_list (P := C.P) (w := w) ⟨c, off + sh, none⟩ ((mid.drop off).take (len * j.size)) (by
                intro i y hj
                rw [List.getElem?_take] at hj
                split at hj
                · rw [List.getElem?_drop] at hj
                  have := cell_of_row (w := w) k1 k3 hj
                  rw [addr_add, ← k4, ← this]
                  congr 2; omega
                · cases hj)
              rw [e, e1] at e2
              injection e2 with e2
              exact List.toArray_inj e2
            have hys : ys.length = m * j.size := by omega
            have hmul2 : (len + m) * j.size ≤ (cap + ex) * j.size := Nat.mul_le_mul_right _ hfit2
            have hex : ex * j.size ≤ post.length := by rw [← gg1]; exact k7
            rw [Nat.add_mul, Nat.add_mul] at hmul2
            have hst := run_storeCells_gen (P := C.P) c (off + sh + len * j.size) t' fz ys 0 arr w k1 (by omega) f4 k8
            subst hrr
            obtain ⟨ρ', r1, r2⟩ := Evo.rename H hg hr (hf n (Nat.le_refl _) (by simp)) rfl (sh' := sh + off) (ex' := cap + ex - (len + m))
              (o' := .cells (old.app new) j.size) (x' := .cells (arr.toList.take (off + sh + len * j.size + 0) ++ ys ++ arr.toList.drop (off + sh + len * j.size + 0 + ys.length)).toArray t' fz) rfl (fun ρ' hle => by
                refine .cells a1 (pre ++ mid.take off) (os ++ ys) (arr.toList.drop (off + sh + len * j.size + ys.length)) ?_ ?_ (arow.mono hle) ?_ ?_ ?_
                · simp only [Nat.add_zero]
                  congr 1
                  rw [← List.append_assoc]
                  congr 1
                  rw [k3, hos, List.append_assoc pre, List.take_append, List.take_of_length_le (show pre.length ≤ off + sh + len * j.size by omega)]
                  rw [show off + sh + len * j.size - pre.length = off + len * j.size from by omega, List.take_append_of_le_length (by omega), List.take_add, List.append_assoc]
                · simp; omega
                · intro x hx; rcases List.mem_append.1 hx with hx | hx; exact p4 x hx; exact f4 x hx
                · simp only [List.length_drop, Array.length_toList]
                  rw [Nat.sub_mul, Nat.add_mul, Nat.add_mul]
                  omega
                · intro i hi
                  apply k8
                  simp at hi
                  omega)
            refine ⟨_, _, ρ', append_fits (rt := rt) (P := C.P) (w := w) (base := some ⟨c, off + sh, none⟩) (len := len) (cap := cap + xcap true ex) h0 h1 u0 u1 hd1 sj.run_size l1 (by simpa [xcap] using hfit2) (f1' w rfl) (by simp only [addr_add]; exact hst), r2, ?_⟩
            have := VRel.slice (ρ := ρ') (off := 0) (len := len + m) (cap := len + m) (op := true) (o := off + sh) r1 (Nat.le_refl _) (fun _ => by omega)
            have e9 : len + m + xcap true (cap + ex - (len + m)) = cap + xcap true ex := by simp [xcap]; omega
            rw [e9] at this
            exact this
          · obtain ⟨y, w', ρ', v1, v2, v3⟩ := grows (H.weaken (h' := h.del b) (fun k ok hk => by
              rw [Tree.get_del] at hk
              split at hk
              · cases hk
              · exact hk)) (by simpa [xcap] using hfit2) rfl ha rfl a1 arow p4 p1'
            exact ⟨y, w', ρ', v1, (Evo.drop H n b).trans v2, v3⟩
    · cases ha
  · cases ha

end Go.Ev
