import Derived.Test.YtkcdhdilifolfaaGreatIQ1
namespace Go.Ev
set_option maxRecDepth 20000

/-! ### Bytes as strings -/
theorem conv_slice (h : Heap) (b o l c : Nat) (p : Bool) : convert CC h 23 9 (.slice b o l c p) = (firstCells h 1 l (.slice b o l l false)).bind fun cs => (toBytes cs.toList).bind fun bs => some (.s (.string ⟨bs.toArray⟩)) := of_eq (by kernel_rfl)
theorem conv_nil (h : Heap) : convert CC h 23 9 (.s (.slice none 0 0)) = some (.s (.string .empty)) := of_eq (by kernel_rfl)
theorem toBytes_ok : ∀ l : List Int, ∃ bs, toBytes (bytesV' l) = some bs ∧ bs.length = l.length
  | [] => ⟨[], rfl, rfl⟩
  | x :: l => by
    obtain ⟨bs, h, h2⟩ := toBytes_ok l
    exact ⟨UInt8.ofNat x.toNat :: bs, by show (toBytes (bytesV' l)).bind _ = _; rw [h]; rfl, by simp [h2]⟩
theorem conv_ok {h : Heap} {b : Nat} {v : V} {l : List Int} (H : BytesAt h b v l) : ∃ s, convert CC h 23 9 v = some (.s (.string s)) ∧ s.size = l.length := by
  rcases H with ⟨rfl, h0, _⟩ | ⟨o, c, op, A, es, rfl, h2, h3, h4⟩
  · exact ⟨_, conv_nil h, h0.symm⟩
  · obtain ⟨bs, hb, hbl⟩ := toBytes_ok l
    have hr : Row h 1 l.length (bytesV' l) (.slice b o l.length l.length false) := .row h2 h3 h4
    obtain ⟨r, r1, r2, r3⟩ := hr.all
    exact ⟨⟨bs.toArray⟩, by rw [conv_slice, r1, Option.bind_some, r2, hb]; rfl, by rw [← hbl]; rfl⟩
theorem str_eq (t : TypeId) (cst : Bool) (a b : ByteArray) : ∃ r, binop CC .eql t cst (.s (.string a)) (.s (.string b)) = some (.s (.bool r)) := ⟨_, by rfl⟩
theorem equal_ok {h : Heap} {n a b : Nat} {v w : V} {l m : List Int} (H : BytesAt h a v l) (G : BytesAt h b w m) :
    CallK CC 135 [v, w] h n fun r h' n' => (∃ t, r = .s (.bool t)) ∧ h' = h := by
  refine F135_call fun hlt => ?_
  rw [F135_eq]
  obtain ⟨s, e1, _⟩ := conv_ok H
  obtain ⟨t, e2, _⟩ := conv_ok G
  obtain ⟨r, e3⟩ := str_eq 9 false s t
  simp [e1, e2, e3]

/-! ### A key's sum, and the places where it may stand -/
theorem wrap_u32r (x : Int) : 0 ≤ wrapF .u32 x ∧ wrapF .u32 x < 4294967296 := by
  unfold wrapF
  simp only [p2, IntKind.signed, cond_false]
  exact ⟨Int.emod_nonneg x (by decide), Int.emod_lt_of_pos x (by decide)⟩
theorem sum_loop {b : Nat} {sl : V} {l : List Int} (hl : l.length ≤ 4611686018427387904) {Q : X → St → Prop} {h : Heap} (hs : BytesAt h b sl l)
    (hQ : ∀ x t8 n s, 0 ≤ x → x < 4294967296 → F137_L110100 (.s (.int .u32 x)) sl (.s (.int .i64 l.length)) t8 h n s → Q (.exit 0) s) :
    ∀ m s, (∃ (i : Nat) (x : Int) (n : Nat), m = l.length - i ∧ i ≤ l.length ∧ 0 ≤ x ∧ x < 4294967296 ∧ F137_L110100 (.s (.int .u32 x)) sl (.s (.int .i64 l.length)) (.s (.int .i64 i)) h n s) →
      LoopK CC none (subC [1, 1, 0, 1, 0, 0] (bodyOf Go.Proofs.Tryz.f137)) s Q := by
  refine loopH CCok _ ?_
  rintro m s ⟨i, x, n, hm, hi, x0, x1, hs'⟩ hlt
  obtain ⟨g, rfl⟩ := hs'
  rw [F137_b110100]
  by_cases hi' : i < l.length
  · have e3 : wrapF .i64 ((i : Int) + 1) = ((i + 1 : Nat) : Int) := by rw [wrapF_i64 (by omega) (by omega)]; rfl
    obtain ⟨p, p1, p2⟩ := hs.ix hi'
    simp [hi', p1, p2, roundQ]
    exact ⟨l.length - (i + 1), by omega, h, fun hok b o hb => ⟨o, hb, hok b o hb⟩, i + 1, rfl, by omega, _, (wrap_u32r _).1, (wrap_u32r _).2, _, by rw [e3]; exact F137_L110100_of⟩
  · have : i = l.length := by omega
    subst this
    simp [roundQ]
    exact hQ x _ n _ x0 x1 F137_L110100_of
theorem sum_ok {b : Nat} {sl : V} {l : List Int} (hl : l.length ≤ 4611686018427387904) {h : Heap} {n : Nat} (hs : BytesAt h b sl l) :
    CallK CC 137 [sl] h n fun v h' n' => (∃ x : Int, v = .s (.int .u32 x) ∧ 0 ≤ x ∧ x < 4294967296) ∧ h' = h := by
  refine F137_call fun hlt => ?_
  rw [F137_eq]
  simp [hs.len]
  refine sum_loop hl hs ?_ _ _ ⟨0, 2166136261, n, rfl, by omega, by omega, by omega, F137_L110100_of⟩
  intro x t8 n' s x0 x1 hs'
  obtain ⟨g, rfl⟩ := hs'
  rw [F137_r110100_0]
  exact ⟨⟨x, rfl, x0, x1⟩, rfl⟩
/-- The places, one behind the other, are yielded. -/
theorem way1_loop {l hb : Nat} {f PP : Nat} (hf : f < PP) (hPP : PP ≤ 1024) (P : Nat → Heap → Nat → Prop) (R : Heap → Nat → Prop) (hP0 : ∀ i h n n', P i h n → n ≤ n' → P i h n')
    (hPr : ∀ i h n, P i h n → ∃ hs key mx nn ks d o c op cs, h.get hb = some (.cells (.lst [.ptr hs 0]) 1) ∧ h.get hs = some (.cells (.lst [key, mx, nn, ks, .slice d o PP c op, cs]) 6))
    (hR : ∀ i p h n, p < PP → P i h n → RoundK CC l [.s (.int .i64 (p : Nat))] h n fun v h' n' => ∃ bb, v = .s (.bool bb) ∧ if bb = true then P (i + 1) h' n' else R h' n') {Q : X → St → Prop}
    (hQ : ∀ i h n s t4 t5, F136_L1100 (.yield l) (.ptr hb 0) t4 (.s (.int .i64 (PP : Nat))) t5 h n s → P i h n → Q (.exit 0) s)
    (hQ1 : ∀ h n (L : List V), R h n → Q .ret ⟨mkTm L, h, n, []⟩) :
    ∀ m s, (∃ i h n, m = PP - i ∧ i ≤ PP ∧ F136_L1100 (.yield l) (.ptr hb 0) (.s (.int .i64 (f : Nat))) (.s (.int .i64 (PP : Nat))) (.s (.int .i64 (i : Nat))) h n s ∧ P i h n) →
      LoopK CC none (subC [1, 1, 0, 0] (bodyOf Go.Proofs.Tryz.f136)) s Q := by
  refine loopH CCok _ ?_
  rintro m s ⟨i, h, n, hm, hi, hs', hp⟩ hlt
  obtain ⟨g, rfl⟩ := hs'
  rw [F136_b1100]
  by_cases hi' : i < PP
  · have e3 : wrapF .i64 ((i : Int) + 1) = ((i + 1 : Nat) : Int) := by rw [wrapF_i64 (by omega) (by omega)]; rfl
    obtain ⟨w, hw⟩ : ∃ w : Nat, w = f + i := ⟨_, rfl⟩
    have e4 : wrapF .i64 ((f : Int) + (i : Int)) = (w : Int) := by rw [wrapF_i64 (by omega) (by omega)]; omega
    obtain ⟨y, hy⟩ : ∃ y : Nat, y = w % PP := ⟨_, rfl⟩
    have e5 : ((w : Int)).tmod (PP : Int) = (y : Int) := by rw [Int.tmod_eq_emod_of_nonneg (by omega)]; omega
    have hyP : y < PP := by rw [hy]; exact Nat.mod_lt _ (by omega)
    obtain ⟨hs, key, mx, nn, ks, d, o, c, op, cs, q1, q2⟩ := hPr i h n hp
    have e6 := bin_rem (C := CC) 3 false .i64 (w : Int) (b := (PP : Int)) (by omega)
    simp [hi', cellsAt, q1, q2, e4, e6, e5, callV]
    refine RoundK.mono' ?_ (hR i y h n hyP hp)
    rintro v h1 n1 ⟨bb, rfl, hb⟩
    cases bb with
    | true =>
      simp [roundQ]
      simp at hb
      exact ⟨PP - (i + 1), by omega, h1, fun hok b o hb => ⟨o, hb, hok b o hb⟩, i + 1, rfl, by omega, h1, n1, by rw [e3]; exact F136_L1100_of, hb⟩
    | false =>
      simp [roundQ]
      simp at hb
      exact hQ1 _ _ _ hb
  · have : i = PP := by omega
    subst this
    simp [roundQ]
    exact hQ i h n _ _ _ F136_L1100_of hp
theorem way1_ok {l kb hb b : Nat} {sl : V} {k : List Int} {PP : Nat} (hP1 : 1 ≤ PP) (hPP : PP ≤ 1024) (hk : k.length ≤ 4611686018427387904) (P : Nat → Heap → Nat → Prop) (R : Heap → Nat → Prop) (hP0 : ∀ i h n n', P i h n → n ≤ n' → P i h n')
    (hPr : ∀ i h n, P i h n → ∃ hs key mx nn ks d o c op cs, h.get hb = some (.cells (.lst [.ptr hs 0]) 1) ∧ h.get hs = some (.cells (.lst [key, mx, nn, ks, .slice d o PP c op, cs]) 6))
    (hR : ∀ i p h n, p < PP → P i h n → RoundK CC l [.s (.int .i64 (p : Nat))] h n fun v h' n' => ∃ bb, v = .s (.bool bb) ∧ if bb = true then P (i + 1) h' n' else R h' n')
    {h : Heap} {n : Nat} (hkb : h.get kb = some (.cells (.lst [sl]) 1)) (hsl : BytesAt h b sl k) (hP : P 0 h n) :
    CallK CC 136 [.yield l, .ptr kb 0, .ptr hb 0] h n fun _ h' n' => (∃ i, P i h' n') ∨ R h' n' := by
  refine F136_call fun hlt => ?_
  rw [F136_eq]
  obtain ⟨hs, key, mx, nn, ks, d, o, c, op, cs, q1, q2⟩ := hPr 0 h n hP
  have e1 : wrapF .u32 (PP : Int) = (PP : Int) := wrapF_u32 (by omega) (by omega)
  have esl : normV sl = sl := by rcases hsl with ⟨rfl, _⟩ | ⟨_, _, _, _, _, rfl, _⟩ <;> rfl
  simp [cellsAt, hkb, q1, q2, e1, esl]
  refine CallK.monoN ?_ (sum_ok hk hsl)
  rintro _ h1 n1 ⟨⟨x, rfl, x0, x1⟩, rfl⟩ hn1
  obtain ⟨x, rfl⟩ : ∃ xn : Nat, x = xn := ⟨x.toNat, by omega⟩
  obtain ⟨y, hy⟩ : ∃ y : Nat, y = x % PP := ⟨_, rfl⟩
  have hyP : y < PP := by rw [hy]; exact Nat.mod_lt _ (by omega)
  have e5 : ((x : Int)).tmod (PP : Int) = (y : Int) := by rw [Int.tmod_eq_emod_of_nonneg x0]; omega
  have e6 := bin_rem (C := CC) 73 false .u32 x (b := (PP : Int)) (by omega)
  have e7 : wrapF .i64 (y : Int) = y := wrapF_i64 (by omega) (by omega)
  simp [cellsAt, q1, q2, e5, e6, e7]
  refine way1_loop (f := y) hyP hPP P R hP0 hPr hR ?_ ?_ _ _ ⟨0, _, _, rfl, by omega, F136_L1100_of, hP0 0 _ _ _ hP (by omega)⟩
  · intro i h2 n2 s t4 t5 hs hp
    obtain ⟨g, rfl⟩ := hs
    rw [F136_r1100_0]
    exact .inl ⟨i, hp⟩
  · intro h2 n2 L hr
    simp [resume, retW, dropDefs]
    exact .inr hr

structure HashAt (τ : Ty0) (h : Heap) (b key PP : Nat) (ks st cs : V) (mx n : Int) : Prop where
  hg : h.get b = some (.cells (.lst [.s (.int .i64 (key : Nat)), .s (.int .i64 mx), .s (.int .i64 n), ks, st, cs]) 6)
  hks : NumsS τ .u8 ks (PP * key)
  hst : NumsS τ .u8 st PP
  hcs : NumsS τ .i64 cs PP
  p1 : 1 ≤ PP
  p2 : PP ≤ 1024
  k1 : 1 ≤ key
  k2 : key ≤ 16
theorem HashAt.of_inv {τ : Ty0} {h : Heap} {n b : Nat} (I : TInv τ h n) (hb : τ b = some .hash) : ∃ key PP ks st cs mx m, HashAt τ h b key PP ks st cs mx m := by
  obtain ⟨_, key, mx, m, ks, st, cs, P, h1, h2, h3, h4, h5, h6, h7, h8⟩ := I b _ hb
  exact ⟨key, P, ks, st, cs, mx, m, h1, h2, h3, h4, h5, h6, h7, h8⟩
theorem HashAt.of {τ : Ty0} {h h' : Heap} {b key PP : Nat} {ks st cs : V} {mx m : Int} (H : HashAt τ h b key PP ks st cs mx m) (e : h'.get b = h.get b) : HashAt τ h' b key PP ks st cs mx m :=
  ⟨by rw [e]; exact H.hg, H.hks, H.hst, H.hcs, H.p1, H.p2, H.k1, H.k2⟩
/-- The key of a place. -/
theorem hashAt_ok {τ : Ty0} {h : Heap} {n b key PP p : Nat} {ks st cs : V} {mx m : Int} (H : HashAt τ h b key PP ks st cs mx m) (hp : p < PP) :
    CallK CC 111 [.ptr b 0, .s (.int .i64 (p : Nat))] h n fun v h' n' => (∃ d o lo hi, v = .slice d o key key false ∧ τ d = some (.nums .u8 lo hi) ∧ lo ≤ o ∧ o + key ≤ hi) ∧ h' = h := by
  refine F111_call fun hlt => ?_
  rw [F111_eq]
  obtain ⟨d, o, c, op, lo, hi, hv, hd, h1, h2, h3⟩ := H.hks
  have hg := H.hg
  have := H.p2
  have := H.k2
  rw [hv] at hg
  have hle : (p + 1) * key ≤ PP * key := Nat.mul_le_mul_right _ (by omega)
  have hle2 : PP * key ≤ 1024 * 16 := Nat.mul_le_mul (by omega) (by omega)
  obtain ⟨x, hx⟩ : ∃ x : Nat, x = p * key := ⟨_, rfl⟩
  obtain ⟨y, hy⟩ : ∃ y : Nat, y = (p + 1) * key := ⟨_, rfl⟩
  have hxy : y = x + key := by rw [hx, hy, Nat.add_mul]; omega
  obtain ⟨q, hq⟩ : ∃ q : Nat, q = p + 1 := ⟨_, rfl⟩
  have e0 : wrapF .i64 ((p : Int) + 1) = (q : Int) := by rw [wrapF_i64 (by omega) (by omega)]; omega
  have e1 : wrapF .i64 ((p : Int) * (key : Int)) = (x : Int) := by
    have : (p : Int) * (key : Int) = (x : Int) := by rw [hx]; simp
    rw [this, wrapF_i64 (by omega) (by omega)]
  have e2 : wrapF .i64 ((q : Int) * (key : Int)) = (y : Int) := by
    have : (q : Int) * (key : Int) = (y : Int) := by rw [hy, ← hq]; simp
    rw [this, wrapF_i64 (by omega) (by omega)]
  simp [cellsAt, hg, e0, e1, e2, bounds, bound, ble_dec, show y ≤ c by omega, show x ≤ y by omega]
  exact ⟨d, o + x, ⟨rfl, rfl, by omega⟩, lo, hi, hd, by omega, by omega⟩
theorem way_ok {b hb : Nat} {sl : V} {k : List Int} {h : Heap} {n : Nat} (hs : BytesAt h b sl k) :
    CallK CC 110 [.ptr hb 0, sl] h n fun v h' n' => (∃ kb hx, v = .func (.func 136) [] [.ptr kb 0, .ptr hx 0] ∧ n ≤ kb ∧ n ≤ hx ∧ kb < n' ∧ hx < n' ∧ h'.get kb = some (.cells (.lst [sl]) 1) ∧ h'.get hx = some (.cells (.lst [.ptr hb 0]) 1)) ∧ Same n [] h h' := by
  refine F110_call fun hlt1 => ?_
  rw [F110_eq]
  have esl : V.cells sl = some (.one sl) ∧ normV sl = sl := by rcases hs with ⟨rfl, _⟩ | ⟨_, _, _, _, _, rfl, _⟩ <;> exact ⟨rfl, rfl⟩
  simp only [esl, oK_some, cells_ptr, Rope.toList_one]
  refine ⟨⟨n + 1, n, rfl, by omega, by omega, by omega, by omega, by rw [Tree.get_set, if_pos rfl], by rw [Tree.get_set, if_neg (by omega), Tree.get_set, if_pos rfl]⟩, fun x hx _ => by rw [Tree.get_set, if_neg (by omega), Tree.get_set, if_neg (by omega)]⟩
theorem nums_list {A : List V} {o : Nat} : ∀ (len : Nat), o + len ≤ A.length → (∀ i, o ≤ i → i < o + len → ∃ x, A[i]? = some (.s (.int .u8 x))) → ∃ l : List Int, l.length = len ∧ (A.drop o).take len = bytesV' l
  | 0, _, _ => ⟨[], rfl, by simp [bytesV']⟩
  | len + 1, hl, H => by
    obtain ⟨l, h1, h2⟩ := nums_list len (by omega) fun i a b => H i a (by omega)
    obtain ⟨x, hx⟩ := H (o + len) (by omega) (by omega)
    refine ⟨l ++ [x], by simp [h1], ?_⟩
    have e : (A.drop o).take (len + 1) = (A.drop o).take len ++ [.s (.int .u8 x)] := by
      rw [List.take_add_one, List.getElem?_drop, hx]; rfl
    rw [e, h2]; simp [bytesV']
theorem nums_bytes {τ : Ty0} {h : Heap} {n d lo hi o len c : Nat} {op : Bool} (I : TInv τ h n) (hd : τ d = some (.nums .u8 lo hi)) (h1 : lo ≤ o) (h2 : o + len ≤ hi) : ∃ l : List Int, l.length = len ∧ BytesAt h d (.slice d o len c op) l := by
  obtain ⟨hdn, A, es, hg, hA, hi2⟩ := I d _ hd
  obtain ⟨l, e1, e2⟩ := nums_list (A := A) (o := o) len (by omega) fun i a b => hi2 i (by omega) (by omega)
  subst e1
  exact ⟨l, rfl, .inr ⟨o, c, op, A, es, rfl, by simp [cellsAt, hg], by simpa using e2, by simp⟩⟩
theorem place_way {t0 t1 t2 t3 t4 t5 t6 t7 t8 t9 t10 t11 t12 t13 t14 t15 t16 t17 t18 t19 t20 t21 t22 t23 t24 t25 t26 t27 t28 t29 t30 t31 t32 t33 t34 t35 t36 t37 t38 t39 t40 t41 t42 : V} {τ : Ty0} {h8 : Heap} {m hb key PP b kb hx n2 n3 r : Nat} {ks st cs sl : V} {mx mm : Int} {k : List Int} (I : TInv τ h8 m) (H : HashAt τ h8 hb key PP ks st cs mx mm) (hbm : hb < m) (hrh : hb ≠ r) (hbn : b < m) (hbr : b ≠ r) (hs : BytesAt h8 b sl k) (hk : k.length ≤ 4611686018427387904)
    (e2 : t2 = .ptr n2 0) (g2 : h8.get n2 = some (.cells (.lst [.ptr hb 0]) 1)) (e3 : t3 = .ptr n3 0) (g3 : h8.get n3 = some (.cells (.lst [sl]) 1)) (e4 : t4 = .ptr r 0) (g4 : h8.get r = some (.cells (.lst [.s (.int .i64 0)]) 1)) (hr : r < m) (hrt : τ r = none)
    (gk : h8.get kb = some (.cells (.lst [sl]) 1)) (gx : h8.get hx = some (.cells (.lst [.ptr hb 0]) 1)) (l2 : n2 < m) (l3 : n3 < m) (lk : kb < m) (lx : hx < m) (d2 : n2 ≠ r) (d3 : n3 ≠ r) (dk : kb ≠ r) (dx : hx ≠ r) :
    CallK CC 136 [.yield (m + 1), .ptr kb 0, .ptr hx 0] ((h8.set m .defd).set (m + 1) (.loop .ready none (mkTm [t0, t1, t2, t3, t4, t5, t6, t7, t8, t9, t10, t11, t12, t13, t14, t15, t16, t17, t18, t19, t20, t21, t22, t23, t24, t25, t26, t27, t28, t29, t30, t31, t32, t33, t34, t35, t36, t37, t38, t39, t40, t41, t42]) [16] (subC [1, 1, 0, 1, 0, 0] (bodyOf Go.Proofs.Tryz.f109)) (subC [1, 1, 0, 1, 0, 1] (bodyOf Go.Proofs.Tryz.f109)))) (m + 2)
      fun _ h' n' => (∃ ls pend, h'.get (m + 1) = some (.loop ls pend (mkTm [t0, t1, t2, t3, t4, t5, t6, t7, t8, t9, t10, t11, t12, t13, t14, t15, t16, t17, t18, t19, t20, t21, t22, t23, t24, t25, t26, t27, t28, t29, t30, t31, t32, t33, t34, t35, t36, t37, t38, t39, t40, t41, t42]) [16] (subC [1, 1, 0, 1, 0, 0] (bodyOf Go.Proofs.Tryz.f109)) (subC [1, 1, 0, 1, 0, 1] (bodyOf Go.Proofs.Tryz.f109))) ∧
        ((ls = .ready ∧ pend = none) ∨ (ls = .done ∧ pend = some .ret)) ∧ ∃ p : Int, h'.get r = some (.cells (.lst [.s (.int .i64 p)]) 1) ∧ p < PP) ∧ Same m [r] h8 h' ∧ h'.get m = some .defd := by
  subst e2 e3 e4
  generalize hA : subC [1, 1, 0, 1, 0, 0] (bodyOf Go.Proofs.Tryz.f109) = asg
  generalize hB : subC [1, 1, 0, 1, 0, 1] (bodyOf Go.Proofs.Tryz.f109) = bd
  generalize hT : mkTm _ = T
  generalize hh0 : ((h8.set m .defd).set (m + 1) (.loop .ready none T [16] asg bd)) = h0
  have f0 : ∀ x, x < m → h0.get x = h8.get x := fun x hx => by rw [← hh0, Tree.get_set, if_neg (by omega), Tree.get_set, if_neg (by omega)]
  have fm : h0.get m = some .defd := by rw [← hh0, Tree.get_set, if_neg (by omega), Tree.get_set, if_pos rfl]
  have fl : h0.get (m + 1) = some (.loop .ready none T [16] asg bd) := by rw [← hh0, Tree.get_set, if_pos rfl]
  obtain ⟨d, o, c, op, lo, hi, rfl, hd, h1, h2, h3⟩ := H.hst
  obtain ⟨hdn, A, es, hgd, hA', hi2⟩ := I d _ hd
  refine CallK.mono' ?_ (way1_ok (b := b) (k := k) (sl := sl) H.p1 H.p2 hk (fun _ h n => m + 2 ≤ n ∧ h.get (m + 1) = some (.loop .ready none T [16] asg bd) ∧ Same (m + 2) [m + 1] h0 h)
    (fun h n => (∃ p : Int, h.get r = some (.cells (.lst [.s (.int .i64 p)]) 1) ∧ p < PP) ∧ h.get (m + 1) = some (.loop .done (some .ret) T [16] asg bd) ∧ Same (m + 2) [m + 1, r] h0 h) ?_ ?_ ?_ ?_ ?_ ?_)
  · rintro _ h' n' (⟨i, q1, q2, q3⟩ | ⟨q1, q2, q3⟩)
    · have := H.p1
      exact ⟨⟨_, _, q2, .inl ⟨rfl, rfl⟩, 0, by rw [q3 r (by omega) (by simp; omega), f0 r hr, g4], by omega⟩, fun x hx _ => by rw [q3 x (by omega) (by simp; omega), f0 x hx], by rw [q3 m (by omega) (by simp), fm]⟩
    · exact ⟨⟨_, _, q2, .inr ⟨rfl, rfl⟩, q1⟩, fun x hx hf => by rw [q3 x (by omega) (by simp at hf ⊢; omega), f0 x hx], by rw [q3 m (by omega) (by simp; omega), fm]⟩
  · rintro _ h n n' ⟨q1, q2⟩ hn; exact ⟨by omega, q2⟩
  · rintro _ h n ⟨q1, q2, q3⟩
    refine ⟨hb, _, _, _, _, d, o, c, op, _, by rw [q3 hx (by omega) (by simp; omega), f0 hx lx, gx], by rw [q3 hb (by omega) (by simp; omega), f0 hb hbm, H.hg]⟩
  · rintro i p h n hp ⟨q1, q2, q3⟩
    refine F109_R11010 _ (by rw [hT, hA, hB]; exact q2) ?_
    rw [F109_g110101, hT, hA, hB]
    generalize hb1 : (h.set (m + 1) (.loop .busy none T [16] asg bd)) = h1
    have f1 : ∀ x, x < m → h1.get x = h8.get x := fun x hx => by rw [← hb1, Tree.get_set, if_neg (by omega), q3 x (by omega) (by simp; omega), f0 x hx]
    have s1 : Same (m + 2) [m + 1] h0 h1 := fun x hx hf => by simp at hf; rw [← hb1, Tree.get_set, if_neg hf, q3 x hx (by simpa using hf)]
    have fl1 : h1.get (m + 1) = some (.loop .busy none T [16] asg bd) := by rw [← hb1, Tree.get_set, if_pos rfl]
    have a2 : h1.get n2 = some (.cells (.lst [.ptr hb 0]) 1) := by rw [f1 n2 l2, g2]
    have a3 : h1.get n3 = some (.cells (.lst [sl]) 1) := by rw [f1 n3 l3, g3]
    have a4 : h1.get r = some (.cells (.lst [.s (.int .i64 0)]) 1) := by rw [f1 r hr, g4]
    have ah : h1.get hb = some (.cells (.lst [.s (.int .i64 (key : Nat)), .s (.int .i64 mx), .s (.int .i64 mm), ks, .slice d o PP c op, cs]) 6) := by rw [f1 hb hbm, H.hg]
    have ad : h1.get d = some (.cells (.lst A) es) := by rw [f1 d hdn, hgd]
    obtain ⟨x, hx⟩ := hi2 (o + p) (by omega) (by omega)
    have hrl : m + 1 ≠ r := by omega
    have eS : ∀ y : Int, storeCells h1 r 0 (.one (.s (.int .i64 y))) = some (h1.set r (.cells (.lst [.s (.int .i64 y)]) 1)) := by intro y; simp [storeCells, cellsOwn, a4, Rope.put, ble_dec]
    have eR : ∀ (y : Int) n', endRound .ret (m + 1) (h1.set r (.cells (.lst [.s (.int .i64 y)]) 1)) n' = some (.s (.bool false), (h1.set r (.cells (.lst [.s (.int .i64 y)]) 1)).set (m + 1) (.loop .done (some .ret) T [16] asg bd), n') := by
      intro y n'; simp [endRound, Tree.get_set, hrl, fl1, jumpOf]
    have eN : ∀ n', endRound .normal (m + 1) h1 n' = some (.s (.bool true), h1.set (m + 1) (.loop .ready none T [16] asg bd), n') := by
      intro n'; simp [endRound, fl1, jumpOf]
    have pR : ∀ y : Int, y < PP → (∃ p : Int, ((h1.set r (.cells (.lst [.s (.int .i64 y)]) 1)).set (m + 1) (.loop .done (some .ret) T [16] asg bd)).get r = some (.cells (.lst [.s (.int .i64 p)]) 1) ∧ p < PP) ∧
        ((h1.set r (.cells (.lst [.s (.int .i64 y)]) 1)).set (m + 1) (.loop .done (some .ret) T [16] asg bd)).get (m + 1) = some (.loop .done (some .ret) T [16] asg bd) ∧ Same (m + 2) [m + 1, r] h0 ((h1.set r (.cells (.lst [.s (.int .i64 y)]) 1)).set (m + 1) (.loop .done (some .ret) T [16] asg bd)) := by
      intro y hy
      refine ⟨⟨y, by rw [Tree.get_set, if_neg (by omega), Tree.get_set, if_pos rfl], hy⟩, by rw [Tree.get_set, if_pos rfl], fun z hz hf => ?_⟩
      simp at hf
      rw [Tree.get_set, if_neg hf.1, Tree.get_set, if_neg hf.2, s1 z hz (by simpa using hf.1)]
    have pN : ∀ n', m + 2 ≤ n' → m + 2 ≤ n' ∧ (h1.set (m + 1) (.loop .ready none T [16] asg bd)).get (m + 1) = some (.loop .ready none T [16] asg bd) ∧ Same (m + 2) [m + 1] h0 (h1.set (m + 1) (.loop .ready none T [16] asg bd)) := by
      intro n' hn'
      refine ⟨hn', by rw [Tree.get_set, if_pos rfl], fun z hz hf => ?_⟩
      simp at hf
      rw [Tree.get_set, if_neg hf, s1 z hz (by simpa using hf)]
    by_cases x0 : x = 0
    · simp [cellsAt, a2, ah, ad, hx, hp, blt_dec, x0, eS, eR]
      exact pR (-1) (by omega)
    · by_cases x1 : x = 1
      · have esl : normV sl = sl := by rcases hs with ⟨rfl, _⟩ | ⟨_, _, _, _, _, rfl, _⟩ <;> rfl
        simp [cellsAt, a2, ah, ad, hx, hp, blt_dec, x1, a3, esl]
        have HH : HashAt τ h1 hb key PP ks (.slice d o PP c op) cs mx mm := H.of (f1 hb hbm)
        refine CallK.monoN ?_ (hashAt_ok (n := n + 16) HH hp)
        rintro v h2 n2' ⟨⟨d', o', lo', hi', rfl, hd', b1, b2⟩, rfl⟩ hn2
        simp [a3, esl]
        obtain ⟨kl, hkl, hkb⟩ := nums_bytes (c := key) (op := false) I hd' b1 b2
        refine CallK.monoN ?_ (equal_ok (hkb.of (f1 d' (I d' _ hd').1)) (hs.of (f1 b hbn)))
        rintro v h3 n3' ⟨⟨t, rfl⟩, rfl⟩ hn3
        cases t with
        | true =>
          simp [eS, eR]
          exact pR p (by omega)
        | false =>
          simp [eN]
          exact pN _ (by omega)
      · simp [cellsAt, a2, ah, ad, hx, hp, blt_dec, x0, x1, eN]
        exact ⟨by omega, (pN n q1).2⟩
  · rw [f0 kb lk, gk]
  · exact hs.of (f0 b hbn)
  · exact ⟨by omega, fl, Same.refl _ _ _⟩
theorem hplace_ok {τ : Ty0} {h : Heap} {n hb key PP b : Nat} {ks st cs sl : V} {mx m : Int} {k : List Int} (I : TInv τ h n) (ht : τ hb = some .hash) (H : HashAt τ h hb key PP ks st cs mx m) (hbn : b < n) (hs : BytesAt h b sl k) (hk : k.length ≤ 4611686018427387904) :
    CallK CC 109 [.ptr hb 0, sl] h n fun v h' n' => (∃ p : Int, v = .s (.int .i64 p) ∧ p < PP) ∧ Same n [] h h' := by
  refine F109_call fun hlt => ?_
  rw [F109_eq]
  have hbn' : hb < n := (I hb _ ht).1
  have esl : V.cells sl = some (.one sl) ∧ normV sl = sl := by rcases hs with ⟨rfl, _⟩ | ⟨_, _, _, _, _, rfl, _⟩ <;> exact ⟨rfl, rfl⟩
  have hlen := hs.len
  have hg := H.hg
  simp only [esl, oK_some, cells_ptr, Rope.toList_one, z3]
  generalize hh : (((h.set n (.cells (.lst [.ptr hb 0]) 1)).set (n + 1) (.cells (.lst [sl]) 1)).set (n + 1 + 1) (.cells (.lst [.s (.int .i64 0)]) 1)) = h7
  have hs7 : Same n [] h h7 := fun x hx _ => by rw [← hh, Tree.get_set, if_neg (by omega), Tree.get_set, if_neg (by omega), Tree.get_set, if_neg (by omega)]
  have g0 : h7.get n = some (.cells (.lst [.ptr hb 0]) 1) := by rw [← hh, Tree.get_set, if_neg (by omega), Tree.get_set, if_neg (by omega), Tree.get_set, if_pos rfl]
  have g1 : h7.get (n + 1) = some (.cells (.lst [sl]) 1) := by rw [← hh, Tree.get_set, if_neg (by omega), Tree.get_set, if_pos rfl]
  have g2 : h7.get (n + 1 + 1) = some (.cells (.lst [.s (.int .i64 0)]) 1) := by rw [← hh, Tree.get_set, if_pos rfl]
  have I7 : TInv τ h7 (n + 3) := I.same hs7 (by omega)
  have hg7 : h7.get hb = h.get hb := hs7 hb hbn' (by simp)
  have H7 := H.of hg7
  rw [hg] at hg7
  have hP1 := H.p1
  simp [cellsAt, g0, g1, g2, hg7, hlen, esl, storeCells, cellsOwn, Rope.put, ble_dec, Tree.get_set]
  split
  · refine CallK.monoN ?_ (way_ok (hs.of (hs7 b hbn (by simp))))
    rintro _ h8 n8 ⟨⟨kb, hx, rfl, k1, k2, k3, k4, k5, k6⟩, hs8⟩ hn8
    refine F109_E11010 rfl ?_
    have I8 : TInv τ h8 n8 := I7.same (fun x hx hf => hs8 x (by omega) hf) (by omega)
    have q8 : ∀ x, x < n + 3 → h8.get x = h7.get x := fun x hx => hs8 x (by omega) (by simp)
    refine CallK.monoN ?_ (place_way (r := n + 1 + 1) (b := b) I8 (H7.of (q8 hb (by omega))) (by omega) (by omega) (by omega) (by omega) ((hs.of (hs7 b hbn (by simp))).of (q8 b (by omega))) hk
      rfl (by rw [q8 n (by omega), g0]) rfl (by rw [q8 (n + 1) (by omega), g1]) rfl (by rw [q8 (n + 1 + 1) (by omega), g2]) (by omega) (I.none (by omega)) k5 k6 (by omega) (by omega) k3 k4 (by omega) (by omega) (by omega) (by omega))
    rintro _ h9 n9 ⟨⟨ls, pend, w1, w2, p, w5, w6⟩, w3, w4⟩ hn9
    have smx : ∀ x, x < n → h9.get x = h.get x := fun x hx => by rw [w3 x (by omega) (by simp; omega), q8 x (by omega), hs7 x hx (by simp)]
    rcases w2 with ⟨rfl, rfl⟩ | ⟨rfl, rfl⟩
    · simp only [endLoop, w1, Option.bind_some, oK_some]
      rw [F109_r11010]
      generalize (O.loop .exhausted none _ _ _ _) = ob
      simp [dropDefs, Tree.get_set, Tree.get_del, w4, w5, cellsAt, storeCells, cellsOwn, Rope.put, ble_dec, show ¬ n + 1 = n8 by omega, show ¬ n + 1 + 1 = n8 by omega, show ¬ n8 = n + 1 + 1 by omega]
      refine ⟨by omega, fun x hx _ => ?_⟩
      rw [Tree.get_del, if_neg (by omega), Tree.get_set, if_neg (by omega), Tree.get_set, if_neg (by omega), smx x hx]
    · simp only [endLoop, w1, Option.bind_some, oK_some]
      rw [F109_r11010_ret]
      generalize (O.loop .exhausted (some .ret) _ _ _ _) = ob
      simp [dropDefs, Tree.get_set, Tree.get_del, w4, w5, cellsAt, show ¬ n + 1 = n8 by omega, show ¬ n + 1 + 1 = n8 by omega]
      refine ⟨w6, fun x hx _ => ?_⟩
      rw [Tree.get_del, if_neg (by omega), Tree.get_set, if_neg (by omega), smx x hx]
  · refine ⟨by omega, fun x hx _ => by rw [Tree.get_set, if_neg (by omega), hs7 x hx (by simp)]⟩
theorem hashFind_ok {τ : Ty0} {h : Heap} {n hb b : Nat} {sl : V} {k : List Int} (I : TInv τ h n) (ht : τ hb = some .hash) (hbn : b < n) (hs : BytesAt h b sl k) (hk : k.length ≤ 4611686018427387904) :
    CallK CC 167 [.ptr hb 0, sl] h n fun v h' n' => (∃ (x : Int) (t : Bool), v = .tup [.s (.int .i64 x), .s (.bool t)]) ∧ Same n [] h h' := by
  refine F167_call fun hlt => ?_
  rw [F167_eq]
  obtain ⟨key, PP, ks, st, cs, mx, m, H⟩ := HashAt.of_inv I ht
  have hbn' := (I hb _ ht).1
  refine CallK.monoN ?_ (hplace_ok I ht H hbn hs hk)
  rintro _ h1 n1 ⟨⟨p, rfl, hp⟩, hs1⟩ hn1
  by_cases p0 : p < 0
  · simp [p0]; exact hs1
  · obtain ⟨q, rfl⟩ : ∃ q : Nat, p = q := ⟨p.toNat, by omega⟩
    obtain ⟨d, o, c, op, lo, hi, hcs, hd, h1', h2, h3⟩ := H.hcs
    obtain ⟨hdn, A, es, hgd, hA, hi2⟩ := I d _ hd
    obtain ⟨x, hx⟩ := hi2 (o + q) (by omega) (by omega)
    have hg1 : h1.get hb = _ := (hs1 hb hbn' (by simp)).trans H.hg
    have hg2 : h1.get d = _ := (hs1 d hdn (by simp)).trans hgd
    subst hcs
    simp [p0, cellsAt, hg1, hg2, hx, blt_dec, show q < PP by omega]
    exact hs1
theorem hashDel_ok {τ : Ty0} {h : Heap} {n hb b : Nat} {sl : V} {k : List Int} (I : TInv τ h n) (ht : τ hb = some .hash) (hbn : b < n) (hs : BytesAt h b sl k) (hk : k.length ≤ 4611686018427387904) :
    CallK CC 166 [.ptr hb 0, sl] h n fun v h' n' => (∃ (x : Int) (t : Bool), v = .tup [.s (.int .i64 x), .s (.bool t)]) ∧ Stay τ n h h' n' := by
  refine F166_call fun hlt => ?_
  rw [F166_eq]
  obtain ⟨key, PP, ks, st, cs, mx, m, H⟩ := HashAt.of_inv I ht
  have hbn' := (I hb _ ht).1
  refine CallK.monoN ?_ (hplace_ok I ht H hbn hs hk)
  rintro _ h1 n1 ⟨⟨p, rfl, hp⟩, hs1⟩ hn1
  have st1 : Stay τ n h h1 n1 := ⟨I.same hs1 hn1, Keep.of_same hs1⟩
  by_cases p0 : p < 0
  · simp [p0]; exact st1
  · obtain ⟨q, rfl⟩ : ∃ q : Nat, p = q := ⟨p.toNat, by omega⟩
    obtain ⟨d, o, c, op, lo, hi, hst, hd, b1, b2, b3⟩ := H.hst
    obtain ⟨d', o', c', op', lo', hi', hcs, hd', c1, c2, c3⟩ := H.hcs
    obtain ⟨hdn, A, es, hgd, hA, hi2⟩ := st1.1 d _ hd
    obtain ⟨hdn', A', es', hgd', hA', hi2'⟩ := st1.1 d' _ hd'
    obtain ⟨x, hx⟩ := hi2' (o' + q) (by omega) (by omega)
    have hg1 : h1.get hb = _ := (hs1 hb hbn' (by simp)).trans H.hg
    have dd : d ≠ d' := by rintro rfl; rw [hd] at hd'; cases hd'
    have dh : hb ≠ d := by rintro rfl; rw [hd] at ht; cases ht
    have dh' : d' ≠ hb := by rintro rfl; rw [hd'] at ht; cases ht
    subst hcs hst
    have e6 : storeCells h1 d (o + q) (.one (.s (.int .u8 2))) = some (h1.set d (.cells (.lst (splice A (o + q) [.s (.int .u8 2)])) es)) := storeCells_lst hgd (by show o + q + 1 ≤ A.length; omega)
    have s2 := put_nums (h' := h1.set d (.cells (.lst (splice A (o + q) [.s (.int .u8 2)])) es)) st1.1 (Nat.le_refl _) hd hA hi2 (o := o + q) (new := [.s (.int .u8 2)]) (by omega) (by simp; omega) (by simp) (by rw [Tree.get_set, if_pos rfl]) (fun x hx => by rw [Tree.get_set, if_neg hx])
    simp [p0, cellsAt, hg1, blt_dec, show q < PP by omega, e6]
    simp [cellsAt, hg1, hgd', hx, blt_dec, show q < PP by omega, Tree.get_set, dh, dh', Ne.symm dd, storeCells, cellsOwn, Rope.put, ble_dec]
    have key2 : ∀ x, x < n1 → x ≠ hb → ((h1.set d (.cells (.lst (splice A (o + q) [.s (.int .u8 2)])) es)).set hb (.cells (.lst [.s (.int .i64 (key : Nat)), .s (.int .i64 mx), .s (.int .i64 (wrapF .i64 (m - 1))), ks, .slice d o PP c op, .slice d' o' PP c' op']) 6)).get x = (h1.set d (.cells (.lst (splice A (o + q) [.s (.int .u8 2)])) es)).get x := fun x _ hx => by rw [Tree.get_set, if_neg hx]
    refine (st1.trans hn1 s2).trans hn1 ⟨s2.1.put (Nat.le_refl _) ht key2 ⟨key, mx, _, ks, _, _, PP, by rw [Tree.get_set, if_pos rfl], H.hks, H.hst, H.hcs, H.p1, H.p2, H.k1, H.k2⟩, Keep.put ht key2⟩

theorem TInv.grow {τ τ' : Ty0} {h h' : Heap} {n n' : Nat} {fp : List Nat} (I : TInv τ h n) (hn : n ≤ n') (l : TLe τ τ') (sm : Same n [] h h') (H : ∀ b k, τ' b = some k → τ b = some k ∨ (n ≤ b ∧ b < n' ∧ WT τ' h' b k)) : TInv τ' h' n' ∧ Keep τ τ' n fp h h' := by
  refine ⟨fun b k e => ?_, l, fun b k e => ?_, fun b hb _ _ => sm b hb (by simp)⟩
  · rcases H b k e with e1 | ⟨h1, h2, h3⟩
    · obtain ⟨a1, a2⟩ := I b k e1
      exact ⟨by omega, (a2.of (sm b a1 (by simp))).le l⟩
    · exact ⟨h2, h3⟩
  · rcases H b k e with e1 | ⟨h1, _⟩
    · exact .inl e1
    · exact .inr h1
theorem cut_ok {x hi : Nat} (h1 : 1 ≤ x) (h2 : x ≤ hi) (h : Heap) (n : Nat) : CallK CC 77 [.s (.int .i64 (x : Nat)), .s (.int .i64 (hi : Nat))] h n fun v h' n' => v = .s (.int .i64 (x : Nat)) ∧ h' = h := by
  refine F77_call fun hlt => ?_
  rw [F77_eq]
  have e1 : maxW (x : Int) 1 = x := by unfold maxW; split <;> omega
  have e2 : minW (x : Int) (hi : Int) = x := by unfold minW; split <;> omega
  simp [e1, e2]
theorem hashLen_ok {τ : Ty0} {h : Heap} {n hb : Nat} (I : TInv τ h n) (ht : τ hb = some .hash) : CallK CC 56 [.ptr hb 0] h n fun v h' n' => (∃ x : Int, v = .s (.int .i64 x)) ∧ h' = h := by
  refine F56_call fun hlt => ?_
  rw [F56_eq]
  obtain ⟨key, PP, ks, st, cs, mx, m, H⟩ := HashAt.of_inv I ht
  have hg := H.hg
  simp [cellsAt, hg]
/-- As many places as there must be. -/
theorem places_loop {hb mx : Nat} (h64 : mx ≤ 64) {key : V} {Q : X → St → Prop} {h : Heap} (hg : h.get hb = some (.cells (.lst [key, .s (.int .i64 (mx : Nat)), .s (.int .i64 0), .s (.slice none 0 0), .s (.slice none 0 0), .s (.slice none 0 0)]) 6))
    {n0 : Nat} (hQ : ∀ (p n : Nat) s, 1 ≤ p → p ≤ 256 → n0 ≤ n → F50_L111000 (.ptr hb 0) (.s (.int .i64 (p : Nat))) h n s → Q (.exit 0) s) :
    ∀ m s, (∃ p n, m = 2 * mx - p ∧ 1 ≤ p ∧ p ≤ 256 ∧ n0 ≤ n ∧ F50_L111000 (.ptr hb 0) (.s (.int .i64 (p : Nat))) h n s) →
      LoopK CC none (subC [1, 1, 1, 0, 0, 0] (bodyOf Go.Proofs.Tryz.f50)) s Q := by
  refine loopH CCok _ ?_
  rintro m s ⟨p, n, hm, h1, h2, hn, hs⟩ hlt
  obtain ⟨g, rfl⟩ := hs
  rw [F50_b111000]
  obtain ⟨M2, hM2⟩ : ∃ M2 : Nat, M2 = 2 * mx := ⟨_, rfl⟩
  have e1 : wrapF .i64 (2 * (mx : Int)) = (M2 : Int) := by rw [wrapF_i64 (by omega) (by omega)]; omega
  by_cases hp : p < M2
  · obtain ⟨p2, hp2⟩ : ∃ p2 : Nat, p2 = p * 2 := ⟨_, rfl⟩
    have e2 : wrapF .i64 ((p : Int) * 2) = (p2 : Int) := by rw [wrapF_i64 (by omega) (by omega)]; omega
    simp [cellsAt, hg, e1, hp, e2, roundQ]
    exact ⟨2 * mx - p2, by omega, h, fun hok b o hb => ⟨o, hb, hok b o hb⟩, p2, rfl, by omega, by omega, n, hn, F50_L111000_of⟩
  · simp [cellsAt, hg, e1, hp, roundQ]
    exact hQ p n _ h1 h2 hn F50_L111000_of
theorem hashNew_ok {τ : Ty0} {h : Heap} {n key mx : Nat} (I : TInv τ h n) (k1 : 1 ≤ key) (k16 : key ≤ 16) (m1 : 1 ≤ mx) (m64 : mx ≤ 64) :
    CallK CC 50 [.s (.int .i64 (key : Nat)), .s (.int .i64 (mx : Nat))] h n fun v h' n' => Goes τ n [] h h' n' fun τ' => ∃ b, v = .ptr b 0 ∧ τ' b = some .hash := by
  refine F50_call fun hlt => ?_
  rw [F50_eq]
  refine CallK.monoN ?_ (cut_ok (hi := 16) k1 k16 h n)
  rintro _ h1 n1 ⟨rfl, rfl⟩ hn1
  refine CallK.monoN ?_ (cut_ok (hi := 64) m1 m64 h1 n1)
  rintro _ h2 n2 ⟨rfl, rfl⟩ hn2
  simp
  refine places_loop (n0 := n2 + 1) (key := .s (.int .i64 (key : Nat))) m64 (by rw [Tree.get_set, if_pos rfl]) ?_ _ _ ⟨1, _, rfl, by omega, by omega, Nat.le_refl _, F50_L111000_of⟩
  intro p n3 s p1 p256 hn3 hs
  obtain ⟨g, rfl⟩ := hs
  rw [F50_r111000_0]
  obtain ⟨y, hy⟩ : ∃ y : Nat, y = p * key := ⟨_, rfl⟩
  have hy2 : p * key ≤ 256 * 16 := Nat.mul_le_mul p256 k16
  have e1 : wrapF .i64 ((p : Int) * (key : Int)) = (y : Int) := by
    have : (p : Int) * (key : Int) = (y : Int) := by rw [hy]; simp
    rw [this, wrapF_i64 (by omega) (by omega)]
  simp [cellsAt, Tree.get_set, e1, ble_dec, blt_dec, show y ≤ 281474976710656 by omega, show y < 9223372036854775808 by omega, show p ≤ 281474976710656 by omega, show p < 9223372036854775808 by omega, show 8 * p ≤ 281474976710656 by omega, show ¬ n2 = n3 by omega, show ¬ n2 = n3 + 1 by omega, show ¬ n2 = n3 + 1 + 1 by omega, storeCells, cellsOwn, Rope.put]
  generalize hh : Tree.set (Tree.set (Tree.set (Tree.set (Tree.set (Tree.set (Tree.set h2 n2 _) n3 _) n2 _) (n3 + 1) _) n2 _) (n3 + 1 + 1) _) n2 _ = hf
  have g1 : hf.get n2 = some (.cells (.lst [.s (.int .i64 (key : Nat)), .s (.int .i64 (mx : Nat)), .s (.int .i64 0), .slice n3 0 y y false, .slice (n3 + 1) 0 p p false, .slice (n3 + 1 + 1) 0 p p false]) 6) := by rw [← hh, Tree.get_set, if_pos rfl]
  have g2 : hf.get n3 = some (.cells (.lst (List.replicate y (.s (.int .u8 0)))) 1) := by
    rw [← hh]; simp only [Tree.get_set]
    rw [if_neg (by omega), if_neg (by omega), if_neg (by omega), if_neg (by omega), if_neg (by omega), if_pos trivial]
  have g3 : hf.get (n3 + 1) = some (.cells (.lst (List.replicate p (.s (.int .u8 0)))) 1) := by
    rw [← hh]; simp only [Tree.get_set]
    rw [if_neg (by omega), if_neg (by omega), if_neg (by omega), if_pos trivial]
  have g4 : hf.get (n3 + 1 + 1) = some (.cells (.lst (List.replicate p (.s (.int .i64 0)))) 1) := by
    rw [← hh]; simp only [Tree.get_set]
    rw [if_neg (by omega), if_pos trivial]
  have sm : Same n [] h2 hf := fun x hx _ => by
    rw [← hh]; simp only [Tree.get_set]
    rw [if_neg (by omega), if_neg (by omega), if_neg (by omega), if_neg (by omega), if_neg (by omega), if_neg (by omega), if_neg (by omega)]
  obtain ⟨τ', hτ⟩ : ∃ τ' : Ty0, τ' = fun x => if x = n2 then some .hash else if x = n3 then some (.nums .u8 0 y) else if x = n3 + 1 then some (.nums .u8 0 p) else if x = n3 + 1 + 1 then some (.nums .i64 0 p) else τ x := ⟨_, rfl⟩
  have t1 : τ' n2 = some .hash := by rw [hτ]; simp
  have t2 : τ' n3 = some (.nums .u8 0 y) := by rw [hτ]; simp only; rw [if_neg (by omega), if_pos trivial]
  have t3 : τ' (n3 + 1) = some (.nums .u8 0 p) := by rw [hτ]; simp only; rw [if_neg (by omega), if_neg (by omega), if_pos trivial]
  have t4 : τ' (n3 + 1 + 1) = some (.nums .i64 0 p) := by rw [hτ]; simp only; rw [if_neg (by omega), if_neg (by omega), if_neg (by omega), if_pos trivial]
  have hle : TLe τ τ' := fun x k e => by
    have : x < n := (I x k e).1
    rw [hτ]; simp only
    rw [if_neg (by omega), if_neg (by omega), if_neg (by omega), if_neg (by omega)]; exact e
  have fin := TInv.grow (τ' := τ') (fp := []) I (n' := n3 + 1 + 1 + 1) (by omega) hle sm (fun b k e => by
    rw [hτ] at e; simp only at e
    split at e
    · rename_i hb; subst hb; cases e
      exact .inr ⟨by omega, by omega, key, mx, 0, _, _, _, p, g1, ⟨n3, 0, y, false, 0, y, by rw [← hy], t2, by omega, by omega, by omega⟩, ⟨n3 + 1, 0, p, false, 0, p, rfl, t3, by omega, by omega, by omega⟩, ⟨n3 + 1 + 1, 0, p, false, 0, p, rfl, t4, by omega, by omega, by omega⟩, p1, by omega, k1, k16⟩
    · split at e
      · rename_i hb; subst hb; cases e
        exact .inr ⟨by omega, by omega, _, _, g2, by simp, fun i _ hi => ⟨0, rep_at hi⟩⟩
      · split at e
        · rename_i hb; subst hb; cases e
          exact .inr ⟨by omega, by omega, _, _, g3, by simp, fun i _ hi => ⟨0, rep_at hi⟩⟩
        · split at e
          · rename_i hb; subst hb; cases e
            exact .inr ⟨by omega, by omega, _, _, g4, by simp, fun i _ hi => ⟨0, rep_at hi⟩⟩
          · exact .inl e)
  exact ⟨τ', fin.1, fin.2, t1⟩
/-! ### A key is put -/
theorem put_way {t0 t1 t2 t3 t4 t5 t6 t7 t8 t9 t10 t11 t12 t13 t14 t15 t16 t17 t18 t19 t20 t21 t22 t23 t24 t25 t26 t27 t28 t29 t30 t31 t32 t33 t34 t35 t36 t37 t38 t39 t40 t41 t42 t43 t44 t45 t46 t47 t48 t49 t50 t51 t52 t53 t54 t55 t56 t57 t58 t59 t60 t61 t62 t63 t64 t65 t66 t67 : V} {τ : Ty0} {h8 : Heap} {m hb key PP b kb hx n3 n4 n5 : Nat} {cell : Int} {ks st cs sl : V} {mx mm : Int} {k : List Int} (I : TInv τ h8 m) (ht : τ hb = some .hash) (H : HashAt τ h8 hb key PP ks st cs mx mm) (hbm : hb < m) (hbn : b < m) (hbt : τ b = none) (hs : BytesAt h8 b sl k) (hk : k.length ≤ 4611686018427387904)
    (e3 : t3 = .ptr n3 0) (g3 : h8.get n3 = some (.cells (.lst [.ptr hb 0]) 1)) (e4 : t4 = .ptr n4 0) (g4 : h8.get n4 = some (.cells (.lst [sl]) 1)) (e5 : t5 = .ptr n5 0) (g5 : h8.get n5 = some (.cells (.lst [.s (.int .i64 cell)]) 1))
    (gk : h8.get kb = some (.cells (.lst [sl]) 1)) (gx : h8.get hx = some (.cells (.lst [.ptr hb 0]) 1)) (l3 : n3 < m) (l4 : n4 < m) (l5 : n5 < m) (lk : kb < m) (lx : hx < m) (d3 : τ n3 = none) (d4 : τ n4 = none) (d5 : τ n5 = none) (dk : τ kb = none) (dx : τ hx = none) :
    CallK CC 136 [.yield (m + 1), .ptr kb 0, .ptr hx 0] ((h8.set m .defd).set (m + 1) (.loop .ready none (mkTm [t0, t1, t2, t3, t4, t5, t6, t7, t8, t9, t10, t11, t12, t13, t14, t15, t16, t17, t18, t19, t20, t21, t22, t23, t24, t25, t26, t27, t28, t29, t30, t31, t32, t33, t34, t35, t36, t37, t38, t39, t40, t41, t42, t43, t44, t45, t46, t47, t48, t49, t50, t51, t52, t53, t54, t55, t56, t57, t58, t59, t60, t61, t62, t63, t64, t65, t66, t67]) [34] (subC [1, 1, 0, 1, 0, 0] (bodyOf Go.Proofs.Tryz.f82)) (subC [1, 1, 0, 1, 0, 1] (bodyOf Go.Proofs.Tryz.f82)))) (m + 2)
      fun _ h' n' => (∃ ls pend, h'.get (m + 1) = some (.loop ls pend (mkTm [t0, t1, t2, t3, t4, t5, t6, t7, t8, t9, t10, t11, t12, t13, t14, t15, t16, t17, t18, t19, t20, t21, t22, t23, t24, t25, t26, t27, t28, t29, t30, t31, t32, t33, t34, t35, t36, t37, t38, t39, t40, t41, t42, t43, t44, t45, t46, t47, t48, t49, t50, t51, t52, t53, t54, t55, t56, t57, t58, t59, t60, t61, t62, t63, t64, t65, t66, t67]) [34] (subC [1, 1, 0, 1, 0, 0] (bodyOf Go.Proofs.Tryz.f82)) (subC [1, 1, 0, 1, 0, 1] (bodyOf Go.Proofs.Tryz.f82))) ∧
        ((ls = .ready ∧ pend = none) ∨ (ls = .done ∧ pend = some (.exit 1)))) ∧ TInv τ h' n' ∧ (∀ x, x < m → τ x = none → h'.get x = h8.get x) ∧ h'.get m = some .defd := by
  subst e3 e4 e5
  generalize hA : subC [1, 1, 0, 1, 0, 0] (bodyOf Go.Proofs.Tryz.f82) = asg
  generalize hB : subC [1, 1, 0, 1, 0, 1] (bodyOf Go.Proofs.Tryz.f82) = bd
  generalize hT : mkTm _ = T
  generalize hh0 : ((h8.set m .defd).set (m + 1) (.loop .ready none T [34] asg bd)) = h0
  have f0 : ∀ x, x < m → h0.get x = h8.get x := fun x hx => by rw [← hh0, Tree.get_set, if_neg (by omega), Tree.get_set, if_neg (by omega)]
  have fm : h0.get m = some .defd := by rw [← hh0, Tree.get_set, if_neg (by omega), Tree.get_set, if_pos rfl]
  have fl : h0.get (m + 1) = some (.loop .ready none T [34] asg bd) := by rw [← hh0, Tree.get_set, if_pos rfl]
  obtain ⟨d, o, c, op, lo, hi, rfl, hd, h1, h2, h3⟩ := H.hst
  refine CallK.mono' ?_ (way1_ok (b := b) (k := k) (sl := sl) H.p1 H.p2 hk (fun _ h n => m + 2 ≤ n ∧ h.get (m + 1) = some (.loop .ready none T [34] asg bd) ∧ Same (m + 2) [m + 1] h0 h)
    (fun h n => h.get (m + 1) = some (.loop .done (some (.exit 1)) T [34] asg bd) ∧ TInv τ h n ∧ (∀ x, x < m → τ x = none → h.get x = h8.get x) ∧ h.get m = some .defd) ?_ ?_ ?_ ?_ ?_ ?_)
  · rintro _ h' n' (⟨i, q1, q2, q3⟩ | ⟨q1, q2, q3, q4⟩)
    · exact ⟨⟨_, _, q2, .inl ⟨rfl, rfl⟩⟩, I.of (by omega) (fun x hx _ => by rw [q3 x (by omega) (by simp; omega), f0 x hx]), fun x hx _ => by rw [q3 x (by omega) (by simp; omega), f0 x hx], by rw [q3 m (by omega) (by simp), fm]⟩
    · exact ⟨⟨_, _, q1, .inr ⟨rfl, rfl⟩⟩, q2, q3, q4⟩
  · rintro _ h n n' ⟨q1, q2⟩ hn; exact ⟨by omega, q2⟩
  · rintro _ h n ⟨q1, q2, q3⟩
    refine ⟨hb, _, _, _, _, d, o, c, op, _, by rw [q3 hx (by omega) (by simp; omega), f0 hx lx, gx], by rw [q3 hb (by omega) (by simp; omega), f0 hb hbm, H.hg]⟩
  · rintro i p h n hp ⟨q1, q2, q3⟩
    refine F82_R11010 _ (by rw [hT, hA, hB]; exact q2) ?_
    rw [F82_g110101, hT, hA, hB]
    generalize hb1 : (h.set (m + 1) (.loop .busy none T [34] asg bd)) = h1
    have f1 : ∀ x, x < m → h1.get x = h8.get x := fun x hx => by rw [← hb1, Tree.get_set, if_neg (by omega), q3 x (by omega) (by simp; omega), f0 x hx]
    have s1 : Same (m + 2) [m + 1] h0 h1 := fun x hx hf => by simp at hf; rw [← hb1, Tree.get_set, if_neg hf, q3 x hx (by simpa using hf)]
    have fl1 : h1.get (m + 1) = some (.loop .busy none T [34] asg bd) := by rw [← hb1, Tree.get_set, if_pos rfl]
    have a3 : h1.get n3 = some (.cells (.lst [.ptr hb 0]) 1) := by rw [f1 n3 l3, g3]
    have a4 : h1.get n4 = some (.cells (.lst [sl]) 1) := by rw [f1 n4 l4, g4]
    have a5 : h1.get n5 = some (.cells (.lst [.s (.int .i64 cell)]) 1) := by rw [f1 n5 l5, g5]
    have I1 : TInv τ h1 n := I.of (by omega) fun x hx _ => f1 x hx
    obtain ⟨hdn, A, es, hgd, hA', hi2⟩ := I1 d _ hd
    have ah : h1.get hb = some (.cells (.lst [.s (.int .i64 (key : Nat)), .s (.int .i64 mx), .s (.int .i64 mm), ks, .slice d o PP c op, cs]) 6) := by rw [f1 hb hbm, H.hg]
    obtain ⟨x, hx⟩ := hi2 (o + p) (by omega) (by omega)
    have esl : normV sl = sl := by rcases hs with ⟨rfl, _⟩ | ⟨_, _, _, _, _, rfl, _⟩ <;> rfl
    have eN : ∀ n', endRound .normal (m + 1) h1 n' = some (.s (.bool true), h1.set (m + 1) (.loop .ready none T [34] asg bd), n') := by
      intro n'; simp [endRound, fl1, jumpOf]
    have pN : (h1.set (m + 1) (.loop .ready none T [34] asg bd)).get (m + 1) = some (.loop .ready none T [34] asg bd) ∧ Same (m + 2) [m + 1] h0 (h1.set (m + 1) (.loop .ready none T [34] asg bd)) := by
      refine ⟨by rw [Tree.get_set, if_pos rfl], fun z hz hf => ?_⟩
      simp at hf
      rw [Tree.get_set, if_neg hf, s1 z hz (by simpa using hf)]
    by_cases x1 : x = 1
    · simp [cellsAt, a3, ah, hgd, hx, hp, blt_dec, x1, eN]
      exact ⟨q1, pN⟩
    · simp [cellsAt, a3, ah, hgd, hx, hp, blt_dec, x1, a4, esl]
      have HH : HashAt τ h1 hb key PP ks (.slice d o PP c op) cs mx mm := H.of (f1 hb hbm)
      refine CallK.monoN ?_ (hashAt_ok (n := n + 5) HH hp)
      rintro v h2' n2' ⟨⟨d', o', lo', hi', rfl, hd', b1, b2⟩, rfl⟩ hn2
      obtain ⟨dc, oc, cc, opc, loc, hic, hcs, hdc, c1, c2, c3⟩ := H.hcs
      subst hcs
      obtain ⟨hdn', A2, es2, hgd', hA2, hi2'⟩ := I1 d' _ hd'
      have nod : ∀ {x y : Nat} {q : K0}, τ y = some q → τ x = none → x ≠ y := fun h1 h2 e => by rw [e, h1] at h2; cases h2
      have hbd' : hb ≠ d' := by rintro rfl; rw [hd'] at ht; cases ht
      have hbd : hb ≠ d := by rintro rfl; rw [hd] at ht; cases ht
      have hbdc : hb ≠ dc := by rintro rfl; rw [hdc] at ht; cases ht
      simp [a4, esl]
      refine copy_ok (by omega) hgd' (by omega) (hs.of (f1 b hbn)).row fun h2 hg2 hs2 => ?_
      have st2 := put_nums (h' := h2) I1 (Nat.le_refl n) hd' hA2 hi2' b1 (new := (bytesV' k).take (min k.length key * 1)) (by simp; omega) (fun y hy => bytesV_int y (List.mem_of_mem_take hy)) hg2 hs2
      have ah2 := (hs2 hb hbd').trans ah
      have a32 := (hs2 n3 (nod hd' d3)).trans a3
      have a52 := (hs2 n5 (nod hd' d5)).trans a5
      have fl2 := (hs2 (m + 1) (by have := (I d' _ hd').1; omega)).trans fl1
      obtain ⟨hdn3, A3, es3, hgd3, hA3, hi3⟩ := st2.1 d _ hd
      have e6 : storeCells h2 d (o + p) (.one (.s (.int .u8 1))) = some (h2.set d (.cells (.lst (splice A3 (o + p) [.s (.int .u8 1)])) es3)) := storeCells_lst hgd3 (by show o + p + 1 ≤ A3.length; omega)
      have st3 := put_nums (h' := h2.set d (.cells (.lst (splice A3 (o + p) [.s (.int .u8 1)])) es3)) st2.1 (Nat.le_refl _) hd hA3 hi3 (o := o + p) (new := [.s (.int .u8 1)]) (by omega) (by simp; omega) (by simp) (by rw [Tree.get_set, if_pos rfl]) (fun x hx => by rw [Tree.get_set, if_neg hx])
      simp [cellsAt, a32, ah2, a52, hp, blt_dec, e6]
      generalize hh3 : h2.set d (.cells (.lst (splice A3 (o + p) [.s (.int .u8 1)])) es3) = h3 at st3
      have hs3 : ∀ x, x ≠ d → h3.get x = h2.get x := fun x hx => by rw [← hh3, Tree.get_set, if_neg hx]
      have a53 := (hs3 n5 (nod hd d5)).trans a52
      have a33 := (hs3 n3 (nod hd d3)).trans a32
      have ah3 := (hs3 hb hbd).trans ah2
      have fl3 := (hs3 (m + 1) (by have := (I d _ hd).1; omega)).trans fl2
      obtain ⟨hdn4, A4, es4, hgd4, hA4, hi4⟩ := st3.1 dc _ hdc
      have e7 : storeCells h3 dc (oc + p) (.one (.s (.int .i64 cell))) = some (h3.set dc (.cells (.lst (splice A4 (oc + p) [.s (.int .i64 cell)])) es4)) := storeCells_lst hgd4 (by show oc + p + 1 ≤ A4.length; omega)
      have st4 := put_nums (h' := h3.set dc (.cells (.lst (splice A4 (oc + p) [.s (.int .i64 cell)])) es4)) st3.1 (Nat.le_refl _) hdc hA4 hi4 (o := oc + p) (new := [.s (.int .i64 cell)]) (by omega) (by simp; omega) (by simp) (by rw [Tree.get_set, if_pos rfl]) (fun x hx => by rw [Tree.get_set, if_neg hx])
      simp [a53, e7]
      generalize hh4 : h3.set dc (.cells (.lst (splice A4 (oc + p) [.s (.int .i64 cell)])) es4) = h4 at st4
      have hs4 : ∀ x, x ≠ dc → h4.get x = h3.get x := fun x hx => by rw [← hh4, Tree.get_set, if_neg hx]
      have a34 := (hs4 n3 (nod hdc d3)).trans a33
      have ah4 := (hs4 hb hbdc).trans ah3
      have fl4 := (hs4 (m + 1) (by have := (I dc _ hdc).1; omega)).trans fl3
      simp [cellsAt, a34, ah4, storeCells, cellsOwn, Rope.put, ble_dec]
      generalize hw : (V.s (Value.int IntKind.i64 (wrapF IntKind.i64 (mm + 1)))) = w
      have key5 : ∀ x, x < n → x ≠ hb → (h4.set hb (.cells (.lst [.s (.int .i64 (key : Nat)), .s (.int .i64 mx), w, ks, .slice d o PP c op, .slice dc oc PP cc opc]) 6)).get x = h4.get x := fun x _ hx => by rw [Tree.get_set, if_neg hx]
      have st5 : Stay τ n h4 (h4.set hb (.cells (.lst [.s (.int .i64 (key : Nat)), .s (.int .i64 mx), w, ks, .slice d o PP c op, .slice dc oc PP cc opc]) 6)) n :=
        ⟨st4.1.put (Nat.le_refl _) ht key5 ⟨key, mx, wrapF .i64 (mm + 1), ks, _, _, PP, by rw [Tree.get_set, if_pos rfl, ← hw], H.hks, H.hst, H.hcs, H.p1, H.p2, H.k1, H.k2⟩, Keep.put ht key5⟩
      generalize hh5 : h4.set hb (.cells (.lst [.s (.int .i64 (key : Nat)), .s (.int .i64 mx), w, ks, .slice d o PP c op, .slice dc oc PP cc opc]) 6) = h5 at st5
      have fl5 : h5.get (m + 1) = some (.loop .busy none T [34] asg bd) := by rw [← hh5, Tree.get_set, if_neg (by omega), fl4]
      have K5 := (((st2.trans (Nat.le_refl _) st3).trans (Nat.le_refl _) st4).trans (Nat.le_refl _) st5).2
      simp [endRound, fl5, jumpOf]
      have tl : τ (m + 1) = none := I.none (by omega)
      refine ⟨by rw [Tree.get_set, if_pos rfl], (st5.1.of (by omega) fun x hx ht' => by rw [Tree.get_set, if_neg (by rintro rfl; exact ht' tl)]), fun x hx ht' => ?_, ?_⟩
      · rw [Tree.get_set, if_neg (by omega), K5.same x (by omega) ht' (by simp), f1 x hx]
      · rw [Tree.get_set, if_neg (by omega), K5.same m (by omega) (I.none (Nat.le_refl _)) (by simp), s1 m (by omega) (by simp), fm]
  · rw [f0 kb lk, gk]
  · exact hs.of (f0 b hbn)
  · exact ⟨by omega, fl, Same.refl _ _ _⟩

theorem hashPut_ok {τ : Ty0} {h : Heap} {n hb b : Nat} {sl : V} {k : List Int} (cell : Int) (I : TInv τ h n) (ht : τ hb = some .hash) (hbn : b < n) (hbt : τ b = none) (hs : BytesAt h b sl k) (hk : k.length ≤ 4611686018427387904) :
    CallK CC 82 [.ptr hb 0, sl, .s (.int .i64 cell)] h n fun v h' n' => Stay τ n h h' n' := by
  refine F82_call fun hlt => ?_
  rw [F82_eq]
  obtain ⟨key, PP, ks, st, cs, mx, m, H⟩ := HashAt.of_inv I ht
  have hbn' : hb < n := (I hb _ ht).1
  have esl : V.cells sl = some (.one sl) ∧ normV sl = sl := by rcases hs with ⟨rfl, _⟩ | ⟨_, _, _, _, _, rfl, _⟩ <;> exact ⟨rfl, rfl⟩
  have hlen := hs.len
  have hg := H.hg
  simp only [esl, oK_some, cells_ptr, cells_int, Rope.toList_one]
  generalize hh : (((h.set n (.cells (.lst [.ptr hb 0]) 1)).set (n + 1) (.cells (.lst [sl]) 1)).set (n + 1 + 1) (.cells (.lst [.s (.int .i64 cell)]) 1)) = h7
  have hs7 : Same n [] h h7 := fun x hx _ => by rw [← hh, Tree.get_set, if_neg (by omega), Tree.get_set, if_neg (by omega), Tree.get_set, if_neg (by omega)]
  have g0 : h7.get n = some (.cells (.lst [.ptr hb 0]) 1) := by rw [← hh, Tree.get_set, if_neg (by omega), Tree.get_set, if_neg (by omega), Tree.get_set, if_pos rfl]
  have g1 : h7.get (n + 1) = some (.cells (.lst [sl]) 1) := by rw [← hh, Tree.get_set, if_neg (by omega), Tree.get_set, if_pos rfl]
  have g2 : h7.get (n + 1 + 1) = some (.cells (.lst [.s (.int .i64 cell)]) 1) := by rw [← hh, Tree.get_set, if_pos rfl]
  have I7 : TInv τ h7 (n + 1 + 1 + 1 + 8) := I.same hs7 (by omega)
  have hg7 : h7.get hb = h.get hb := hs7 hb hbn' (by simp)
  have H7 := H.of hg7
  rw [hg] at hg7
  have sb7 := hs.of (hs7 b hbn (by simp))
  simp [cellsAt, g0, g1, hg7, hlen, esl]
  have fin : ∀ h' n', n ≤ n' → Same n [] h h' → Stay τ n h h' n' := fun h' n' hn s => ⟨I.same s hn, Keep.of_same s⟩
  split
  · refine CallK.monoN ?_ (hplace_ok I7 ht H7 (by omega) sb7 hk)
    rintro _ h8 n8 ⟨⟨p, rfl, hp⟩, hs8⟩ hn8
    have e8 : ∀ x, x < n + 1 + 1 + 1 + 8 → h8.get x = h7.get x := fun x hx => hs8 x hx (by simp)
    have smx : Same n [] h h8 := fun x hx _ => by rw [e8 x (by omega), hs7 x hx (by simp)]
    by_cases p0 : 0 ≤ p
    · simp [p0]
      exact fin _ _ (by omega) smx
    · have q0 := (e8 n (by omega)).trans g0
      have q1 := (e8 (n + 1) (by omega)).trans g1
      have q2 := (e8 (n + 1 + 1) (by omega)).trans g2
      have qh := (e8 hb (by omega)).trans hg7
      simp [p0, cellsAt, q0, q1, qh, esl]
      split
      · exact fin _ _ (by omega) smx
      · refine CallK.monoN ?_ (way_ok (sb7.of (e8 b (by omega))))
        rintro _ h9 n9 ⟨⟨kb, hx, rfl, k1, k2, k3, k4, k5, k6⟩, hs9⟩ hn9
        have e9 : ∀ x, x < n + 1 + 1 + 1 + 8 → h9.get x = h7.get x := fun x hx => by rw [hs9 x (by omega) (by simp), e8 x hx]
        have I9 : TInv τ h9 n9 := I7.of (by omega) fun x hx _ => e9 x hx
        refine F82_E11010 rfl ?_
        refine CallK.monoN ?_ (put_way (b := b) (cell := cell) I9 ht (H7.of (e9 hb (by omega))) (by omega) (by omega) hbt (sb7.of (e9 b (by omega))) hk
          rfl ((e9 n (by omega)).trans g0) rfl ((e9 (n + 1) (by omega)).trans g1) rfl ((e9 (n + 1 + 1) (by omega)).trans g2) k5 k6 (by omega) (by omega) (by omega) k3 k4
          (I.none (by omega)) (I.none (by omega)) (I.none (by omega)) (I.none (by omega)) (I.none (by omega)))
        rintro _ h10 n10 ⟨⟨ls, pend, w1, w2⟩, w3, w4, w5⟩ hn10
        have tl : τ (n9 + 1) = none := I.none (by omega)
        have tm : τ n9 = none := I.none (by omega)
        have fin2 : ∀ ob, Stay τ n h (Tree.del (Tree.set h10 (n9 + 1) ob) n9) n10 := fun ob => by
          have g : ∀ x, x ≠ n9 + 1 → x ≠ n9 → (Tree.del (Tree.set h10 (n9 + 1) ob) n9).get x = h10.get x := fun x h1 h2 => by rw [Tree.get_del, if_neg h2, Tree.get_set, if_neg h1]
          refine ⟨w3.of (Nat.le_refl _) fun x hx hxt => g x (by rintro rfl; exact hxt tl) (by rintro rfl; exact hxt tm), .refl _, fun _ _ e => .inl e, fun x hx hxt _ => ?_⟩
          rw [g x (by omega) (by omega), w4 x (by omega) hxt, e9 x (by omega), hs7 x hx (by simp)]
        rcases w2 with ⟨rfl, rfl⟩ | ⟨rfl, rfl⟩
        · simp only [endLoop, w1, Option.bind_some, oK_some]
          rw [F82_r11010]
          generalize (O.loop .exhausted none _ _ _ _) = ob
          simp [dropDefs, Tree.get_set, w5]
          exact fin2 ob
        · simp only [endLoop, w1, Option.bind_some, oK_some]
          rw [F82_r11010_1]
          generalize (O.loop .exhausted (some (.exit 1)) _ _ _ _) = ob
          simp [dropDefs, Tree.get_set, w5]
          exact fin2 ob
  · exact fin _ _ (by omega) hs7

/-- A block behind a call may be laid as a list. -/
theorem CallK.norm {C : Ctx} {f : FuncId} {args : List V} {h : Heap} {n : Nat} {K : V → Heap → Nat → Prop} (hk : CallK C f args h n fun v h' n' => K v h' n' ∨ ∃ b o, h'.get b = some o ∧ K v (h'.set b (normOb o)) n') : CallK C f args h n K := by
  refine ⟨fun ρ w xs h1 h2 h3 h4 => ?_⟩
  obtain ⟨k1, k2⟩ := hk.run ρ w xs h1 h2 h3 h4
  refine ⟨k1, fun N => (k2 N).mono ?_⟩
  rintro e w' ⟨v, h', n', hK | ⟨b, o, hb, hK⟩, ρ', y, rfl, E, hv⟩
  · exact ⟨v, h', n', hK, ρ', y, rfl, E, hv⟩
  · exact ⟨v, _, n', hK, ρ', y, rfl, E.norm hb, hv⟩

structure LruAt (τ : Ty0) (h : Heap) (b most len key : Nat) (rows : V) : Prop where
  k16 : key ≤ 16
  hg : h.get b = some (.cells (.lst [.s (.int .i64 (key : Nat)), .s (.int .i64 (most : Nat)), rows]) 3)
  hr : RowsS τ rows len
  l1 : len ≤ most
  m1 : 1 ≤ most
  m2 : most ≤ 64
theorem LruAt.of_inv {τ : Ty0} {h : Heap} {n b : Nat} (I : TInv τ h n) (hb : τ b = some .lru) : ∃ most len key rows, LruAt τ h b most len key rows := by
  obtain ⟨_, key, most, rows, len, h1, h0, h2, h3, h4, h5⟩ := I b _ hb
  exact ⟨most, len, key, rows, h0, h1, h2, h3, h4, h5⟩
theorem LruAt.of {τ : Ty0} {h h' : Heap} {b most len key : Nat} {rows : V} (H : LruAt τ h b most len key rows) (e : h'.get b = h.get b) : LruAt τ h' b most len key rows := ⟨H.k16, by rw [e]; exact H.hg, H.hr, H.l1, H.m1, H.m2⟩
def rowV (s : ByteArray) (x : Int) : List V := [.s (.string s), .s (.int .i64 x)]
/-- A row is there. -/
theorem row_at {τ : Ty0} {h : Heap} {n d lo m i : Nat} (I : TInv τ h n) (hd : τ d = some (.rows lo m)) (hi : i < m) : ∃ A es s x, h.get d = some (.cells (.lst A) es) ∧ lo + 2 * i + 2 ≤ A.length ∧ A[lo + 2 * i]? = some (.s (.string s)) ∧ A[lo + 2 * i + 1]? = some (.s (.int .i64 x)) ∧ (A.drop (lo + 2 * i)).take 2 = rowV s x ∧ s.size ≤ 16 := by
  obtain ⟨hdn, A, es, hg, hA, H⟩ := I d _ hd
  obtain ⟨s, x, h1, h2, h16⟩ := H i hi
  refine ⟨A, es, s, x, hg, by omega, h1, h2, ?_, h16⟩
  have e : (A.drop (lo + 2 * i)).take 2 = [] ++ [.s (.string s)] ++ [.s (.int .i64 x)] := by
    rw [List.take_add_one, List.take_add_one, List.getElem?_drop, List.getElem?_drop, show lo + 2 * i + 0 = lo + 2 * i by omega, h1, h2]
    rfl
  rw [e]; rfl
theorem lruNew_ok {τ : Ty0} {h : Heap} {n key mx : Nat} (I : TInv τ h n) (k16 : key ≤ 16) (k1 : 1 ≤ key) (m1 : 1 ≤ mx) (m64 : mx ≤ 64) :
    CallK CC 51 [.s (.int .i64 (key : Nat)), .s (.int .i64 (mx : Nat))] h n fun v h' n' => Goes τ n [] h h' n' fun τ' => ∃ b, v = .ptr b 0 ∧ τ' b = some .lru := by
  refine F51_call fun hlt => ?_
  rw [F51_eq]
  have e1 : minW (key : Int) 16 = key := by unfold minW; split <;> omega
  simp [e1, max1 k1, min64 m64, max1 m1]
  have hn := I.none (Nat.le_refl n)
  have hs : Same n [] h (h.set n (.cells (.lst [.s (.int .i64 (key : Nat)), .s (.int .i64 (mx : Nat)), .s (.slice none 0 0)]) 3)) := Same.new _ _ _ _
  exact ⟨upT τ n .lru, (I.same hs (n' := n + 1) (by omega)).up hn (by omega) (by omega) ⟨key, mx, _, 0, by rw [Tree.get_set, if_pos rfl], k16, .inl ⟨rfl, rfl⟩, by omega, m1, m64⟩, Keep.up (Nat.le_refl _) hn hs, upT_same _ _ _⟩
theorem at1_ok {b kb : Nat} {sl : V} {k : List Int} (s : ByteArray) (x : Int) {h : Heap} {n : Nat} (hkb : h.get kb = some (.cells (.lst [sl]) 1)) (hkn : kb < n) (hbn : b < n) (hs : BytesAt h b sl k) :
    CallK CC 133 [.agg (.lst (rowV s x)), .ptr kb 0] h n fun v h' n' => (∃ t, v = .s (.bool t)) ∧ Same n [] h h' := by
  refine F133_call fun hlt => ?_
  rw [F133_eq]
  have esl : normV sl = sl := by rcases hs with ⟨rfl, _⟩ | ⟨_, _, _, _, _, rfl, _⟩ <;> rfl
  have hsm : Same n [] h (h.set n (.cells (.lst (rowV s x)) 2)) := Same.new _ _ _ _
  obtain ⟨t, e2, _⟩ := conv_ok (hs.of (hsm b hbn (by simp)))
  obtain ⟨r, e3⟩ := str_eq 9 false s t
  simp [rowV] at e2 ⊢
  simp [cellsAt, Tree.get_set, show ¬ kb = n by omega, hkb, esl, e2, e3]
  exact hsm
theorem indexF_loop {τ : Ty0} {kb b : Nat} {sl rows : V} {k : List Int} {len : Nat} (hl : len ≤ 64) (hr : RowsS τ rows len) {Q : X → St → Prop} {n0 : Nat} {h0 : Heap} (I0 : TInv τ h0 n0) (hkb : h0.get kb = some (.cells (.lst [sl]) 1)) (hkn : kb < n0) (hbn : b < n0) (hs : BytesAt h0 b sl k)
    (hQ0 : ∀ h n s t8, F132_L10100 rows (.func (.func 133) [] [.ptr kb 0]) (.s (.int .i64 (len : Nat))) t8 h n s → n0 ≤ n → Same n0 [] h0 h → Q (.exit 0) s)
    (hQ1 : ∀ h n (L : List V) (i : Nat), i < len → n0 ≤ n → Same n0 [] h0 h → L[4]? = some (.s (.int .i64 (i : Nat))) → Q .ret ⟨mkTm L, h, n, []⟩) :
    ∀ m s, (∃ i h n, m = len - i ∧ i ≤ len ∧ F132_L10100 rows (.func (.func 133) [] [.ptr kb 0]) (.s (.int .i64 (len : Nat))) (.s (.int .i64 (i : Nat))) h n s ∧ n0 ≤ n ∧ Same n0 [] h0 h) →
      LoopK CC none (subC [1, 0, 1, 0, 0] (bodyOf Go.Proofs.Tryz.f132)) s Q := by
  refine loopH CCok _ ?_
  rintro m s ⟨i, h, n, hm, hi, hs', hn, hsame⟩ hlt
  obtain ⟨g, rfl⟩ := hs'
  rw [F132_b10100]
  by_cases hi' : i < len
  · have e3 : wrapF .i64 ((i : Int) + 1) = ((i + 1 : Nat) : Int) := by rw [wrapF_i64 (by omega) (by omega)]; rfl
    rcases hr with ⟨_, h0⟩ | ⟨d, o, c, op, lo, mm, rfl, hd, h1, h2⟩
    · omega
    have I : TInv τ h n := I0.same hsame hn
    obtain ⟨A, es, s, x, q1, q2, q3, q4, q5, _⟩ := row_at I hd (show o + i < mm by omega)
    rw [show lo + 2 * (o + i) = lo + 2 * o + i * 2 by omega] at q2 q5
    simp [hi', blt_dec, cellsAt, q1, ble_dec, show lo + 2 * o + i * 2 + 2 ≤ A.length by omega, q5, callV]
    refine CallK.monoN ?_ (at1_ok (b := b) (k := k) s x (by rw [hsame kb hkn (by simp), hkb]) (show kb < n by omega) (show b < n by omega) (hs.of (hsame b hbn (by simp))))
    rintro _ h1' n1 ⟨⟨t, rfl⟩, hs1⟩ hn1
    have sm : Same n0 [] h0 h1' := fun b' hb' _ => by rw [hs1 b' (by omega) (by simp), hsame b' hb' (by simp)]
    cases t with
    | true =>
      simp [roundQ]
      exact hQ1 _ _ _ i hi' (by omega) sm rfl
    | false =>
      simp [roundQ]
      exact ⟨len - (i + 1), by omega, h1', fun hok b o hb => ⟨o, hb, hok b o hb⟩, i + 1, rfl, by omega, _, _, by rw [e3]; exact F132_L10100_of, by omega, sm⟩
  · have : i = len := by omega
    subst this
    simp [roundQ]
    exact hQ0 h n _ _ F132_L10100_of hn hsame
theorem rows_len {rows : V} {τ : Ty0} {len : Nat} (hr : RowsS τ rows len) (h : Heap) : lenV CC h 169 rows = some (.s (.int .i64 (len : Nat))) := by
  rcases hr with ⟨rfl, rfl⟩ | ⟨d, o, c, op, lo, mm, rfl, hd, h1, h2⟩ <;> simp
theorem rows_norm {rows : V} {τ : Ty0} {len : Nat} (hr : RowsS τ rows len) : normV rows = rows ∧ V.cells rows = some (.one rows) := by
  rcases hr with ⟨rfl, rfl⟩ | ⟨d, o, c, op, lo, mm, rfl, hd, h1, h2⟩ <;> exact ⟨rfl, rfl⟩
/-- Where a key stands. -/
theorem lruAt_ok {τ : Ty0} {h : Heap} {n lb b most len key : Nat} {rows sl : V} {k : List Int} (I : TInv τ h n) (hl : lb < n) (H : LruAt τ h lb most len key rows) (hbn : b < n) (hs : BytesAt h b sl k) :
    CallK CC 107 [.ptr lb 0, sl] h n fun v h' n' => (∃ i : Int, v = .s (.int .i64 i) ∧ (i = -1 ∨ (0 ≤ i ∧ i < len))) ∧ Same n [] h h' := by
  refine F107_call fun hlt => ?_
  rw [F107_eq]
  have esl : V.cells sl = some (.one sl) := by rcases hs with ⟨rfl, _⟩ | ⟨_, _, _, _, _, rfl, _⟩ <;> rfl
  have hg := H.hg
  simp [esl, cellsAt, Tree.get_set, show ¬ lb = n by omega, hg, (rows_norm H.hr).1]
  have hsm : Same n [] h (h.set n (.cells (.lst [sl]) 1)) := Same.new _ _ _ _
  refine F132_call fun hlt2 => ?_
  rw [F132_eq]
  have := H.l1
  have := H.m2
  simp [rows_len H.hr]
  refine indexF_loop (τ := τ) (b := b) (k := k) (by omega) H.hr (n0 := n + 1) (h0 := h.set n (.cells (.lst [sl]) 1)) (I.same hsm (by omega)) (by rw [Tree.get_set, if_pos rfl]) (by omega) (by omega) (hs.of (hsm b hbn (by simp))) ?_ ?_ _ _ ⟨0, _, _, rfl, by omega, F132_L10100_of, Nat.le_refl _, Same.refl _ _ _⟩
  · intro h' n' s t8 hs' hn' hsm'
    obtain ⟨g, rfl⟩ := hs'
    rw [F132_r10100_0]
    exact ⟨⟨-1, rfl, .inl rfl⟩, fun x hx _ => by rw [hsm' x (by omega) (by simp), hsm x hx (by simp)]⟩
  · intro h' n' L i hi hn' hsm' hL
    simp [resume, retW, dropDefs, hL]
    exact ⟨hi, fun x hx _ => by rw [hsm' x (by omega) (by simp), hsm x hx (by simp)]⟩
def RowsL (L : List V) (m : Nat) : Prop := L.length = 2 * m ∧ ∀ j, j < m → ∃ (s : ByteArray) (x : Int), L[2 * j]? = some (.s (.string s)) ∧ L[2 * j + 1]? = some (.s (.int .i64 x)) ∧ s.size ≤ 16
theorem RowsL.window {A : List V} {lo m o len : Nat} (hA : lo + 2 * m ≤ A.length) (H : ∀ i, i < m → ∃ (s : ByteArray) (x : Int), A[lo + 2 * i]? = some (.s (.string s)) ∧ A[lo + 2 * i + 1]? = some (.s (.int .i64 x)) ∧ s.size ≤ 16) (h : o + len ≤ m) : RowsL ((A.drop (lo + 2 * o)).take (2 * len)) len := by
  refine ⟨by simp; omega, fun j hj => ?_⟩
  obtain ⟨s, x, h1, h2, h16⟩ := H (o + j) (by omega)
  refine ⟨s, x, ?_, ?_, h16⟩
  · rw [List.getElem?_take_of_lt (by omega), List.getElem?_drop, show lo + 2 * o + 2 * j = lo + 2 * (o + j) by omega, h1]
  · rw [List.getElem?_take_of_lt (by omega), List.getElem?_drop, show lo + 2 * o + (2 * j + 1) = lo + 2 * (o + j) + 1 by omega, h2]
theorem RowsL.append {a b : List V} {i j : Nat} (ha : RowsL a i) (hb : RowsL b j) : RowsL (a ++ b) (i + j) := by
  refine ⟨by simp [ha.1, hb.1]; omega, fun k hk => ?_⟩
  by_cases h : k < i
  · obtain ⟨s, x, h1, h2, h16⟩ := ha.2 k h
    exact ⟨s, x, by rw [List.getElem?_append_left (by rw [ha.1]; omega), h1], by rw [List.getElem?_append_left (by rw [ha.1]; omega), h2], h16⟩
  · obtain ⟨s, x, h1, h2, h16⟩ := hb.2 (k - i) (by omega)
    refine ⟨s, x, ?_, ?_, h16⟩
    · rw [List.getElem?_append_right (by rw [ha.1]; omega), ha.1, show 2 * k - 2 * i = 2 * (k - i) by omega, h1]
    · rw [List.getElem?_append_right (by rw [ha.1]; omega), ha.1, show 2 * k + 1 - 2 * i = 2 * (k - i) + 1 by omega, h2]
theorem RowsL.one (s : ByteArray) (x : Int) (h16 : s.size ≤ 16) : RowsL (rowV s x) 1 := ⟨rfl, fun j hj => by
  obtain rfl : j = 0 := by omega
  exact ⟨s, x, rfl, rfl, h16⟩⟩
theorem RowsL.wt {τ : Ty0} {h : Heap} {b m : Nat} {L : List V} (H : RowsL L m) (hg : h.get b = some (.cells (.lst L) 2)) : WT τ h b (.rows 0 m) :=
  ⟨L, 2, hg, by rw [H.1]; omega, fun i hi => by simpa using H.2 i hi⟩

theorem append_cut {sz bytes b o i n m es : Nat} {h : Heap} {A old cs : List V} {x : V} (hz : sz ≠ 0) (hs : h.get b = some (.cells (.lst A) es)) (ho : (A.drop o).take (i * sz) = old) (hol : old.length = i * sz) (hx : Row h sz m cs x) (hb : (2 * (i + m) + 192) * bytes ≤ 281474976710656) {K : V → Heap → Nat → Prop}
    (hK : ∀ v h' n', (m = 0 ∧ v = .slice b o i i false ∧ n' = n ∧ ∀ x, h'.get x = h.get x) ∨ (v = .slice n 0 (i + m) (i + m) true ∧ n' = n + 1 ∧ h'.get n = some (.cells (.lst (old ++ cs)) sz) ∧ ∀ x, x ≠ n → h'.get x = h.get x) → K v h' n') : appendWK sz bytes h n (.slice b o i i false) x K := by
  by_cases hm : m = 0
  · subst hm
    exact append_none hx hs (Nat.le_refl _) fun h' he => hK _ _ _ (.inl ⟨rfl, rfl, rfl, he⟩)
  · exact append_new hz hx (.row (es := es) (by simp only [cellsAt, hs]) ho hol) (by omega) hb fun h' h1 h2 => hK _ _ _ (.inr ⟨rfl, rfl, h1, h2⟩)
theorem out_ok {τ : Ty0} {h : Heap} {n lb most len i key : Nat} {rows : V} (I : TInv τ h n) (ht : τ lb = some .lru) (H : LruAt τ h lb most len key rows) (hi : i < len) :
    CallK CC 112 [.ptr lb 0, .s (.int .i64 (i : Nat))] h n fun v h' n' => Goes τ n [] h h' n' fun τ' => ∃ (s : ByteArray) (x : Int) (rows' : V), (v = .agg (.lst (rowV s x)) ∧ s.size ≤ 16) ∧ LruAt τ' h' lb most (len - 1) key rows' := by
  refine F112_call fun hlt => ?_
  rw [F112_eq]
  have hl : lb < n := (I lb _ ht).1
  have hg := H.hg
  have l1 := H.l1
  have l2 := H.m2
  rcases H.hr with ⟨_, h0⟩ | ⟨d, o, c, op, lo, mm, rfl, hd, h1, h2⟩
  · omega
  have hdn : d < n := (I d _ hd).1
  obtain ⟨A, es, s, x, q1, q2, q3, q4, q5, s16⟩ := row_at I hd (show o + i < mm by omega)
  rw [show lo + 2 * (o + i) = lo + 2 * o + i * 2 by omega] at q2 q5
  obtain ⟨_, A', es', qq, qA, qH⟩ := I d _ hd
  rw [q1] at qq; cases qq
  obtain ⟨j, hj⟩ : ∃ j : Nat, j = i + 1 := ⟨_, rfl⟩
  have e3 : wrapF .i64 ((i : Int) + 1) = (j : Int) := by rw [wrapF_i64 (by omega) (by omega)]; omega
  simp [cellsAt, Tree.get_set, show ¬ lb = n by omega, show ¬ lb = n + 1 by omega, show ¬ d = n by omega, hg, blt_dec, hi, q1, ble_dec, show lo + 2 * o + i * 2 + 2 ≤ A.length by omega, q5, storeCells, cellsOwn, Rope.put, rowV, e3, bounds, bound, show i ≤ c by omega, show j ≤ len by omega]
  generalize hh : Tree.set (Tree.set (Tree.set h n _) (n + 1) _) (n + 1) _ = h1
  have g0 : h1.get n = some (.cells (.lst [.s (.string ⟨#[]⟩), .s (.int .i64 0)]) 2) := by rw [← hh, Tree.get_set, if_neg (by omega), Tree.get_set, if_neg (by omega), Tree.get_set, if_pos rfl]
  have g1 : h1.get (n + 1) = some (.cells (.lst [.s (.string s), .s (.int .i64 x)]) 2) := by rw [← hh, Tree.get_set, if_pos rfl]
  have hs1 : Same n [] h h1 := fun x hx _ => by rw [← hh, Tree.get_set, if_neg (by omega), Tree.get_set, if_neg (by omega), Tree.get_set, if_neg (by omega)]
  have I1 : TInv τ h1 (n + 1 + 1 + 19) := I.same hs1 (by omega)
  have qd : h1.get d = some (.cells (.lst A) es) := (hs1 d hdn (by simp)).trans q1
  have w1 : RowsL ((A.drop (lo + 2 * o)).take (i * 2)) i := by rw [Nat.mul_comm]; exact RowsL.window qA qH (by omega)
  have w2 : RowsL ((A.drop (lo + 2 * o + j * 2)).take ((len - j) * 2)) (len - j) := by
    rw [Nat.mul_comm (len - j), show lo + 2 * o + j * 2 = lo + 2 * (o + j) by omega]; exact RowsL.window qA qH (by omega)
  refine append_cut (by omega) qd rfl (by rw [w1.1]; omega) (.row (A := A) (es := es) (by simp only [cellsAt, qd]) rfl (by rw [w2.1]; omega)) (by omega) ?_
  intro v2 h2' n2 hc
  have hc2 : ∃ τ1, TInv τ1 h2' n2 ∧ Keep τ τ1 n [] h1 h2' ∧ RowsS τ1 v2 (len - 1) ∧ n + 1 + 1 + 19 ≤ n2 ∧ (∀ x, x < n + 2 → h2'.get x = h1.get x) ∧ τ1 n = none ∧ τ1 (n + 1) = none := by
    rcases hc with ⟨hm, rfl, rfl, he⟩ | ⟨rfl, rfl, hgn, he⟩
    · exact ⟨τ, I1.of (Nat.le_refl _) fun x _ _ => he x, Keep.of_same fun x _ _ => he x, .inr ⟨d, o, i, false, lo, mm, by rw [show i = len - 1 by omega], hd, by omega, by omega⟩, by omega, fun x _ => he x, I.none (Nat.le_refl _), I.none (by omega)⟩
    · have tn : τ (n + 1 + 1 + 19) = none := I.none (by omega)
      have hsx : Same (n + 1 + 1 + 19) [] h1 h2' := fun x hx _ => he x (by omega)
      refine ⟨upT τ (n + 1 + 1 + 19) (.rows 0 (i + (len - j))), (I1.same hsx (by omega)).up tn (by omega) (Nat.le_refl _) ((w1.append w2).wt hgn), Keep.up (by omega) tn fun x hx _ => he x (by omega), .inr ⟨n + 1 + 1 + 19, 0, i + (len - j), true, 0, i + (len - j), by rw [show i + (len - j) = len - 1 by omega], upT_same _ _ _, by omega, by omega⟩, by omega, fun x hx => he x (by omega), ?_, ?_⟩
      · unfold upT; rw [if_neg (by omega)]; exact I.none (by omega)
      · unfold upT; rw [if_neg (by omega)]; exact I.none (by omega)
  obtain ⟨τ1, J, K1, R, hn2, he, u1, u2⟩ := hc2
  have rn := rows_norm R
  have gl : h2'.get lb = some (.cells (.lst [.s (.int .i64 key), .s (.int .i64 (most : Nat)), .slice d (lo + 2 * o) len c op]) 3) := by rw [he lb (by omega), hs1 lb hl (by simp), hg]
  have gn : h2'.get n = some (.cells (.lst [.s (.string ⟨#[]⟩), .s (.int .i64 0)]) 2) := by rw [he n (by omega), g0]
  have gn1 : h2'.get (n + 1) = some (.cells (.lst [.s (.string s), .s (.int .i64 x)]) 2) := by rw [he (n + 1) (by omega), g1]
  simp [rn.2, gl, gn1, gn, Tree.get_set, show ¬ n = lb by omega, show ¬ n + 1 = lb by omega, Rope.put]
  generalize hh3 : Tree.set (Tree.set h2' lb _) n _ = h3
  have ht1 := K1.ext _ _ ht
  have gl3 : h3.get lb = some (.cells (.lst [.s (.int .i64 key), .s (.int .i64 (most : Nat)), v2]) 3) := by rw [← hh3, Tree.get_set, if_neg (by omega), Tree.get_set, if_pos rfl]
  have e3' : ∀ x, x ≠ lb → x ≠ n → h3.get x = h2'.get x := fun x h1 h2 => by rw [← hh3, Tree.get_set, if_neg h2, Tree.get_set, if_neg h1]
  have I3 : TInv τ1 h3 n2 := fun b k e => by
    obtain ⟨a1, a2⟩ := J b k e
    refine ⟨a1, ?_⟩
    by_cases hb : b = lb
    · subst hb; rw [ht1] at e; cases e
      exact ⟨key, most, v2, len - 1, gl3, H.k16, R, by omega, H.m1, H.m2⟩
    · exact a2.of (e3' b hb (by rintro rfl; rw [u1] at e; cases e))
  refine ⟨τ1, I3, ⟨K1.ext, K1.new, fun x hx hxt _ => ?_⟩, s16, v2, H.k16, gl3, R, by omega, H.m1, H.m2⟩
  rw [e3' x (by rintro rfl; rw [ht] at hxt; cases hxt) (by omega), he x (by omega), hs1 x hx (by simp)]
theorem rows_row {τ : Ty0} {h : Heap} {n len : Nat} {v : V} (I : TInv τ h n) (R : RowsS τ v len) : ∃ cs, Row h 2 len cs v ∧ RowsL cs len := by
  rcases R with ⟨rfl, rfl⟩ | ⟨d, o, c, op, lo, mm, rfl, hd, h1, h2⟩
  · exact ⟨[], .nil rfl rfl, rfl, fun j hj => by omega⟩
  · obtain ⟨_, A, es, hg, hA, H⟩ := I d _ hd
    have w := RowsL.window (len := len) hA H h1
    exact ⟨_, .row (A := A) (es := es) (by simp only [cellsAt, hg]) (by rw [Nat.mul_comm]) (by rw [w.1]; omega), w⟩
theorem fill_row (s : ByteArray) (x : Int) : fillA 2 ((zr CC 209).rep 1) [(0, .agg (.lst (rowV s x)))] = some (.lst (rowV s x)) := by kernel_rfl
theorem first_ok {τ : Ty0} {h : Heap} {n lb most len key : Nat} {rows : V} (s : ByteArray) (x : Int) (s16 : s.size ≤ 16) (I : TInv τ h n) (ht : τ lb = some .lru) (H : LruAt τ h lb most len key rows) (hlen : len + 1 ≤ most) :
    CallK CC 113 [.ptr lb 0, .agg (.lst (rowV s x))] h n fun v h' n' => Goes τ n [] h h' n' fun τ' => ∃ rows', LruAt τ' h' lb most (len + 1) key rows' := by
  refine F113_call fun hlt => ?_
  rw [F113_eq]
  have hl : lb < n := (I lb _ ht).1
  have hg := H.hg
  have l2 := H.m2
  have fr := fill_row s x
  simp [cellsAt, Tree.get_set, show ¬ lb = n by omega, hg, ble_dec, rowV, (rows_norm H.hr).1] at fr ⊢
  simp [fr]
  generalize hh : Tree.set (Tree.set h n _) (n + 1 + 2) _ = h1
  have g1 : h1.get (n + 1 + 2) = some (.cells (.lst (rowV s x)) 2) := by rw [← hh, Tree.get_set, if_pos rfl]; rfl
  have hs1 : Same n [] h h1 := fun x hx _ => by rw [← hh, Tree.get_set, if_neg (by omega), Tree.get_set, if_neg (by omega)]
  have I1 : TInv τ h1 (n + 1 + 11) := I.same hs1 (by omega)
  obtain ⟨cs, hr, hrl⟩ := rows_row I1 H.hr
  refine append_cut (i := 1) (old := rowV s x) (by omega) g1 rfl rfl hr (by omega) ?_
  intro v2 h2' n2 hc
  have hc2 : ∃ τ1, TInv τ1 h2' n2 ∧ Keep τ τ1 n [] h1 h2' ∧ RowsS τ1 v2 (len + 1) ∧ n + 1 + 11 ≤ n2 ∧ (∀ x, x < n → h2'.get x = h1.get x) := by
    rcases hc with ⟨hm, rfl, rfl, he⟩ | ⟨rfl, rfl, hgn, he⟩
    · have tn : τ (n + 1 + 2) = none := I.none (by omega)
      have hsx : Same (n + 1 + 11) [] h1 h2' := fun x hx _ => he x
      refine ⟨upT τ (n + 1 + 2) (.rows 0 1), (I1.same hsx (Nat.le_refl _)).up tn (by omega) (Nat.le_refl _) ((RowsL.one s x s16).wt (by rw [he, g1])), Keep.up (by omega) tn fun x hx _ => he x, .inr ⟨n + 1 + 2, 0, 1, false, 0, 1, by subst hm; rfl, upT_same _ _ _, by omega, by omega⟩, by omega, fun x _ => he x⟩
    · have tn : τ (n + 1 + 11) = none := I.none (by omega)
      have hsx : Same (n + 1 + 11) [] h1 h2' := fun x hx _ => he x (by omega)
      refine ⟨upT τ (n + 1 + 11) (.rows 0 (1 + len)), (I1.same hsx (by omega)).up tn (by omega) (Nat.le_refl _) (((RowsL.one s x s16).append hrl).wt hgn), Keep.up (by omega) tn fun x hx _ => he x (by omega), .inr ⟨n + 1 + 11, 0, 1 + len, true, 0, 1 + len, by rw [show 1 + len = len + 1 by omega], upT_same _ _ _, by omega, by omega⟩, by omega, fun x hx => he x (by omega)⟩
  obtain ⟨τ1, J, K1, R, hn2, he⟩ := hc2
  have rn := rows_norm R
  have gl : h2'.get lb = some (.cells (.lst [.s (.int .i64 key), .s (.int .i64 (most : Nat)), rows]) 3) := by rw [he lb (by omega), hs1 lb hl (by simp), hg]
  simp [rn.2, gl, storeCells, cellsOwn, Rope.put, ble_dec]
  generalize hh3 : Tree.set h2' lb _ = h3
  have ht1 := K1.ext _ _ ht
  have gl3 : h3.get lb = some (.cells (.lst [.s (.int .i64 key), .s (.int .i64 (most : Nat)), v2]) 3) := by rw [← hh3, Tree.get_set, if_pos rfl]
  have e3' : ∀ x, x ≠ lb → h3.get x = h2'.get x := fun x h1 => by rw [← hh3, Tree.get_set, if_neg h1]
  refine ⟨τ1, J.put (Nat.le_refl _) ht1 (fun x _ hx => e3' x hx) ⟨key, most, v2, len + 1, gl3, H.k16, R, hlen, H.m1, H.m2⟩, ⟨K1.ext, K1.new, fun x hx hxt _ => ?_⟩, v2, H.k16, gl3, R, hlen, H.m1, H.m2⟩
  rw [e3' x (by rintro rfl; rw [ht] at hxt; cases hxt), he x (by omega), hs1 x hx (by simp)]
theorem lruPeek_ok {τ : Ty0} {h : Heap} {n lb b : Nat} {sl : V} {k : List Int} (I : TInv τ h n) (ht : τ lb = some .lru) (hbn : b < n) (hs : BytesAt h b sl k) :
    CallK CC 80 [.ptr lb 0, sl] h n fun v h' n' => (∃ (x : Int) (t : Bool), v = .tup [.s (.int .i64 x), .s (.bool t)]) ∧ Same n [] h h' := by
  refine F80_call fun hlt => ?_
  rw [F80_eq]
  obtain ⟨most, len, key, rows, H⟩ := LruAt.of_inv I ht
  have hl : lb < n := (I lb _ ht).1
  refine CallK.monoN ?_ (lruAt_ok I hl H hbn hs)
  rintro _ h1 n1 ⟨⟨i, rfl, hi⟩, hs1⟩ hn1
  rcases hi with rfl | ⟨i0, i1⟩
  · simp; exact hs1
  · obtain ⟨j, rfl⟩ : ∃ j : Nat, i = j := ⟨i.toNat, by omega⟩
    rcases H.hr with ⟨_, h0⟩ | ⟨d, o, c, op, lo, mm, hrw, hd, h1', h2⟩
    · omega
    have I1 := I.same hs1 hn1
    obtain ⟨A, es, s, x, q1, q2, q3, q4, q5, _⟩ := row_at I1 hd (show o + j < mm by omega)
    rw [show lo + 2 * (o + j) + 1 = lo + 2 * o + j * 2 + 1 by omega] at q4
    have hg := (hs1 lb hl (by simp)).trans H.hg
    subst hrw
    simp [cellsAt, hg, blt_dec, show j < len by omega, q1, q4]
    exact hs1

theorem Goes.tri {τ : Ty0} {n n' : Nat} {h h' : Heap} {P : Ty0 → Prop} (I : TInv τ h' n') (s : Same n [] h h') (p : P τ) : Goes τ n [] h h' n' P := ⟨τ, I, Keep.of_same s, p⟩
theorem lruFind_ok {τ : Ty0} {h : Heap} {n lb b : Nat} {sl : V} {k : List Int} (I : TInv τ h n) (ht : τ lb = some .lru) (hbn : b < n) (hs : BytesAt h b sl k) :
    CallK CC 169 [.ptr lb 0, sl] h n fun v h' n' => Goes τ n [] h h' n' fun τ' => (∃ (x : Int) (t : Bool), v = .tup [.s (.int .i64 x), .s (.bool t)]) := by
  refine F169_call fun hlt => ?_
  rw [F169_eq]
  obtain ⟨most, len, key, rows, H⟩ := LruAt.of_inv I ht
  have hl : lb < n := (I lb _ ht).1
  refine CallK.monoN ?_ (lruAt_ok I hl H hbn hs)
  rintro _ h1 n1 ⟨⟨i, rfl, hi⟩, hs1⟩ hn1
  have I1 := I.same hs1 hn1
  rcases hi with rfl | ⟨i0, i1⟩
  · simp; exact Goes.tri I1 hs1 trivial
  · obtain ⟨j, rfl⟩ : ∃ j : Nat, i = j := ⟨i.toNat, by omega⟩
    simp
    refine CallK.monoN ?_ (out_ok I1 ht (H.of (hs1 lb hl (by simp))) (show j < len by omega))
    rintro _ h2 n2 ⟨τ2, I2, K2, s, x, rows2, ⟨rfl, s16⟩, H2⟩ hn2
    have := H2.l1
    have := H.l1
    refine CallK.monoN ?_ (first_ok s x s16 I2 (K2.ext _ _ ht) H2 (by omega))
    rintro _ h3 n3 ⟨τ3, I3, K3, rows3, H3⟩ hn3
    rcases H3.hr with ⟨_, h0⟩ | ⟨d, o, c, op, lo, mm, hrw, hd, h1', h2'⟩
    · omega
    obtain ⟨A, es, s', x', q1, q2, q3, q4, q5, _⟩ := row_at I3 hd (show o < mm by omega)
    have hg := H3.hg
    subst hrw
    simp [cellsAt, hg, blt_dec, q1, q4, asNat_int]
    exact ⟨τ3, I3, (Keep.of_same hs1).trans0 hn1 (K2.trans0 hn2 K3), trivial⟩
theorem lruDel_ok {τ : Ty0} {h : Heap} {n lb b : Nat} {sl : V} {k : List Int} (I : TInv τ h n) (ht : τ lb = some .lru) (hbn : b < n) (hs : BytesAt h b sl k) :
    CallK CC 168 [.ptr lb 0, sl] h n fun v h' n' => Goes τ n [] h h' n' fun τ' => (∃ (x : Int) (t : Bool), v = .tup [.s (.int .i64 x), .s (.bool t)]) := by
  refine F168_call fun hlt => ?_
  rw [F168_eq]
  obtain ⟨most, len, key, rows, H⟩ := LruAt.of_inv I ht
  have hl : lb < n := (I lb _ ht).1
  refine CallK.monoN ?_ (lruAt_ok I hl H hbn hs)
  rintro _ h1 n1 ⟨⟨i, rfl, hi⟩, hs1⟩ hn1
  have I1 := I.same hs1 hn1
  rcases hi with rfl | ⟨i0, i1⟩
  · simp; exact Goes.tri I1 hs1 trivial
  · obtain ⟨j, rfl⟩ : ∃ j : Nat, i = j := ⟨i.toNat, by omega⟩
    simp
    refine CallK.monoN ?_ (out_ok I1 ht (H.of (hs1 lb hl (by simp))) (show j < len by omega))
    rintro _ h2 n2 ⟨τ2, I2, K2, s, x, rows2, ⟨rfl, s16⟩, H2⟩ hn2
    simp [rowV]
    exact ⟨τ2, I2, (Keep.of_same hs1).trans0 hn1 K2, trivial⟩
theorem mkConv_s (s : ByteArray) : mkConv CC 9 23 (.s (.string s)) = some (.cells (.ofList (bytesV s.data.toList)) 1, .slice s.size s.size true) := by kernel_rfl
theorem bytesV_eq (l : List UInt8) : bytesV l = bytesV' (l.map fun x => (x.toNat : Int)) := by
  simp [bytesV, bytesV']
/-- What goes, and its cell. -/
def GoneP (τ' : Ty0) (n : Nat) (h' : Heap) (n' : Nat) (v : V) : Prop := ∃ (g : V) (x e : Int), v = .tup [g, .s (.int .i64 x), .s (.int .i64 e)] ∧ (x = 0 ∨ ∃ (a : Nat) (l : List Int), n ≤ a ∧ a < n' ∧ τ' a = none ∧ BytesAt h' a g l ∧ l.length ≤ 16)
theorem gone_fin {τ' : Ty0} {n m n' : Nat} {h h35 : Heap} {τ : Ty0} {s : ByteArray} {x e : Int} (I : TInv τ' h35 m) (hm : n ≤ m) (K : Keep τ τ' n [] h h35) (s16 : s.size ≤ 16) (hn : m + 2 < n') :
    ∃ b o, (h35.set (m + 2) (.cells (.ofList (bytesV s.data.toList)) 1)).get b = some o ∧ Goes τ n [] h ((h35.set (m + 2) (.cells (.ofList (bytesV s.data.toList)) 1)).set b (normOb o)) n' fun τ' => GoneP τ' n ((h35.set (m + 2) (.cells (.ofList (bytesV s.data.toList)) 1)).set b (normOb o)) n' (.tup [.slice (m + 2) 0 s.size s.size true, .s (.int .i64 x), .s (.int .i64 e)]) := by
  refine ⟨m + 2, _, by rw [Tree.get_set, if_pos rfl], τ', ?_, ⟨K.ext, K.new, fun y hy ht _ => ?_⟩, _, x, e, rfl, .inr ⟨m + 2, s.data.toList.map fun x => (x.toNat : Int), by omega, hn, I.none (by omega), ?_, ?_⟩⟩
  · exact I.of (by omega) fun y hy _ => by rw [Tree.get_set, if_neg (by omega), Tree.get_set, if_neg (by omega)]
  · rw [Tree.get_set, if_neg (by omega), Tree.get_set, if_neg (by omega), K.same y hy ht (by simp)]
  · have hz : s.data.toList.length = s.size := by rw [Array.length_toList]; rfl
    refine .inr ⟨0, s.size, true, bytesV s.data.toList, 1, by rw [List.length_map, hz], ?_, ?_, by rw [bytesV'_length, Nat.mul_one]⟩
    · rw [cellsAt, Tree.get_set, if_pos rfl]
      show some (Rope.lst ((Rope.ofListF 16 (bytesV s.data.toList)).toList), 1) = _
      rw [(Rope.ofListF_ok 16 (bytesV s.data.toList)).2.1]
    · rw [bytesV_eq, Nat.mul_one, List.drop_zero]; exact bytes_take _
  · have hz : s.data.toList.length = s.size := by rw [Array.length_toList]; rfl
    rw [List.length_map, hz]; exact s16
theorem lruPut_ok {τ : Ty0} {h : Heap} {n lb b : Nat} {sl : V} {k : List Int} (cell : Int) (I : TInv τ h n) (ht : τ lb = some .lru) (hbn : b < n) (hbt : τ b = none) (hs : BytesAt h b sl k) :
    CallK CC 83 [.ptr lb 0, sl, .s (.int .i64 cell)] h n fun v h' n' => Goes τ n [] h h' n' fun τ' => GoneP τ' n h' n' v := by
  refine CallK.norm ?_
  refine F83_call fun hlt => ?_
  rw [F83_eq]
  obtain ⟨most, len, key, rows, H⟩ := LruAt.of_inv I ht
  have hl : lb < n := (I lb _ ht).1
  have hg := H.hg
  have l1 := H.l1
  have l2 := H.m1
  have l3 := H.m2
  have z : ∀ τ' h' n' e, GoneP τ' n h' n' (.tup [.s (.slice none 0 0), .s (.int .i64 0), .s (.int .i64 e)]) := fun _ _ _ e => ⟨_, 0, e, rfl, .inl rfl⟩
  simp [cellsAt, hg, hs.len]
  split
  · rename_i hkey
    refine CallK.monoN ?_ (lruAt_ok I hl H hbn hs)
    rintro _ h1 n1 ⟨⟨i, rfl, hi⟩, hs1⟩ hn1
    have I1 := I.same hs1 hn1
    rcases hi with rfl | ⟨i0, i1⟩
    · have hg1 := (hs1 lb hl (by simp)).trans hg
      have hsx : Same n1 [] h1 (h1.set n1 (.cells (.lst [.s (.string ⟨#[]⟩), .s (.int .i64 0)]) 2)) := Same.new _ _ _ _
      have gz : (h1.set n1 (.cells (.lst [.s (.string ⟨#[]⟩), .s (.int .i64 0)]) 2)).get n1 = some (.cells (.lst [.s (.string ⟨#[]⟩), .s (.int .i64 0)]) 2) := by rw [Tree.get_set, if_pos rfl]
      simp [Tree.get_set, show ¬ lb = n1 by omega, hg1, (rows_norm H.hr).1, rows_len H.hr]
      generalize (h1.set n1 (.cells (.lst [.s (.string ⟨#[]⟩), .s (.int .i64 0)]) 2)) = h12 at hsx gz
      have I12 : TInv τ h12 (n1 + 1 + 10) := I1.same hsx (by omega)
      have H12 : LruAt τ h12 lb most len key rows := (H.of (hs1 lb hl (by simp))).of (hsx lb (by omega) (by simp))
      have tn1 : τ n1 = none := I.none hn1
      have Kh : Keep τ τ n [] h h12 := (Keep.of_same hs1).trans0 hn1 (Keep.of_same hsx)
      have hs12 := (hs.of (hs1 b hbn (by simp))).of (hsx b (by omega) (by simp))
      have kl : k.length ≤ 16 := by have := H.k16; omega
      split
      · have e1 : wrapF .i64 ((most : Int) - 1) = ((most - 1 : Nat) : Int) := by rw [wrapF_i64 (by omega) (by omega)]; omega
        rw [e1]
        refine CallK.monoN ?_ (out_ok I12 ht H12 (show most - 1 < len by omega))
        rintro _ h28 n29 ⟨τ2, I2, K2, s, x, rows2, ⟨rfl, s16⟩, H2⟩ hn29
        have gn : h28.get n1 = some (.cells (.lst [.s (.string ⟨#[]⟩), .s (.int .i64 0)]) 2) := by rw [K2.same n1 (by omega) tn1 (by simp), gz]
        have t2n : τ2 n1 = none := K2.none (by omega) tn1
        simp [rowV, storeCells, cellsOwn, gn, Rope.put, ble_dec]
        have hsx2 : ∀ y, y ≠ n1 → (h28.set n1 (.cells (.lst [.s (.string s), .s (.int .i64 x)]) 2)).get y = h28.get y := fun y hy => by rw [Tree.get_set, if_neg hy]
        have gn2 : (h28.set n1 (.cells (.lst [.s (.string s), .s (.int .i64 x)]) 2)).get n1 = some (.cells (.lst [.s (.string s), .s (.int .i64 x)]) 2) := by rw [Tree.get_set, if_pos rfl]
        generalize (h28.set n1 (.cells (.lst [.s (.string s), .s (.int .i64 x)]) 2)) = h31 at hsx2 gn2 ⊢
        have I31 : TInv τ2 h31 n29 := I2.of (Nat.le_refl _) fun y _ hy => hsx2 y (by rintro rfl; exact hy t2n)
        have hs31 := (hs12.of (K2.same b (by omega) hbt (by simp))).of (hsx2 b (by omega))
        obtain ⟨t, e2, e3⟩ := conv_ok hs31
        simp [e2]
        refine CallK.monoN ?_ (first_ok t cell (by omega) I31 (K2.ext _ _ ht) (H2.of (hsx2 lb (by omega))) (by omega))
        rintro _ h35 n36 ⟨τ3, I3, K3, rows3, H3⟩ hn36
        have g35 : h35.get n1 = some (.cells (.lst [.s (.string s), .s (.int .i64 x)]) 2) := by rw [K3.same n1 (by omega) t2n (by simp), gn2]
        have K31 : Keep τ τ2 n [] h h31 := ⟨K2.ext, fun y q e => by
          rcases K2.new y q e with e | e
          · exact .inl e
          · exact .inr (by omega), fun y hy ht' _ => by rw [hsx2 y (by omega), K2.same y (by omega) ht' (by simp), Kh.same y hy ht' (by simp)]⟩
        simp [g35, mkConv_s, Mk.val]
        have gf := gone_fin (τ := τ) (h := h) (n := n) (n' := n36 + 8) (s := s) (x := x) (e := 0) I3 (by omega) (K31.trans0 (by omega) K3) s16 (by omega)
        first
          | exact .inr gf
          | (simp only [Tree.get_set] at gf; exact .inr gf)
      · obtain ⟨t, e2, e3⟩ := conv_ok hs12
        simp [e2]
        refine CallK.monoN ?_ (first_ok t cell (by omega) I12 ht H12 (by omega))
        rintro _ h35 n36 ⟨τ3, I3, K3, rows3, H3⟩ hn36
        have g35 : h35.get n1 = some (.cells (.lst [.s (.string ⟨#[]⟩), .s (.int .i64 0)]) 2) := by rw [K3.same n1 (by omega) tn1 (by simp), gz]
        simp [g35, mkConv_s, Mk.val]
        have gf := gone_fin (τ := τ) (h := h) (n := n) (n' := n36 + 8) (s := ⟨#[]⟩) (x := 0) (e := 0) I3 (by omega) (Kh.trans0 (by omega) K3) (by decide) (by omega)
        first
          | exact .inr gf
          | (simp only [Tree.get_set] at gf; exact .inr gf)
    · simp [i0]
      exact .inl (Goes.tri I1 hs1 (z _ _ _ _))
  · exact .inl (Goes.tri I (Same.refl _ _ _) (z _ _ _ _))
end Go.Ev
