import Derived.Test.YtkcdhdilifolfaaGreatIQ3
import Derived.Test.YtkcdhdilifolfaaGreatEvZF
namespace Go.Ev
set_option maxRecDepth 20000

theorem created {τe τ : Ty0} {he h ha h3 : Heap} {nE n na n3 m c M lb eb ne p b' : Nat} {L : List Nat} {last now : Int} {lv ev v' : V} {kind key val mx : Int} {by_ progs : V} (Ke : Keep τe τ nE [m, c, lb, eb] he h) (hEn : nE ≤ n) (I : TInv τ h n) (H : MapsAt τ h n m c M lb eb L last now lv ev ne) (hl : L.length < 8)
    (pE : nE ≤ p) (pn : p < n) (pt : τ p = none) (pm : p ≠ m) (pc : p ≠ c) (pl : p ≠ lb) (pe : p ≠ eb) (hg : h.get p = some (.cells (.lst [.s (.int .i64 kind), .s (.int .i64 key), .s (.int .i64 val), .s (.int .i64 mx), by_, progs]) 6))
    (hby : ByOk τ key mx by_ progs) (k1 : 1 ≤ key) (k2 : key ≤ 16) (k3 : 1 ≤ val) (k4 : val ≤ 64) (k5 : 1 ≤ mx) (k6 : mx ≤ 64)
    (hna : n ≤ na) (sa : Same n [] h ha) (hb' : b' = na ∨ (b' = lb ∧ lb ≠ m)) (hbn : b' < n3) (hn3 : na ≤ n3) (hG : GrowM h3 m b' v' 1 (L.length + 1) ((L.map fun p => .ptr p 0) ++ [.ptr p 0])) (hs3 : ∀ x, (x ≠ lb ∨ lb = m) → x ≠ na → h3.get x = ha.get x) :
    MapsGo τe nE m c M lb eb (last + 64 * (8 - ((L.length + 1 : Nat) : Int))) ne he (h3.set m (.cells (.lst [.ptr c 0, v', .s (.int .i64 now), ev]) 4)) n3 := by
  have mn := H.mn
  have cn := H.cn
  have mc := H.mc
  generalize hh : (h3.set m (.cells (.lst [.ptr c 0, v', .s (.int .i64 now), ev]) 4)) = h4
  have gm : h4.get m = some (.cells (.lst [.ptr c 0, v', .s (.int .i64 now), ev]) 4) := by rw [← hh, Tree.get_set, if_pos rfl]
  have e4 : ∀ x, x < n → x ≠ m → (x ≠ lb ∨ lb = m) → h4.get x = h.get x := fun x hx hxm hxl => by rw [← hh, Tree.get_set, if_neg hxm, hs3 x hxl (by omega), sa x hx (by simp)]
  have tlb : ∀ x, τ x ≠ none → x ≠ lb ∨ lb = m := fun x hx => by
    rcases H.lbo with h | ⟨_, h4, _⟩
    · exact .inr h
    · exact .inl (by rintro rfl; exact hx h4)
  have pl' : p ≠ lb ∨ lb = m := .inl pl
  have t1 : TLe τ (upT τ p .one) := upT_le pt
  have N : ∀ x, x ≠ p → upT τ p .one x = τ x := fun x hx => if_neg hx
  have tb' : τ b' = none ∧ b' ≠ c ∧ b' ≠ m ∧ (b' = lb ∨ n ≤ b') ∧ b' ≠ p := by
    rcases hb' with rfl | ⟨rfl, hb'⟩
    · exact ⟨I.none hna, by omega, by omega, .inr hna, by omega⟩
    · rcases H.lbo with h | ⟨h3, h4, h5⟩
      · exact absurd h hb'
      · exact ⟨h4, h5, hb', .inl rfl, Ne.symm pl⟩
  obtain ⟨u1, u2, u3, u4, u5⟩ := tb'
  have I4 : TInv (upT τ p .one) h4 n3 := by
    refine TInv.up (I.of (by omega) fun x hx hxt => e4 x hx (by rintro rfl; exact hxt H.tm) (tlb x hxt)) pt (by omega) (Nat.le_refl _) ⟨kind, key, val, mx, by_, progs, ?_, hby.le t1, k1, k2, k3, k4, k5, k6⟩
    rw [e4 p pn pm pl', hg]
  obtain ⟨es, hev⟩ := H.hev
  refine ⟨upT τ p .one, b', eb, L ++ [p], last, now, v', ev, ne, I4, ⟨Ke.ext.trans t1, ?_, ?_⟩, ⟨gm, ?_, t1 _ _ H.hM, ?_, ?_, ⟨es, ?_⟩, ?_, ?_, by omega, by omega, mc, .inr ⟨hbn, ?_, u2⟩, ?_, ?_, ?_, H.la0⟩, ?_, .inl rfl, ?_, Nat.le_refl _⟩
  · intro x k e
    by_cases hx : x = p
    · exact .inr (by omega)
    · rw [N x hx] at e; exact Ke.new x k e
  · intro x hx hxt hxf
    have hxf' := hxf
    simp at hxf'
    rw [e4 x (by omega) hxf'.1 (.inl hxf'.2.2.1), Ke.same x hx hxt hxf]
  · refine H.hc.of (e4 c cn (Ne.symm mc) ?_)
    rcases H.lbo with h | ⟨_, _, h⟩
    · exact .inr h
    · exact .inl (Ne.symm h)
  · have := hG.of (h' := h4) fun hb => by rw [← hh, Tree.get_set, if_neg hb]
    simpa using this
  · intro q hq
    simp at hq
    rcases hq with hq | rfl
    · exact t1 _ _ (H.hone q hq)
    · exact upT_same _ _ _
  · refine hev.of fun hb => ?_
    rcases H.ebo with h | ⟨h3', h4', h5'⟩
    · exact absurd h hb
    · refine e4 eb h3' hb ?_
      by_cases hlb : lb = m
      · exact .inr hlb
      · exact .inl fun e => hlb (H.leb e.symm)
  · rw [N m (Ne.symm pm)]; exact H.tm
  · rw [N c (Ne.symm pc)]; exact H.tc
  · rw [N b' u5]; exact u1
  · rcases H.ebo with h | ⟨h3', h4', h5'⟩
    · exact .inl h
    · exact .inr ⟨by omega, by rw [N eb (Ne.symm pe)]; exact h4', h5'⟩
  · intro e
    rcases hb' with rfl | ⟨rfl, hb'⟩
    · rcases H.ebo with h | ⟨h3', h4', h5'⟩
      · exact absurd (e.trans h) u3
      · omega
    · exact H.leb e
  · simp; omega
  · rcases u4 with h | h
    · exact .inl h
    · exact .inr (by omega)
  · simp
theorem appended {τe τ : Ty0} {he h : Heap} {nE n m c M lb eb ne p : Nat} {L : List Nat} {last now : Int} {lv ev : V} {kind key val mx : Int} {by_ progs : V} (Ke : Keep τe τ nE [m, c, lb, eb] he h) (hEn : nE ≤ n) (I : TInv τ h n) (H : MapsAt τ h n m c M lb eb L last now lv ev ne) (hl : L.length < 8)
    (pE : nE ≤ p) (pn : p < n) (pt : τ p = none) (pm : p ≠ m) (pc : p ≠ c) (pl : p ≠ lb) (pe : p ≠ eb) (hg : h.get p = some (.cells (.lst [.s (.int .i64 kind), .s (.int .i64 key), .s (.int .i64 val), .s (.int .i64 mx), by_, progs]) 6))
    (hby : ByOk τ key mx by_ progs) (k1 : 1 ≤ key) (k2 : key ≤ 16) (k3 : 1 ≤ val) (k4 : val ≤ 64) (k5 : 1 ≤ mx) (k6 : mx ≤ 64) {K : V → Heap → Nat → Prop}
    (hK : ∀ v' h3 n3, V.cells v' = some (.one v') → normV v' = v' → (∀ h, lenV CC h 95 v' = some (.s (.int .i64 ((L.length + 1 : Nat) : Int)))) → h3.get m = some (.cells (.lst [.ptr c 0, lv, .s (.int .i64 now), ev]) 4) →
      MapsGo τe nE m c M lb eb (last + 64 * (8 - ((L.length + 1 : Nat) : Int))) ne he (h3.set m (.cells (.lst [.ptr c 0, v', .s (.int .i64 now), ev]) 4)) n3 → K v' h3 n3) :
    appendWK 1 8 (h.set n (.cells (.lst [.ptr p 0]) 1)) (n + 1) lv (.slice n 0 1 1 false) K := by
  have hsa : Same n [] h (h.set n (.cells (.lst [.ptr p 0]) 1)) := Same.new _ _ _ _
  have hL := H.hL.of (h' := h.set n (.cells (.lst [.ptr p 0]) 1)) fun hb => by
    rcases H.lbo with h | ⟨h, _⟩
    · exact absurd h hb
    · exact hsa lb h (by simp)
  have mn := H.mn
  refine growM_ok (new := [.ptr p 0]) (by omega) hL (.row (A := [.ptr p 0]) (es := 1) (by rw [cellsAt, Tree.get_set, if_pos rfl]) rfl rfl) (by rcases H.lbo with h | ⟨h, _⟩; exact .inl h; exact .inr (by omega)) (by omega) (by omega) ?_
  intro v' b' h3 n3 hb' hbn hn3 hG hs3
  refine hK v' h3 n3 ?_ ?_ ?_ ?_ (created Ke hEn I H hl pE pn pt pm pc pl pe hg hby k1 k2 k3 k4 k5 k6 (show n ≤ n + 1 by omega) hsa hb' hbn hn3 (by simpa using hG) hs3)
  · rcases hG with ⟨rfl, _⟩ | ⟨_, _, ⟨rfl, _⟩ | ⟨o, k, op, A, rfl, _⟩⟩ <;> rfl
  · rcases hG with ⟨rfl, _⟩ | ⟨_, _, ⟨rfl, _⟩ | ⟨o, k, op, A, rfl, _⟩⟩ <;> rfl
  · intro hh
    rcases hG with ⟨_, _, h0, _⟩ | ⟨_, _, ⟨_, h0, _⟩ | ⟨o, k, op, A, rfl, _⟩⟩
    · omega
    · omega
    · simp
  · rw [hs3 m (by omega) (by omega), hsa m mn (by simp), H.hm]
theorem appendWK_mono {sz bytes : Nat} {h : Heap} {n : Nat} {a x : V} {K K' : V → Heap → Nat → Prop} (hm : ∀ v h n, K v h n → K' v h n) (k : appendWK sz bytes h n a x K) : appendWK sz bytes h n a x K' := oK_mono (fun _ h => hm _ _ _ h) k
theorem create_ok {τ : Ty0} {h : Heap} {n m c M lb eb ne : Nat} {L : List Nat} {last now : Int} {lv ev : V} (I : TInv τ h n) (H : MapsAt τ h n m c M lb eb L last now lv ev ne) (hla : last ≤ 4611686018427380000) (kind key val mx : Int) :
    CallK CC 25 [.ptr m 0, .agg (.lst [.s (.int .i64 kind), .s (.int .i64 key), .s (.int .i64 val), .s (.int .i64 mx)])] h n fun r h' n' => (∃ x e : Int, r = .tup [.s (.int .i64 x), .s (.int .i64 e)]) ∧ MapsGo τ n m c M lb eb (last + 64 * (8 - (L.length : Nat)) + 1) (ne + 2) h h' n' := by
  refine F25_call fun hlt => ?_
  rw [F25_eq]
  have hsm : Same n [] h (h.set n (.cells (.lst [.s (.int .i64 kind), .s (.int .i64 key), .s (.int .i64 val), .s (.int .i64 mx)]) 4)) := Same.new _ _ _ _
  have hg0 : (h.set n (.cells (.lst [.s (.int .i64 kind), .s (.int .i64 key), .s (.int .i64 val), .s (.int .i64 mx)]) 4)).get n = some (.cells (.lst [.s (.int .i64 kind), .s (.int .i64 key), .s (.int .i64 val), .s (.int .i64 mx)]) 4) := by rw [Tree.get_set, if_pos rfl]
  simp only [cells_agg, oK_some, Rope.toList_lst]
  generalize (h.set n (.cells (.lst [.s (.int .i64 kind), .s (.int .i64 key), .s (.int .i64 val), .s (.int .i64 mx)]) 4)) = h1 at hsm hg0 ⊢
  have I1 : TInv τ h1 (n + 1) := I.same hsm (by omega)
  have H1 := H.keep (show n ≤ n + 1 by omega) (Keep.of_same hsm)
  have hm1 := H1.hm
  have nl := H.norm.1
  have l8 := H.l8
  have hlen : ∀ h, lenV CC h 95 lv = some (.s (.int .i64 (L.length : Nat))) := by
    intro h
    rcases H.hL with ⟨rfl, _, h0, _⟩ | ⟨_, _, ⟨rfl, h0, _⟩ | ⟨o, k, op, A, rfl, _⟩⟩
    · simp [h0]
    · simp [h0]
    · simp
  have quit : ∀ h2 n2 e, Same n [] h h2 → n ≤ n2 → (∃ x e' : Int, V.tup [.s (.int .i64 0), .s (.int .i64 e)] = .tup [.s (.int .i64 x), .s (.int .i64 e')]) ∧ MapsGo τ n m c M lb eb (last + 64 * (8 - (L.length : Nat)) + 1) (ne + 2) h h2 n2 := fun h2 n2 e s hn2 =>
    ⟨⟨_, _, rfl⟩, MapsGo.stay (I.same s hn2) hn2 H (Keep.of_same s) (by omega) (by omega)⟩
  simp [cellsAt, hm1, hlen, nl]
  by_cases h8 : (8 : Int) ≤ (L.length : Nat)
  · simp [h8]
    exact (quit h1 (n + 1) 9 hsm (by omega)).2
  · simp [h8, hg0]
    refine CallK.monoN ?_ (within_ok _ _ _ _ _)
    rintro _ h2 n2 ⟨rfl, rfl⟩ hn2
    by_cases hk : 1 ≤ kind ∧ kind ≤ 4
    · simp [hk, hg0, ble_dec]
      refine CallK.monoN ?_ (may_ok kind key val mx _ _)
      rintro _ h3 n3 ⟨⟨b, rfl, hb⟩, hs3⟩ hn3
      have s3 : Same n [] h h3 := fun x hx hf => by rw [hs3 x (by omega) (by simp), hsm x hx hf]
      cases b with
      | false =>
        simp
        exact (quit h3 n3 14 s3 (by omega)).2
      | true =>
        obtain ⟨k1, k2, k3, k4, k5, k6, k7⟩ := hb rfl
        have hg3 := (hs3 n (by omega) (by simp)).trans hg0
        simp [hg3]
        have hs4 : Same n3 [] h3 (h3.set n3 (.cells (.lst [.s (.int .i64 kind), .s (.int .i64 key), .s (.int .i64 val), .s (.int .i64 mx), .s .nilIface, .s (.slice none 0 0)]) 6)) := Same.new _ _ _ _
        have gp : (h3.set n3 (.cells (.lst [.s (.int .i64 kind), .s (.int .i64 key), .s (.int .i64 val), .s (.int .i64 mx), .s .nilIface, .s (.slice none 0 0)]) 6)).get n3 = some (.cells (.lst [.s (.int .i64 kind), .s (.int .i64 key), .s (.int .i64 val), .s (.int .i64 mx), .s .nilIface, .s (.slice none 0 0)]) 6) := by rw [Tree.get_set, if_pos rfl]
        generalize (h3.set n3 (.cells (.lst [.s (.int .i64 kind), .s (.int .i64 key), .s (.int .i64 val), .s (.int .i64 mx), .s .nilIface, .s (.slice none 0 0)]) 6)) = h4 at hs4 gp ⊢
        have s4 : Same n [] h h4 := fun x hx hf => by rw [hs4 x (by omega) (by simp), s3 x hx hf]
        have gn := (hs4 n (by omega) (by simp)).trans hg3
        have I4 : TInv τ h4 (n3 + 1) := I.same s4 (by omega)
        have H4 := H.keep (show n ≤ n3 + 1 by omega) (Keep.of_same s4)
        have hm4 := H4.hm
        have mn := H.mn
        have cn := H.cn
        have mc := H.mc
        have lbn : lb < n := by rcases H.lbo with h | ⟨h, _⟩ <;> omega
        have ebn : eb < n := by rcases H.ebo with h | ⟨h, _⟩ <;> omega
        have tp : τ n3 = none := I.none (by omega)
        obtain ⟨keyN, rfl⟩ : ∃ x : Nat, key = x := ⟨key.toNat, by omega⟩
        obtain ⟨valN, rfl⟩ : ∃ x : Nat, val = x := ⟨val.toNat, by omega⟩
        obtain ⟨mxN, rfl⟩ : ∃ x : Nat, mx = x := ⟨mx.toNat, by omega⟩
        obtain ⟨nE, hnE⟩ : ∃ nE, nE = n := ⟨_, rfl⟩
        obtain ⟨hE, hhE⟩ : ∃ hE, hE = h := ⟨_, rfl⟩
        have leb' : n3 ≠ m ∧ n3 ≠ c ∧ n3 ≠ lb ∧ n3 ≠ eb := by omega
        obtain ⟨d1, d2, d3, d4⟩ := leb'
        -- what is left: the map is laid behind the others
        have tail : ∀ (τ6 : Ty0) (h6 : Heap) (n6 : Nat) (la : Int) (by_ progs : V), Keep τ τ6 n [c] h h6 → n3 < n6 → TInv τ6 h6 n6 → CellsAt h6 c M la → 0 ≤ la → la ≤ last + 64 → τ6 n3 = none →
            h6.get n3 = some (.cells (.lst [.s (.int .i64 kind), .s (.int .i64 (keyN : Nat)), .s (.int .i64 (valN : Nat)), .s (.int .i64 (mxN : Nat)), by_, progs]) 6) → ByOk τ6 (keyN : Nat) (mxN : Nat) by_ progs →
            appendWK 1 8 (h6.set n6 (.cells (.lst [.ptr n3 0]) 1)) (n6 + 1) lv (.slice n6 0 1 1 false) fun v h n => V.cells v = some (.one v) ∧ normV v = v ∧ (∀ h, lenV CC h 95 v = some (.s (.int .i64 ((L.length + 1 : Nat) : Int)))) ∧ h.get m = some (.cells (.lst [.ptr c 0, lv, .s (.int .i64 now), ev]) 4) ∧
              MapsGo τ nE m c M lb eb (last + 64 * (8 - (L.length : Nat)) + 1) (ne + 2) hE (h.set m (.cells (.lst [.ptr c 0, v, .s (.int .i64 now), ev]) 4)) n := by
          intro τ6 h6 n6 la by_ progs K6 hn6 I6 c6 la0 la64 t6 g6 b6
          have H6 : MapsAt τ6 h6 n6 m c M lb eb L la now lv ev ne := H.made (by omega) K6 c6 la0
          refine appended (τe := τ) (he := h) (nE := n) (K6.sub (by simp)) (by omega) I6 H6 (by omega) (by omega) hn6 t6 d1 d2 d3 d4 g6 b6 (by omega) (by omega) (by omega) (by omega) (by omega) (by omega) ?_
          intro v' h7 n7 e1 e2 e3 e4 G
          refine ⟨e1, e2, e3, e4, ?_⟩
          rw [hnE, hhE]
          exact G.le (by omega) (by omega)
        by_cases c0 : kind = 1
        · simp [c0, gn, hm4]
          refine CallK.monoN ?_ (arrayNew_ok (I4.weaken (show n3 + 1 ≤ n3 + 1 + 14 by omega)) (by omega) (by omega) (by omega) (by omega) H4.hM H4.tc (by omega) H4.hc H4.la0 (by omega))
          rintro _ h5 n5 ⟨τ5, I5, K5', ⟨a, rfl, ha⟩, c5⟩ hn5
          have K5 : Keep τ τ5 (n3 + 1) [c] h4 h5 := ⟨K5'.ext, fun x q e => by
            rcases K5'.new x q e with e | e
            · exact .inl e
            · exact .inr (by omega), fun x hx hxt hxf => K5'.same x (by omega) hxt hxf⟩
          · have H5 := H4.made (show n3 + 1 ≤ n5 by omega) K5 c5 (by have := H.la0; omega)
            have t5 : τ5 n3 = none := K5.none (by omega) tp
            have gp5 := (K5.same n3 (by omega) tp (by simpa using d2)).trans gp
            have gm5 := H5.hm
            simp [gp5, storeCells, cellsOwn, Rope.put, ble_dec, Tree.get_set, show ¬ m = n3 by omega, gm5, nl]
            have g6 : (h5.set n3 (.cells (.lst [.s (.int .i64 kind), .s (.int .i64 (keyN : Nat)), .s (.int .i64 (valN : Nat)), .s (.int .i64 (mxN : Nat)), .iface 125 (.ptr a 0), .s (.slice none 0 0)]) 6)).get n3 = some (.cells (.lst [.s (.int .i64 kind), .s (.int .i64 (keyN : Nat)), .s (.int .i64 (valN : Nat)), .s (.int .i64 (mxN : Nat)), .iface 125 (.ptr a 0), .s (.slice none 0 0)]) 6) := by rw [Tree.get_set, if_pos rfl]
            have e6 : ∀ x, x ≠ n3 → (h5.set n3 (.cells (.lst [.s (.int .i64 kind), .s (.int .i64 (keyN : Nat)), .s (.int .i64 (valN : Nat)), .s (.int .i64 (mxN : Nat)), .iface 125 (.ptr a 0), .s (.slice none 0 0)]) 6)).get x = h5.get x := fun x hx => by rw [Tree.get_set, if_neg hx]
            generalize (h5.set n3 (.cells (.lst [.s (.int .i64 kind), .s (.int .i64 (keyN : Nat)), .s (.int .i64 (valN : Nat)), .s (.int .i64 (mxN : Nat)), .iface 125 (.ptr a 0), .s (.slice none 0 0)]) 6)) = h6 at g6 e6 ⊢
            have I6 : TInv τ5 h6 n5 := I5.of (Nat.le_refl _) fun x _ hx => e6 x (by rintro rfl; exact hx t5)
            have K6 : Keep τ τ5 n [c] h h6 := ⟨K5.ext, fun x q e => by
              rcases K5.new x q e with e | e
              · exact .inl e
              · exact .inr (by omega), fun x hx hxt hxf => by rw [e6 x (by omega), K5.same x (by omega) hxt (by simpa using hxf), s4 x hx (by simp)]⟩
            refine appendWK_mono ?_ (tail τ5 h6 n5 (last + (mxN : Nat)) _ _ K6 (by omega) I6 (c5.of (e6 c (by omega))) (by have := H.la0; omega) (by have := H.la0; omega) t5 g6 (.inr (.inl ⟨a, rfl, ha, by have := k7 c0; omega⟩)))
            rintro v7 h7 n7 ⟨f1, f2, f3, f4, f5⟩
            simp [f1, f4, Rope.put, Tree.get_set, f2, f3]
            rw [hnE, hhE] at f5
            exact f5
        · by_cases c1 : kind = 2
          · simp [c1, gn]
            have c0 := c1
            refine CallK.monoN ?_ (hashNew_ok I4 (by omega) (by omega) (by omega) (by omega))
            rintro _ h5 n5 ⟨τ5, I5, K5, a, rfl, ha⟩ hn5
            have H5 := H4.keep hn5 K5
            have t5 : τ5 n3 = none := K5.none (by omega) tp
            have gp5 := (K5.same n3 (by omega) tp (by simp)).trans gp
            have gm5 := H5.hm
            simp [gp5, storeCells, cellsOwn, Rope.put, ble_dec, Tree.get_set, show ¬ m = n3 by omega, gm5, nl]
            have g6 : (h5.set n3 (.cells (.lst [.s (.int .i64 kind), .s (.int .i64 (keyN : Nat)), .s (.int .i64 (valN : Nat)), .s (.int .i64 (mxN : Nat)), .iface 127 (.ptr a 0), .s (.slice none 0 0)]) 6)).get n3 = some (.cells (.lst [.s (.int .i64 kind), .s (.int .i64 (keyN : Nat)), .s (.int .i64 (valN : Nat)), .s (.int .i64 (mxN : Nat)), .iface 127 (.ptr a 0), .s (.slice none 0 0)]) 6) := by rw [Tree.get_set, if_pos rfl]
            have e6 : ∀ x, x ≠ n3 → (h5.set n3 (.cells (.lst [.s (.int .i64 kind), .s (.int .i64 (keyN : Nat)), .s (.int .i64 (valN : Nat)), .s (.int .i64 (mxN : Nat)), .iface 127 (.ptr a 0), .s (.slice none 0 0)]) 6)).get x = h5.get x := fun x hx => by rw [Tree.get_set, if_neg hx]
            generalize (h5.set n3 (.cells (.lst [.s (.int .i64 kind), .s (.int .i64 (keyN : Nat)), .s (.int .i64 (valN : Nat)), .s (.int .i64 (mxN : Nat)), .iface 127 (.ptr a 0), .s (.slice none 0 0)]) 6)) = h6 at g6 e6 ⊢
            have I6 : TInv τ5 h6 n5 := I5.of (Nat.le_refl _) fun x _ hx => e6 x (by rintro rfl; exact hx t5)
            have K6 : Keep τ τ5 n [c] h h6 := ⟨K5.ext, fun x q e => by
              rcases K5.new x q e with e | e
              · exact .inl e
              · exact .inr (by omega), fun x hx hxt hxf => by rw [e6 x (by omega), K5.same x (by omega) hxt (by simp), s4 x hx (by simp)]⟩
            refine appendWK_mono ?_ (tail τ5 h6 n5 last _ _ K6 (by omega) I6 (H5.hc.of (e6 c (by omega))) (by have := H.la0; omega) (by have := H.la0; omega) t5 g6 (.inr (.inr (.inl ⟨a, rfl, ha⟩))))
            rintro v7 h7 n7 ⟨f1, f2, f3, f4, f5⟩
            simp [f1, f4, Rope.put, Tree.get_set, f2, f3]
            rw [hnE, hhE] at f5
            exact f5
          · by_cases c2 : kind = 3
            · simp [c2, gn]
              have c0 := c2
              refine CallK.monoN ?_ (lruNew_ok I4 (by omega) (by omega) (by omega) (by omega))
              rintro _ h5 n5 ⟨τ5, I5, K5, a, rfl, ha⟩ hn5
              · have H5 := H4.keep hn5 K5
                have t5 : τ5 n3 = none := K5.none (by omega) tp
                have gp5 := (K5.same n3 (by omega) tp (by simp)).trans gp
                have gm5 := H5.hm
                simp [gp5, storeCells, cellsOwn, Rope.put, ble_dec, Tree.get_set, show ¬ m = n3 by omega, gm5, nl]
                have g6 : (h5.set n3 (.cells (.lst [.s (.int .i64 kind), .s (.int .i64 (keyN : Nat)), .s (.int .i64 (valN : Nat)), .s (.int .i64 (mxN : Nat)), .iface 129 (.ptr a 0), .s (.slice none 0 0)]) 6)).get n3 = some (.cells (.lst [.s (.int .i64 kind), .s (.int .i64 (keyN : Nat)), .s (.int .i64 (valN : Nat)), .s (.int .i64 (mxN : Nat)), .iface 129 (.ptr a 0), .s (.slice none 0 0)]) 6) := by rw [Tree.get_set, if_pos rfl]
                have e6 : ∀ x, x ≠ n3 → (h5.set n3 (.cells (.lst [.s (.int .i64 kind), .s (.int .i64 (keyN : Nat)), .s (.int .i64 (valN : Nat)), .s (.int .i64 (mxN : Nat)), .iface 129 (.ptr a 0), .s (.slice none 0 0)]) 6)).get x = h5.get x := fun x hx => by rw [Tree.get_set, if_neg hx]
                generalize (h5.set n3 (.cells (.lst [.s (.int .i64 kind), .s (.int .i64 (keyN : Nat)), .s (.int .i64 (valN : Nat)), .s (.int .i64 (mxN : Nat)), .iface 129 (.ptr a 0), .s (.slice none 0 0)]) 6)) = h6 at g6 e6 ⊢
                have I6 : TInv τ5 h6 n5 := I5.of (Nat.le_refl _) fun x _ hx => e6 x (by rintro rfl; exact hx t5)
                have K6 : Keep τ τ5 n [c] h h6 := ⟨K5.ext, fun x q e => by
                  rcases K5.new x q e with e | e
                  · exact .inl e
                  · exact .inr (by omega), fun x hx hxt hxf => by rw [e6 x (by omega), K5.same x (by omega) hxt (by simp), s4 x hx (by simp)]⟩
                refine appendWK_mono ?_ (tail τ5 h6 n5 last _ _ K6 (by omega) I6 (H5.hc.of (e6 c (by omega))) (by have := H.la0; omega) (by have := H.la0; omega) t5 g6 (.inr (.inr (.inr ⟨a, rfl, ha⟩))))
                rintro v7 h7 n7 ⟨f1, f2, f3, f4, f5⟩
                simp [f1, f4, Rope.put, Tree.get_set, f2, f3]
                rw [hnE, hhE] at f5
                exact f5
            · simp [c0, c1, c2, gn, show 8 * mxN ≤ 281474976710656 by omega, show mxN < 9223372036854775808 by omega]
              have t1 : τ (n3 + 1) = none := I.none (by omega)
              have hn4 : ∀ o, (h4.set (n3 + 1) o).get n3 = h4.get n3 := fun o => by rw [Tree.get_set, if_neg (by omega)]
              simp [storeCells, cellsOwn, hn4, gp, Rope.put, ble_dec, Tree.get_set, show ¬ m = n3 by omega, show ¬ m = n3 + 1 by omega, hm4, nl]
              have g6 : ((h4.set (n3 + 1) (.cells (.lst (List.replicate mxN (.s (.int .i64 0)))) 1)).set n3 (.cells (.lst [.s (.int .i64 kind), .s (.int .i64 (keyN : Nat)), .s (.int .i64 (valN : Nat)), .s (.int .i64 (mxN : Nat)), .s .nilIface, .slice (n3 + 1) 0 mxN mxN false]) 6)).get n3 = some (.cells (.lst [.s (.int .i64 kind), .s (.int .i64 (keyN : Nat)), .s (.int .i64 (valN : Nat)), .s (.int .i64 (mxN : Nat)), .s .nilIface, .slice (n3 + 1) 0 mxN mxN false]) 6) := by rw [Tree.get_set, if_pos rfl]
              have g61 : ((h4.set (n3 + 1) (.cells (.lst (List.replicate mxN (.s (.int .i64 0)))) 1)).set n3 (.cells (.lst [.s (.int .i64 kind), .s (.int .i64 (keyN : Nat)), .s (.int .i64 (valN : Nat)), .s (.int .i64 (mxN : Nat)), .s .nilIface, .slice (n3 + 1) 0 mxN mxN false]) 6)).get (n3 + 1) = some (.cells (.lst (List.replicate mxN (.s (.int .i64 0)))) 1) := by rw [Tree.get_set, if_neg (by omega), Tree.get_set, if_pos rfl]
              have e6 : ∀ x, x ≠ n3 → x ≠ n3 + 1 → ((h4.set (n3 + 1) (.cells (.lst (List.replicate mxN (.s (.int .i64 0)))) 1)).set n3 (.cells (.lst [.s (.int .i64 kind), .s (.int .i64 (keyN : Nat)), .s (.int .i64 (valN : Nat)), .s (.int .i64 (mxN : Nat)), .s .nilIface, .slice (n3 + 1) 0 mxN mxN false]) 6)).get x = h4.get x := fun x hx hx' => by rw [Tree.get_set, if_neg hx, Tree.get_set, if_neg hx']
              generalize ((h4.set (n3 + 1) (.cells (.lst (List.replicate mxN (.s (.int .i64 0)))) 1)).set n3 (.cells (.lst [.s (.int .i64 kind), .s (.int .i64 (keyN : Nat)), .s (.int .i64 (valN : Nat)), .s (.int .i64 (mxN : Nat)), .s .nilIface, .slice (n3 + 1) 0 mxN mxN false]) 6)) = h6 at g6 g61 e6 ⊢
              have I6 : TInv (upT τ (n3 + 1) (.nums .i64 0 mxN)) h6 (n3 + 1 + 1) := by
                refine TInv.up (I4.of (by omega) fun x hx hxt => e6 x (by rintro rfl; exact hxt tp) (by rintro rfl; exact hxt t1)) t1 (by omega) (Nat.le_refl _) ⟨_, 1, g61, by simp, fun i _ hi => ⟨0, rep_at hi⟩⟩
              have K6 : Keep τ (upT τ (n3 + 1) (.nums .i64 0 mxN)) n [c] h h6 := Keep.up (by omega) t1 fun x hx _ => by rw [e6 x (by omega) (by omega), s4 x hx (by simp)]
              have t6 : upT τ (n3 + 1) (.nums .i64 0 mxN) n3 = none := by unfold upT; rw [if_neg (by omega)]; exact tp
              refine appendWK_mono ?_ (tail _ h6 (n3 + 1 + 1) last _ _ K6 (by omega) I6 (H4.hc.of (e6 c (by omega) (by omega))) (by have := H.la0; omega) (by have := H.la0; omega) t6 g6 (.inl ⟨rfl, n3 + 1, 0, mxN, false, 0, mxN, by simp, upT_same _ _ _, by omega, by omega, by omega⟩))
              rintro v7 h7 n7 ⟨f1, f2, f3, f4, f5⟩
              simp [f1, f4, Rope.put, Tree.get_set, f2, f3]
              rw [hnE, hhE] at f5
              exact f5
    · simp [hk]
      exact (quit h2 n2 13 hsm (by omega)).2
theorem newMaps_ok {τ : Ty0} {h : Heap} {n : Nat} (I : TInv τ h n) : CallK CC 12 [] h n fun v h' n' => ∃ τ' m c M, v = .ptr m 0 ∧ TInv τ' h' n' ∧ Keep τ τ' n [] h h' ∧ n ≤ m ∧ n ≤ c ∧ MapsAt τ' h' n' m c M m m [] 0 0 (.s (.slice none 0 0)) (.s (.slice none 0 0)) 0 := by
  refine F12_call fun hlt => ?_
  rw [F12_eq]
  refine CallK.monoN ?_ (newCells_ok I)
  rintro _ h1 n1 ⟨τ1, I1, K1, c, M, rfl, c1, c2, c3, c4, c5⟩ hn1
  simp
  have hs : Same n1 [] h1 (h1.set n1 (.cells (.lst [.ptr c 0, .s (.slice none 0 0), .s (.int .i64 0), .s (.slice none 0 0)]) 4)) := Same.new _ _ _ _
  refine ⟨τ1, I1.same hs (by omega), K1.trans0 hn1 (Keep.of_same hs), hn1, c, c1, M, ⟨by rw [Tree.get_set, if_pos rfl], c5.of (hs c c2 (by simp)), c4, .inl ⟨rfl, rfl, rfl, rfl⟩, by simp, ⟨[], .inl ⟨rfl, rfl, rfl, rfl⟩⟩, I1.none (Nat.le_refl _), c3, by omega, by omega, by omega, .inl rfl, .inl rfl, fun _ => rfl, by simp, by omega⟩⟩

/-! ### Bytes that are handed in -/
@[simp] theorem lenVoid (h : Heap) (a : Addr) : lenV CC h 23 (.s (.slice (some a) 0 0)) = some (.s (.int .i64 0)) := of_eq (by kernel_rfl)
def ByteArg (h : Heap) (b : Nat) (v : V) (l : List Int) : Prop := BytesAt h b v l ∨ ((∃ a, v = .s (.slice (some a) 0 0)) ∧ l = [])
theorem ByteArg.len {h : Heap} {b : Nat} {v : V} {l : List Int} (H : ByteArg h b v l) (h' : Heap) : lenV CC h' 23 v = some (.s (.int .i64 l.length)) := by
  rcases H with H | ⟨⟨a, rfl⟩, rfl⟩
  · exact H.len h'
  · simp
theorem ByteArg.of {h h' : Heap} {b : Nat} {v : V} {l : List Int} (H : ByteArg h b v l) (e : h'.get b = h.get b) : ByteArg h' b v l := by
  rcases H with H | H
  · exact .inl (H.of e)
  · exact .inr H
theorem ByteArg.ix {h : Heap} {b : Nat} {v : V} {l : List Int} (H : ByteArg h b v l) {i : Nat} (hi : i < l.length) : BytesAt h b v l := by
  rcases H with H | ⟨_, rfl⟩
  · exact H
  · simp at hi
theorem ByteArg.norm {h : Heap} {b : Nat} {v : V} {l : List Int} (H : ByteArg h b v l) : normV v = v ∧ V.cells v = some (.one v) := by
  rcases H with H | ⟨⟨a, rfl⟩, rfl⟩
  · rcases H with ⟨rfl, _⟩ | ⟨_, _, _, _, _, rfl, _⟩ <;> exact ⟨rfl, rfl⟩
  · exact ⟨rfl, rfl⟩
theorem oneB_row (h : Heap) (n : Nat) (x : Int) : Row (h.set n (.cells (.lst [.s (.int .u8 x)]) 1)) 1 1 (bytesV' [x]) (.slice n 0 1 1 false) :=
  .row (A := [.s (.int .u8 x)]) (es := 1) (by simp [cellsAt, Tree.get_set]) rfl rfl
theorem bytesV_app (l m : List Int) : bytesV' (l ++ m) = bytesV' l ++ bytesV' m := by simp [bytesV']
theorem copyB_loop {b : Nat} {sl : V} {l : List Int} (hl : l.length ≤ 140737488351232) {Q : X → St → Prop} {n0 : Nat} {h0 : Heap} (hb : b < n0) (hs : ByteArg h0 b sl l)
    (hQ : ∀ t3 t4 a h n s, F45_L110100 sl t3 t4 h n s → n0 ≤ n → GrowAt h a t3 1 l.length (bytesV' l) → n0 ≤ a → a ≤ n → (l ≠ [] → a < n) → Same n0 [] h0 h → Q (.exit 0) s) :
    ∀ m s, (∃ i h n t3 a, m = l.length - i ∧ i ≤ l.length ∧ F45_L110100 sl t3 (.s (.int .i64 i)) h n s ∧ n0 ≤ n ∧ GrowAt h a t3 1 i (bytesV' (l.take i)) ∧ n0 ≤ a ∧ a ≤ n ∧ (i ≠ 0 → a < n) ∧ Same n0 [] h0 h) →
      LoopK CC none (subC [1, 1, 0, 1, 0, 0] (bodyOf Go.Proofs.Tryz.f45)) s Q := by
  refine loopH CCok _ ?_
  rintro m s ⟨i, h, n, t3, a, hm, hi, hs', hn, hG, ha0, han, ha, hsame⟩ hlt
  obtain ⟨g, rfl⟩ := hs'
  rw [F45_b110100]
  replace hlt : ∀ b o, h.get b = some o → b < n := hlt
  have hs1 := hs.of (hsame b hb (by simp))
  by_cases hi' : i < l.length
  · have e3 : wrapF .i64 ((i : Int) + 1) = ((i + 1 : Nat) : Int) := by rw [wrapF_i64 (by omega) (by omega)]; rfl
    obtain ⟨p, p1, p2⟩ := (hs1.ix hi').ix hi'
    simp [hs1.len, hi', p1, p2]
    have hG' : GrowAt (h.set n (.cells (.lst [.s (.int .u8 l[i])]) 1)) a t3 1 i (bytesV' (l.take i)) := by
      rcases hG with H | ⟨o, c, op, A, k1, k2, k3, k4⟩
      · exact .inl H
      · have := hlt _ _ k3
        exact .inr ⟨o, c, op, A, k1, k2, by rw [Tree.get_set, if_neg (by omega)]; exact k3, k4⟩
    refine grow_ok (m := 1) (new := bytesV' [l[i]]) (by omega) hG' (oneB_row h n l[i]) (by omega) (by omega) ?_
    intro v' a' h2 n2 ha' han' hn2 hG2 hs2
    refine ⟨l.length - (i + 1), h2, by omega, fun hok b o hb => ⟨o, hb, hok b o hb⟩, i + 1, rfl, by omega, h2, n2, v', by rw [e3]; exact F45_L110100_of, by omega, a', ?_, by omega, by omega, by omega, ?_⟩
    · rw [List.take_succ_eq_append_getElem hi', bytesV_app]
      exact hG2
    · intro b' hb' hn'
      rw [hs2 b' (by omega) (by omega), Tree.get_set, if_neg (by omega), hsame b' hb' hn']
  · have : i = l.length := by omega
    subst this
    simp [hs1.len, roundQ]
    refine hQ t3 _ a h n _ F45_L110100_of hn (by simpa using hG) ha0 han (fun h => ha (by simpa using h)) hsame
theorem copyB_ok {b : Nat} {sl : V} {l : List Int} (hl : l.length ≤ 140737488351232) {h : Heap} {n : Nat} (hb : b < n) (hs : ByteArg h b sl l) :
    CallK CC 45 [sl] h n fun v h' n' => (∃ a, n ≤ a ∧ a ≤ n' ∧ (l ≠ [] → a < n') ∧ GrowAt h' a v 1 l.length (bytesV' l)) ∧ Same n [] h h' := by
  refine F45_call fun hlt => ?_
  rw [F45_eq]
  refine copyB_loop hl (n0 := n) (h0 := h) hb hs ?_ _ _ ⟨0, h, n, _, n, rfl, by omega, F45_L110100_of, by omega, GrowAt.nil _ _ _, by omega, by omega, by omega, Same.refl _ _ _⟩
  intro t3 t4 a h' n' s hs hn hG ha han ha' hsame
  obtain ⟨g, rfl⟩ := hs
  rw [F45_r110100_0]
  exact ⟨⟨a, ha, han, ha', hG⟩, hsame⟩
def markN (i : Int) : Int := wrapF .u8 (wrapF .i64 (201 + wrapF .i64 (7 * i)))
theorem markB_ok (i : Int) (h : Heap) (n : Nat) : CallK CC 46 [.s (.int .i64 i)] h n fun v h' n' => v = .s (.int .u8 (markN i)) ∧ h' = h := by
  refine F46_call fun hlt => ?_
  rw [F46_eq]
  simp
  rfl
theorem lentB_loop {len : Nat} (hl : len ≤ 140737488351232) {Q : X → St → Prop} {n0 : Nat} {h0 : Heap}
    (hQ : ∀ t3 t4 a h n s l2, F24_L110100 t3 t4 h n s → n0 ≤ n → GrowAt h a t3 1 (len + 5) (bytesV' l2) → l2.length = len + 5 → n0 ≤ a → a < n → Same n0 [] h0 h → Q (.exit 0) s) :
    ∀ m s, (∃ i h n t3 a l2, m = 5 - i ∧ i ≤ 5 ∧ F24_L110100 t3 (.s (.int .i64 (i : Nat))) h n s ∧ n0 ≤ n ∧ GrowAt h a t3 1 (len + i) (bytesV' l2) ∧ l2.length = len + i ∧ n0 ≤ a ∧ a ≤ n ∧ (0 < len + i → a < n) ∧ Same n0 [] h0 h) →
      LoopK CC none (subC [1, 1, 0, 1, 0, 0] (bodyOf Go.Proofs.Tryz.f24)) s Q := by
  refine loopH CCok _ ?_
  rintro m s ⟨i, h, n, t3, a, l2, hm, hi, hs', hn, hG, hl2, ha0, han, ha, hsame⟩ hlt
  obtain ⟨g, rfl⟩ := hs'
  rw [F24_b110100]
  replace hlt : ∀ b o, h.get b = some o → b < n := hlt
  by_cases hi' : i < 5
  · have hi'' : (i : Int) < 5 := by omega
    have e3 : wrapF .i64 ((i : Int) + 1) = ((i + 1 : Nat) : Int) := by rw [wrapF_i64 (by omega) (by omega)]; rfl
    simp [hi'']
    refine CallK.monoN ?_ (markB_ok _ _ _)
    rintro v h1 n1 ⟨rfl, rfl⟩ hn1
    simp
    obtain ⟨a2, b1, b2, hG'⟩ : ∃ a2, n0 ≤ a2 ∧ a2 ≤ n1 ∧ GrowAt (h1.set n1 (.cells (.lst [.s (.int .u8 (markN i))]) 1)) a2 t3 1 (len + i) (bytesV' l2) := by
      rcases hG with H | ⟨o, c, op, A, k1, k2, k3, k4⟩
      · exact ⟨n1, by omega, by omega, .inl H⟩
      · have := hlt _ _ k3
        exact ⟨a, ha0, by omega, .inr ⟨o, c, op, A, k1, k2, by rw [Tree.get_set, if_neg (by omega)]; exact k3, k4⟩⟩
    refine grow_ok (m := 1) (new := bytesV' [markN i]) (by omega) hG' (oneB_row h1 n1 _) (by omega) (by omega) ?_
    intro v' a' h2 n2 ha' han' hn2 hG2 hs2
    refine ⟨5 - (i + 1), h2, by omega, fun hok b o hb => ⟨o, hb, hok b o hb⟩, i + 1, rfl, by omega, h2, n2, v', by rw [e3]; exact F24_L110100_of, by omega, a', l2 ++ [markN i], ?_, by simp; omega, by omega, by omega, by omega, ?_⟩
    · rw [bytesV_app]; exact hG2
    · intro b' hb' hn'
      rw [hs2 b' (by omega) (by omega), Tree.get_set, if_neg (by omega), hsame b' hb' hn']
  · have : i = 5 := by omega
    subst this
    simp [roundQ]
    exact hQ t3 _ a h n _ l2 F24_L110100_of hn hG hl2 ha0 (ha (by omega)) hsame
/-- Bytes that alone have their block. -/
def OwnB (h : Heap) (a : Nat) (v : V) (l : List Int) : Prop := ∃ o c op A es, v = .slice a o l.length c op ∧ l.length ≤ c ∧ h.get a = some (.cells (.lst A) es) ∧ o + l.length ≤ A.length ∧ (A.drop o).take l.length = bytesV' l
theorem OwnB.at {h : Heap} {a : Nat} {v : V} {l : List Int} (H : OwnB h a v l) : BytesAt h a v l := by
  obtain ⟨o, c, op, A, es, h1, h2, h3, h4, h5⟩ := H
  exact .inr ⟨o, c, op, A, es, h1, by simp [cellsAt, h3], by simpa using h5, by simp⟩
theorem OwnB.of {h h' : Heap} {a : Nat} {v : V} {l : List Int} (H : OwnB h a v l) (e : h'.get a = h.get a) : OwnB h' a v l := by
  obtain ⟨o, c, op, A, es, h1, h2, h3, h4⟩ := H
  exact ⟨o, c, op, A, es, h1, h2, by rw [e]; exact h3, h4⟩
theorem lentB_ok {b : Nat} {sl : V} {l : List Int} (hl : l.length ≤ 140737488351232) {h : Heap} {n : Nat} (hb : b < n) (hs : ByteArg h b sl l) :
    CallK CC 24 [sl] h n fun v h' n' => (∃ a l2, n ≤ a ∧ a < n' ∧ OwnB h' a v l2 ∧ l2.length = l.length + 5) ∧ Same n [] h h' := by
  refine F24_call fun hlt => ?_
  rw [F24_eq]
  refine CallK.monoN ?_ (copyB_ok hl hb hs)
  rintro v h1 n1 ⟨⟨a, ha, han, ha', hG⟩, hs1⟩ hn1
  refine lentB_loop hl (n0 := n) (h0 := h) ?_ _ _ ⟨0, h1, n1, _, a, l, rfl, by omega, F24_L110100_of, by omega, hG, rfl, ha, han, fun h => ha' (by rintro rfl; simp at h), hs1⟩
  intro t3 t4 a h' n' s l2 hs hn hG hl2 ha ha' hsame
  obtain ⟨g, rfl⟩ := hs
  rw [F24_r110100_0]
  rcases hG with ⟨_, h0, _⟩ | ⟨o, c, op, A, k1, k2, k3, k4, _, k5⟩
  · omega
  · exact ⟨⟨a, l2, ha, ha', ⟨o, c, op, A, 1, by rw [hl2]; exact k1, by omega, k3, by omega, by rw [hl2]; simpa using k5⟩, hl2⟩, hsame⟩

theorem sameB_loop {a b : Nat} {x y : V} {l m2 : List Int} {Q : X → St → Prop} {h0 : Heap} (hx : ByteArg h0 a x l) (hy : ByteArg h0 b y m2) (hlm : l.length = m2.length) (hl : l.length ≤ 140737488351232)
    (hQ0 : ∀ t5 n s, F10_L110100 x y t5 h0 n s → Q (.exit 0) s)
    (hQ1 : ∀ n (L : List V), L[4]? = some (.s (.bool false)) → Q .ret ⟨mkTm L, h0, n, []⟩) :
    ∀ m s, (∃ i n, m = l.length - i ∧ i ≤ l.length ∧ F10_L110100 x y (.s (.int .i64 i)) h0 n s) →
      LoopK CC none (subC [1, 1, 0, 1, 0, 0] (bodyOf Go.Proofs.Tryz.f10)) s Q := by
  refine loopH CCok _ ?_
  rintro m s ⟨i, n, hm, hi, hs⟩ hlt
  obtain ⟨g, rfl⟩ := hs
  rw [F10_b110100]
  by_cases hi' : i < l.length
  · have e3 : wrapF .i64 ((i : Int) + 1) = ((i + 1 : Nat) : Int) := by rw [wrapF_i64 (by omega) (by omega)]; rfl
    obtain ⟨p, p1, p2⟩ := (hx.ix hi').ix hi'
    obtain ⟨q, q1, q2⟩ := (hy.ix (show i < m2.length by omega)).ix (show i < m2.length by omega)
    simp [hx.len, hi', p1, p2, q1, q2]
    by_cases he : l[i] = m2[i]
    · simp [he, roundQ]
      exact ⟨l.length - (i + 1), by omega, h0, fun hok b o hb => ⟨o, hb, hok b o hb⟩, i + 1, rfl, by omega, _, by rw [e3]; exact F10_L110100_of⟩
    · simp [he, roundQ]
      exact hQ1 _ _ rfl
  · have : i = l.length := by omega
    subst this
    simp [hx.len, roundQ]
    exact hQ0 _ n _ F10_L110100_of
/-- Are they the same? Some answer. -/
theorem sameB_ok {a b : Nat} {x y : V} {l m2 : List Int} {h : Heap} {n : Nat} (hx : ByteArg h a x l) (hy : ByteArg h b y m2) (hl : l.length ≤ 140737488351232) :
    CallK CC 10 [x, y] h n fun v h' n' => (∃ t, v = .s (.bool t)) ∧ h' = h := by
  refine F10_call fun hlt => ?_
  rw [F10_eq]
  simp [hx.len, hy.len]
  by_cases hlm : l.length = m2.length
  · simp [hlm]
    rw [← hlm]
    refine sameB_loop hx hy hlm hl ?_ ?_ _ _ ⟨0, n, rfl, by omega, F10_L110100_of⟩
    · intro t5 n' s hs
      obtain ⟨g, rfl⟩ := hs
      rw [F10_r110100_0]
      exact ⟨.inr rfl, rfl⟩
    · intro n' L hL
      simp [resume, retW, dropDefs, hL]
  · have : ¬ (l.length : Int) = (m2.length : Int) := by omega
    simp [this]
theorem keptB_loop {a b : Nat} {x y : V} {l l2 : List Int} {Q : X → St → Prop} {h0 : Heap} (hx : BytesAt h0 a x l2) (hy : ByteArg h0 b y l) (hll : l2.length = l.length + 5) (hl : l.length ≤ 140737488351232)
    (hQ0 : ∀ t5 n s, F34_L110100 x y t5 h0 n s → Q (.exit 0) s)
    (hQ1 : ∀ n (L : List V), L[4]? = some (.s (.bool false)) → Q .ret ⟨mkTm L, h0, n, []⟩) :
    ∀ m s, (∃ i n, m = 5 - i ∧ i ≤ 5 ∧ F34_L110100 x y (.s (.int .i64 (i : Nat))) h0 n s) →
      LoopK CC none (subC [1, 1, 0, 1, 0, 0] (bodyOf Go.Proofs.Tryz.f34)) s Q := by
  refine loopH CCok _ ?_
  rintro m s ⟨i, n, hm, hi, hs⟩ hlt
  obtain ⟨g, rfl⟩ := hs
  rw [F34_b110100]
  by_cases hi' : i < 5
  · have hi'' : (i : Int) < 5 := by omega
    have e3 : wrapF .i64 ((i : Int) + 1) = ((i + 1 : Nat) : Int) := by rw [wrapF_i64 (by omega) (by omega)]; rfl
    obtain ⟨j, hj⟩ : ∃ j : Nat, j = l.length + i := ⟨_, rfl⟩
    have e4 : wrapF .i64 ((l.length : Int) + (i : Int)) = (j : Int) := by rw [wrapF_i64 (by omega) (by omega)]; omega
    obtain ⟨p, p1, p2⟩ := hx.ix (show j < l2.length by omega)
    simp [hy.len, hi'', e4, p1, p2]
    refine CallK.monoN ?_ (markB_ok _ _ _)
    rintro v h1 n1 ⟨rfl, rfl⟩ hn1
    simp [p2]
    by_cases he : l2[j] = markN i
    · simp [he, roundQ]
      exact ⟨5 - (i + 1), by omega, h1, fun hok b o hb => ⟨o, hb, hok b o hb⟩, i + 1, rfl, by omega, _, by rw [e3]; exact F34_L110100_of⟩
    · simp [he, roundQ]
      exact hQ1 _ _ rfl
  · have : i = 5 := by omega
    subst this
    simp [roundQ]
    exact hQ0 _ n _ F34_L110100_of
theorem keptB_ok {a b : Nat} {x y : V} {l l2 : List Int} {h : Heap} {n : Nat} (hx : OwnB h a x l2) (hy : ByteArg h b y l) (hll : l2.length = l.length + 5) (hl : l.length ≤ 140737488351232) :
    CallK CC 34 [x, y] h n fun v h' n' => (∃ t, v = .s (.bool t)) ∧ h' = h := by
  refine F34_call fun hlt => ?_
  rw [F34_eq]
  have hxa := hx.at
  obtain ⟨o, c, op, A, es, rfl, hc, hg, hA, hcs⟩ := hx
  have e1 : wrapF .i64 ((l.length : Int) + 5) = (l2.length : Int) := by rw [wrapF_i64 (by omega) (by omega)]; omega
  simp [hy.len, e1, bounds, bound, ble_dec, show l.length ≤ c by omega]
  have hx2 : BytesAt h a (.slice a o l.length c op) (l2.take l.length) := by
    refine .inr ⟨o, c, op, A, es, by simp; omega, by simp [cellsAt, hg], ?_, by simp⟩
    have e : (l2.take l.length).length = l.length := by simp; omega
    rw [e, Nat.mul_one]
    have : (A.drop o).take l.length = ((A.drop o).take l2.length).take l.length := by rw [List.take_take]; congr 1; omega
    rw [this, hcs]; simp [bytesV', List.map_take]
  refine CallK.monoN ?_ (sameB_ok (.inl hx2) hy (by simp; omega))
  rintro _ h1 n1 ⟨⟨t, rfl⟩, rfl⟩ hn1
  cases t with
  | false => simp
  | true =>
    simp
    refine keptB_loop hxa hy hll hl ?_ ?_ _ _ ⟨0, n1, rfl, by omega, F34_L110100_of⟩
    · intro t5 n' s hs
      obtain ⟨g, rfl⟩ := hs
      rw [F34_r110100_0]
      exact ⟨.inr rfl, rfl⟩
    · intro n' L hL
      simp [resume, retW, dropDefs, hL]
theorem OwnB.put {a o c es : Nat} {op : Bool} {A : List V} {l : List Int} {i : Nat} {y : Int} (hi : i < l.length) (hc : l.length ≤ c) (hA : o + l.length ≤ A.length) (h5 : (A.drop o).take l.length = bytesV' l) {h' : Heap} (hg : h'.get a = some (.cells (.lst (splice A (o + i) [.s (.int .u8 y)])) es)) :
    OwnB h' a (.slice a o l.length c op) (l.set i y) := by
  refine ⟨o, c, op, _, es, by simp, by simpa using hc, hg, by rw [splice_len (by simp; omega)]; simpa using hA, ?_⟩
  apply List.ext_getElem?
  intro j
  rw [List.length_set]
  by_cases hj : j < l.length
  · have hAj : A[o + j]? = some (.s (.int .u8 l[j])) := by
      have : ((A.drop o).take l.length)[j]? = some (.s (.int .u8 l[j])) := by rw [h5]; exact bytes_at hj
      rwa [List.getElem?_take_of_lt hj, List.getElem?_drop] at this
    rw [List.getElem?_take_of_lt hj, List.getElem?_drop, splice_get (by simp; omega), bytes_at (by simpa using hj), List.getElem_set]
    by_cases hij : i = j
    · subst hij; simp
    · rw [if_neg (by simp; omega), if_neg hij, hAj]
  · rw [List.getElem?_eq_none (by simp; omega), List.getElem?_eq_none (by simp; omega)]
theorem spoil_loop {a o c : Nat} {op : Bool} {len : Nat} (hl : len ≤ 140737488361232) {Q : X → St → Prop} {n0 : Nat} {h0 : Heap}
    (hQ : ∀ h n s t2, F35_L100 (.slice a o len c op) t2 h n s → n0 ≤ n → Same n0 [a] h0 h → Q (.exit 0) s) :
    ∀ m s, (∃ i h n l, m = len - i ∧ i ≤ len ∧ F35_L100 (.slice a o len c op) (.s (.int .i64 (i : Nat))) h n s ∧ n0 ≤ n ∧ Same n0 [a] h0 h ∧ OwnB h a (.slice a o len c op) l ∧ l.length = len) →
      LoopK CC none (subC [1, 0, 0] (bodyOf Go.Proofs.Tryz.f35)) s Q := by
  refine loopH CCok _ ?_
  rintro m s ⟨i, h, n, l, hm, hi, hs, hn, hsame, hw, hlen⟩ hlt
  obtain ⟨g, rfl⟩ := hs
  rw [F35_b100]
  by_cases hi' : i < len
  · have e3 : wrapF .i64 ((i : Int) + 1) = ((i + 1 : Nat) : Int) := by rw [wrapF_i64 (by omega) (by omega)]; rfl
    simp [hi']
    refine CallK.monoN ?_ (markB_ok _ _ _)
    rintro v h1 n1 ⟨rfl, rfl⟩ hn1
    obtain ⟨o', c', op', A, es, he, hc, hg, hA, h5⟩ := hw
    cases he
    generalize hy : markN _ = y
    have e6 : storeCells h1 a (o + i) (.one (.s (.int .u8 y))) = some (h1.set a (.cells (.lst (splice A (o + i) [.s (.int .u8 y)])) es)) := storeCells_lst hg (by show o + i + 1 ≤ A.length; omega)
    simp [hi', blt_dec, e6, roundQ]
    have hw' : OwnB (h1.set a (.cells (.lst (splice A (o + i) [.s (.int .u8 y)])) es)) a (.slice a o l.length c op) (l.set i y) := OwnB.put (by omega) hc hA h5 (by rw [Tree.get_set, if_pos rfl])
    exact ⟨l.length - (i + 1), by omega, h1.set a (.cells (.lst (splice A (o + i) [.s (.int .u8 y)])) es), fun hok b o hb => ⟨o, hb, hok b o hb⟩, i + 1, rfl, by omega, _, _, by rw [e3]; exact F35_L100_of, by omega, fun b hb hf => by rw [Tree.get_set, if_neg (by simpa using hf), hsame b hb hf], _, hw', by simp⟩
  · have : i = len := by omega
    subst this
    simp [roundQ]
    exact hQ h n _ _ F35_L100_of hn hsame
theorem spoilB_ok {a : Nat} {x : V} {l : List Int} (hl : l.length ≤ 140737488361232) {h : Heap} {n : Nat} (hw : OwnB h a x l) :
    CallK CC 35 [x] h n fun v h' n' => Same n [a] h h' := by
  refine F35_call fun hlt => ?_
  rw [F35_eq]
  have hw0 := hw
  obtain ⟨o, c, op, A, es, rfl, hc, hg, hA, h5⟩ := hw
  refine spoil_loop hl (n0 := n) (h0 := h) ?_ _ _ ⟨0, h, n, l, rfl, by omega, F35_L100_of, Nat.le_refl _, Same.refl _ _ _, hw0, rfl⟩
  intro h' n' s t2 hs hn hsame
  obtain ⟨g, rfl⟩ := hs
  rw [F35_r100_0]
  exact hsame

theorem MapsAt.mv {τ : Ty0} {h h' : Heap} {n n' m c M lb eb ne : Nat} {L : List Nat} {last now : Int} {lv ev : V} (H : MapsAt τ h n m c M lb eb L last now lv ev ne) (hn : n ≤ n') (g : ∀ x, (x = m ∨ x = c ∨ x = lb ∨ x = eb) → h'.get x = h.get x) : MapsAt τ h' n' m c M lb eb L last now lv ev ne := by
  obtain ⟨es, he⟩ := H.hev
  have mn := H.mn
  have cn := H.cn
  refine ⟨by rw [g m (by simp)]; exact H.hm, H.hc.of (g c (by simp)), H.hM, H.hL.of fun _ => g lb (by simp), H.hone, ⟨es, he.of fun _ => g eb (by simp)⟩, H.tm, H.tc, by omega, by omega, H.mc, ?_, ?_, H.leb, H.l8, H.la0⟩
  · rcases H.lbo with h | ⟨h1, h2⟩
    · exact .inl h
    · exact .inr ⟨by omega, h2⟩
  · rcases H.ebo with h | ⟨h1, h2⟩
    · exact .inl h
    · exact .inr ⟨by omega, h2⟩
theorem do_fin {τ : Ty0} {h h12 h5 h8 : Heap} {n n13 n5 n8 m c M lb eb ne a1 a2 : Nat} {pot : Int} (I : TInv τ h n) (s12 : Same n [] h h12) (hn : n ≤ n13) (hm : m < n) (hc : c < n) (hl : lb < n) (he : eb < n) (b1 : n ≤ a1) (b1' : a1 < n13) (b2 : n ≤ a2) (b2' : a2 < n13)
    (G : MapsGo τ n13 m c M lb eb pot ne h12 h5 n5) (hn13 : n13 ≤ n5) (hn5 : n5 ≤ n8) (s8 : ∀ x, x < n5 → x ≠ a1 → x ≠ a2 → h8.get x = h5.get x) : MapsGo τ n m c M lb eb pot ne h h8 n8 := by
  obtain ⟨τ', lb', eb', L', last', now', lv', ev', ne', g1, g2, g3, g4, g5, g6, g7⟩ := G
  have t1 : τ' a1 = none := g2.none b1' (I.none b1)
  have t2 : τ' a2 = none := g2.none b2' (I.none b2)
  have mn := g3.mn
  have cn := g3.cn
  refine ⟨τ', lb', eb', L', last', now', lv', ev', ne', g1.of hn5 fun x hx ht => s8 x hx (by rintro rfl; exact ht t1) (by rintro rfl; exact ht t2), ⟨g2.ext, fun x k e => ?_, fun x hx ht hf => ?_⟩, g3.mv hn5 ?_, by omega, by omega, g6, g7⟩
  · rcases g2.new x k e with e | e
    · exact .inl e
    · exact .inr (by omega)
  · rw [s8 x (by omega) (by omega) (by omega), g2.same x (by omega) ht hf, s12 x hx (by simp)]
  · intro x hx
    refine s8 x ?_ ?_ ?_
    · rcases hx with rfl | rfl | rfl | rfl
      · exact mn
      · exact cn
      · rcases g3.lbo with h | ⟨h, _⟩ <;> omega
      · rcases g3.ebo with h | ⟨h, _⟩ <;> omega
    · rcases hx with rfl | rfl | rfl | rfl <;> omega
    · rcases hx with rfl | rfl | rfl | rfl <;> omega
/-- A call of maps, as cells. -/
def opL (kind id N prog cell size v dk dkey dval dmax : Int) (kv dv : V) : List V := [.s (.int .i64 kind), .s (.int .i64 id), .s (.int .i64 N), .s (.int .i64 prog), .s (.int .i64 cell), .s (.int .i64 size), .s (.int .u64 v), .s (.int .i64 dk), .s (.int .i64 dkey), .s (.int .i64 dval), .s (.int .i64 dmax), kv, dv]
theorem OwnB.pre {h : Heap} {a o c : Nat} {op : Bool} {l2 : List Int} (H : OwnB h a (.slice a o l2.length c op) l2) {k : Nat} (hk : k ≤ l2.length) : BytesAt h a (.slice a o k c op) (l2.take k) ∧ k ≤ c := by
  obtain ⟨o', c', op', A, es, e, hc, hg, hA, hcs⟩ := H
  cases e
  refine ⟨.inr ⟨o, c, op, A, es, by simp; omega, by simp [cellsAt, hg], ?_, by simp⟩, by omega⟩
  have e : (l2.take k).length = k := by simp; omega
  rw [e, Nat.mul_one]
  have : (A.drop o).take k = ((A.drop o).take l2.length).take k := by rw [List.take_take]; congr 1; omega
  rw [this, hcs]; simp [bytesV', List.map_take]
theorem do_ok {τ : Ty0} {h : Heap} {n m c M lb eb ne kb vb : Nat} {L : List Nat} {last now : Int} {lv ev ks vs : V} {k v : List Int} (kind id N prog cell size w dk dkey dval dmax : Int) (I : TInv τ h n) (H : MapsAt τ h n m c M lb eb L last now lv ev ne) (hne : ne + 1 ≤ 2400000000000) (hla : last ≤ 8796093022208)
    (ka : ArgB τ n m c lb eb kb) (hks : ByteArg h kb ks k) (hk : k.length ≤ 140737488351232) (va : ArgB τ n m c lb eb vb) (hvs : ByteArg h vb vs v) (hv : v.length ≤ 140737488351232) :
    CallK CC 14 [.ptr m 0, .agg (.lst (opL kind id N prog cell size w dk dkey dval dmax ks vs))] h n fun _ h' n' => MapsGo τ n m c M lb eb (last + 64 * (8 - (L.length : Nat)) + 1) (ne + 2) h h' n' := by
  refine F14_call fun hlt => ?_
  rw [F14_eq]
  have hsm : Same n [] h (h.set n (.cells (.lst (opL kind id N prog cell size w dk dkey dval dmax ks vs)) 13)) := Same.new _ _ _ _
  have gb : (h.set n (.cells (.lst (opL kind id N prog cell size w dk dkey dval dmax ks vs)) 13)).get n = some (.cells (.lst (opL kind id N prog cell size w dk dkey dval dmax ks vs)) 13) := by rw [Tree.get_set, if_pos rfl]
  simp only [cells_agg, oK_some, Rope.toList_lst]
  generalize (h.set n (.cells (.lst (opL kind id N prog cell size w dk dkey dval dmax ks vs)) 13)) = h1 at hsm gb ⊢
  have kbn := ka.bn
  have vbn := va.bn
  have mn := H.mn
  have cn := H.cn
  have lbn : lb < n := by rcases H.lbo with h | ⟨h, _⟩ <;> omega
  have ebn : eb < n := by rcases H.ebo with h | ⟨h, _⟩ <;> omega
  have kn := hks.norm.1
  have vn := hvs.norm.1
  simp [cellsAt, gb, opL, kn]
  refine CallK.monoN ?_ (lentB_ok hk (show kb < n + 1 by omega) (hks.of (hsm kb kbn (by simp))))
  rintro kv2 h2 n2 ⟨⟨a1, l1, b1, b1', w1, len1⟩, hs2⟩ hn2
  have gb2 := (hs2 n (by omega) (by simp)).trans gb
  unfold opL at gb2
  simp [gb2, vn]
  refine CallK.monoN ?_ (lentB_ok hv (show vb < n2 by omega) ((hvs.of (hsm vb vbn (by simp))).of (hs2 vb (by omega) (by simp))))
  rintro dv2 h3 n3 ⟨⟨a2, l2, b2, b2', w2, len2⟩, hs3⟩ hn3
  have gb3 := (hs3 n (by omega) (by simp)).trans gb2
  have s3 : Same n [] h h3 := fun x hx _ => by rw [hs3 x (by omega) (by simp), hs2 x (by omega) (by simp), hsm x hx (by simp)]
  have w1' := w1.of (hs3 a1 b1' (by simp))
  have I3 : TInv τ h3 n3 := I.same s3 (by omega)
  have H3 := H.keep (show n ≤ n3 by omega) (Keep.of_same s3)
  have hks3 := hks.of (s3 kb kbn (by simp))
  have hvs3 := hvs.of (s3 vb vbn (by simp))
  have hk1 := w1'
  have hv1 := w2
  obtain ⟨o1, c1, op1, A1, es1, rfl, -, -, -, -⟩ := w1'
  obtain ⟨o2, c2, op2, A2, es2, rfl, -, -, -, -⟩ := w2
  obtain ⟨kB, kC⟩ := hk1.pre (k := k.length) (by omega)
  obtain ⟨vB, vC⟩ := hv1.pre (k := v.length) (by omega)
  have t1 : τ a1 = none := I.none (by omega)
  have t2 : τ a2 = none := I.none (by omega)
  have tn : τ n = none := I.none (Nat.le_refl _)
  -- behind the call: is all kept, then all is written over
  have tail : ∀ (h5 : Heap) (n4 n5 : Nat), n3 ≤ n4 → n4 ≤ n5 → MapsGo τ n4 m c M lb eb (last + 64 * (8 - (L.length : Nat)) + 1) (ne + 2) h3 h5 n5 →
      h5.get n = h3.get n ∧ CallK CC 34 [.slice a1 o1 l1.length c1 op1, ks] h5 n5 (fun v h' n' => h' = h5 ∧ ((v = .s (.bool false) ∧ MapsGo τ n m c M lb eb (last + 64 * (8 - (L.length : Nat)) + 1) (ne + 2) h h' n') ∨ (v = .s (.bool true) ∧
        CallK CC 34 [.slice a2 o2 l2.length c2 op2, vs] h' n' (fun v h' n' => (v = .s (.bool false) ∧ MapsGo τ n m c M lb eb (last + 64 * (8 - (L.length : Nat)) + 1) (ne + 2) h h' n') ∨ (v = .s (.bool true) ∧
          CallK CC 35 [.slice a1 o1 l1.length c1 op1] h' n' (fun _ h' n' => CallK CC 35 [.slice a2 o2 l2.length c2 op2] h' n' (fun _ h' n' => MapsGo τ n m c M lb eb (last + 64 * (8 - (L.length : Nat)) + 1) (ne + 2) h h' n'))))))) := by
    intro h5 n4 n5 hn4 hn5 G
    have G3 := MapsGo.pre (Keep.refl τ n3 [] h3) hn4 G
    have gx : ∀ x, x < n3 → τ x = none → x ≠ m → x ≠ c → x ≠ lb → x ≠ eb → h5.get x = h3.get x := by
      intro x hx hxt e1 e2 e3 e4
      obtain ⟨τ', lb', eb', L', last', now', lv', ev', ne', g1, g2, g3, g4, g5, g6, g7⟩ := G3
      exact g2.same x hx hxt (by simp; exact ⟨e1, e2, e3, e4⟩)
    have fin := fun h8 n8 (hn8 : n5 ≤ n8) s8 => do_fin (h8 := h8) (n8 := n8) I s3 (show n ≤ n3 by omega) mn cn lbn ebn (show n ≤ a1 by omega) (show a1 < n3 by omega) (show n ≤ a2 by omega) b2' G3 (by omega) hn8 s8
    have ek : h5.get kb = h3.get kb := gx kb (by omega) ka.bt ka.bm ka.bc ka.bl ka.be
    have ev' : h5.get vb = h3.get vb := gx vb (by omega) va.bt va.bm va.bc va.bl va.be
    have e1 : h5.get a1 = h3.get a1 := gx a1 (by omega) t1 (by omega) (by omega) (by omega) (by omega)
    have e2 : h5.get a2 = h3.get a2 := gx a2 (by omega) t2 (by omega) (by omega) (by omega) (by omega)
    refine ⟨gx n (by omega) tn (by omega) (by omega) (by omega) (by omega), ?_⟩
    refine CallK.monoN ?_ (keptB_ok (hk1.of e1) (hks3.of ek) len1 hk)
    rintro _ h6 n6 ⟨⟨t, rfl⟩, rfl⟩ hn6
    refine ⟨rfl, ?_⟩
    cases t with
    | false => exact .inl ⟨rfl, fin h6 n6 hn6 fun _ _ _ _ => rfl⟩
    | true =>
      refine .inr ⟨rfl, ?_⟩
      refine CallK.monoN ?_ (keptB_ok (hv1.of e2) (hvs3.of ev') len2 hv)
      rintro _ h6 n7 ⟨⟨t, rfl⟩, rfl⟩ hn7
      cases t with
      | false => exact .inl ⟨rfl, fin h6 n7 (by omega) fun _ _ _ _ => rfl⟩
      | true =>
        refine .inr ⟨rfl, ?_⟩
        refine CallK.monoN ?_ (spoilB_ok (by omega) (hk1.of e1))
        intro _ h7 n8 hs7 hn8
        have e2' : h7.get a2 = h3.get a2 := (hs7 a2 (by omega) (by simp; omega)).trans e2
        refine CallK.monoN ?_ (spoilB_ok (by omega) (hv1.of e2'))
        intro _ h8 n9 hs8 hn9
        exact fin h8 n9 (by omega) fun x hx x1 x2 => by rw [hs8 x (by omega) (by simpa using x2), hs7 x (by omega) (by simpa using x1)]
  by_cases c0 : kind = 0
  · simp [c0, gb3, ble_dec]
    refine CallK.monoN ?_ (create_ok I3 H3 (by omega) dk dkey dval dmax)
    rintro _ h5 n5 ⟨⟨x, e, rfl⟩, G⟩ hn5
    obtain ⟨gb5, T⟩ := tail h5 (n3) n5 (by omega) hn5 G
    rw [gb3] at gb5
    simp [gb5, kn]
    refine CallK.monoN ?_ T
    rintro _ h6 n6 ⟨rfl, ⟨rfl, F⟩ | ⟨rfl, T2⟩⟩ hn6
    · simp; exact F
    · simp [gb5, vn, cellsAt]
      refine CallK.monoN ?_ T2
      rintro _ h7 n7 (⟨rfl, F⟩ | ⟨rfl, T3⟩) hn7
      · simp; exact F
      · simp; exact T3
  by_cases c1 : kind = 1
  · simp [c1, gb3, ble_dec, hks3.len, kn, bounds, bound, kC]
    refine CallK.monoN ?_ (findM_ok' (k := l1.take k.length) (I3.weaken (show n3 ≤ n3 + 14 by omega)) (H3.keep (show n3 ≤ n3 + 14 by omega) (Keep.refl _ _ _ _)) id (by omega) kB (by simp; omega))
    rintro _ h5 n5 ⟨⟨x, t, rfl⟩, G⟩ hn5
    obtain ⟨gb5, T⟩ := tail h5 (n3 + 14) n5 (by omega) hn5 G
    rw [gb3] at gb5
    simp [gb5, kn]
    refine CallK.monoN ?_ T
    rintro _ h6 n6 ⟨rfl, ⟨rfl, F⟩ | ⟨rfl, T2⟩⟩ hn6
    · simp; exact F
    · simp [gb5, vn, cellsAt]
      refine CallK.monoN ?_ T2
      rintro _ h7 n7 (⟨rfl, F⟩ | ⟨rfl, T3⟩) hn7
      · simp; exact F
      · simp; exact T3
  by_cases c2 : kind = 2
  · simp [c2, gb3, ble_dec, hks3.len, kn, bounds, bound, kC]
    refine CallK.monoN ?_ (peekM_ok' (k := l1.take k.length) (I3.weaken (show n3 ≤ n3 + 14 by omega)) (H3.keep (show n3 ≤ n3 + 14 by omega) (Keep.refl _ _ _ _)) id (by omega) kB (by simp; omega))
    rintro _ h5 n5 ⟨⟨x, t, rfl⟩, G⟩ hn5
    obtain ⟨gb5, T⟩ := tail h5 (n3 + 14) n5 (by omega) hn5 G
    rw [gb3] at gb5
    simp [gb5, kn]
    refine CallK.monoN ?_ T
    rintro _ h6 n6 ⟨rfl, ⟨rfl, F⟩ | ⟨rfl, T2⟩⟩ hn6
    · simp; exact F
    · simp [gb5, vn, cellsAt]
      refine CallK.monoN ?_ T2
      rintro _ h7 n7 (⟨rfl, F⟩ | ⟨rfl, T3⟩) hn7
      · simp; exact F
      · simp; exact T3
  by_cases c3 : kind = 3
  · simp [c3, gb3, ble_dec, hks3.len, hvs3.len, kn, vn, bounds, bound, kC, vC]
    refine CallK.monoN ?_ (update_ok' (k := l1.take k.length) (v := l2.take v.length) (I3.weaken (show n3 ≤ n3 + 15 by omega)) (H3.keep (show n3 ≤ n3 + 15 by omega) (Keep.refl _ _ _ _)) hne (by omega) id ⟨by omega, t1, by omega, by omega, by omega, by omega⟩ kB (by simp; omega) ⟨by omega, t2, by omega, by omega, by omega, by omega⟩ vB (by intro b o l c p e; cases e; omega) (by simp; omega))
    rintro _ h5 n5 ⟨⟨x, rfl⟩, G⟩ hn5
    obtain ⟨gb5, T⟩ := tail h5 (n3 + 15) n5 (by omega) hn5 G
    rw [gb3] at gb5
    simp [gb5, kn]
    refine CallK.monoN ?_ T
    rintro _ h6 n6 ⟨rfl, ⟨rfl, F⟩ | ⟨rfl, T2⟩⟩ hn6
    · simp; exact F
    · simp [gb5, vn, cellsAt]
      refine CallK.monoN ?_ T2
      rintro _ h7 n7 (⟨rfl, F⟩ | ⟨rfl, T3⟩) hn7
      · simp; exact F
      · simp; exact T3
  by_cases c4 : kind = 4
  · simp [c4, gb3, ble_dec, hks3.len, kn, bounds, bound, kC]
    refine CallK.monoN ?_ (deleteM_ok (k := l1.take k.length) (I3.weaken (show n3 ≤ n3 + 10 by omega)) (H3.keep (show n3 ≤ n3 + 10 by omega) (Keep.refl _ _ _ _)) hne id ⟨by omega, t1, by omega, by omega, by omega, by omega⟩ kB (by simp; omega))
    rintro _ h5 n5 ⟨⟨x, rfl⟩, G⟩ hn5
    obtain ⟨gb5, T⟩ := tail h5 (n3 + 10) n5 (by omega) hn5 G
    rw [gb3] at gb5
    simp [gb5, kn]
    refine CallK.monoN ?_ T
    rintro _ h6 n6 ⟨rfl, ⟨rfl, F⟩ | ⟨rfl, T2⟩⟩ hn6
    · simp; exact F
    · simp [gb5, vn, cellsAt]
      refine CallK.monoN ?_ T2
      rintro _ h7 n7 (⟨rfl, F⟩ | ⟨rfl, T3⟩) hn7
      · simp; exact F
      · simp; exact T3
  by_cases c5 : kind = 5
  · simp [c5, gb3]
    refine CallK.monoN ?_ (setProg_ok I3 H3 hne id N prog)
    rintro _ h5 n5 ⟨⟨x, rfl⟩, G⟩ hn5
    obtain ⟨gb5, T⟩ := tail h5 (n3) n5 (by omega) hn5 G
    rw [gb3] at gb5
    simp [gb5, kn]
    refine CallK.monoN ?_ T
    rintro _ h6 n6 ⟨rfl, ⟨rfl, F⟩ | ⟨rfl, T2⟩⟩ hn6
    · simp; exact F
    · simp [gb5, vn, cellsAt]
      refine CallK.monoN ?_ T2
      rintro _ h7 n7 (⟨rfl, F⟩ | ⟨rfl, T3⟩) hn7
      · simp; exact F
      · simp; exact T3
  by_cases c6 : kind = 6
  · simp [c6, gb3]
    refine CallK.monoN ?_ (storeM_ok I3 H3 hne cell N size w)
    rintro _ h5 n5 ⟨⟨x, rfl⟩, G⟩ hn5
    obtain ⟨gb5, T⟩ := tail h5 (n3) n5 (by omega) hn5 G
    rw [gb3] at gb5
    simp [gb5, kn]
    refine CallK.monoN ?_ T
    rintro _ h6 n6 ⟨rfl, ⟨rfl, F⟩ | ⟨rfl, T2⟩⟩ hn6
    · simp; exact F
    · simp [gb5, vn, cellsAt]
      refine CallK.monoN ?_ T2
      rintro _ h7 n7 (⟨rfl, F⟩ | ⟨rfl, T3⟩) hn7
      · simp; exact F
      · simp; exact T3
  by_cases c7 : kind = 7
  · simp [c7, gb3]
    refine CallK.monoN ?_ (tick_ok I3 H3 N)
    rintro _ h5 n5 G hn5
    obtain ⟨gb5, T⟩ := tail h5 (n3) n5 (by omega) hn5 G
    rw [gb3] at gb5
    simp [gb5, kn]
    refine CallK.monoN ?_ T
    rintro _ h6 n6 ⟨rfl, ⟨rfl, F⟩ | ⟨rfl, T2⟩⟩ hn6
    · simp; exact F
    · simp [gb5, vn, cellsAt]
      refine CallK.monoN ?_ T2
      rintro _ h7 n7 (⟨rfl, F⟩ | ⟨rfl, T3⟩) hn7
      · simp; exact F
      · simp; exact T3
  by_cases c8 : kind = 8
  · simp [c8, gb3]
    refine CallK.monoN ?_ (sweepM_ok I3 H3 (by omega))
    rintro _ h5 n5 ⟨⟨x, rfl⟩, G⟩ hn5
    obtain ⟨gb5, T⟩ := tail h5 (n3) n5 (by omega) hn5 G
    rw [gb3] at gb5
    simp [gb5, kn]
    refine CallK.monoN ?_ T
    rintro _ h6 n6 ⟨rfl, ⟨rfl, F⟩ | ⟨rfl, T2⟩⟩ hn6
    · simp; exact F
    · simp [gb5, vn, cellsAt]
      refine CallK.monoN ?_ T2
      rintro _ h7 n7 (⟨rfl, F⟩ | ⟨rfl, T3⟩) hn7
      · simp; exact F
      · simp; exact T3
  simp [c0, c1, c2, c3, c4, c5, c6, c7, c8, gb3, kn]
  obtain ⟨gb5, T⟩ := tail h3 n3 n3 (Nat.le_refl _) (Nat.le_refl _) (MapsGo.stay I3 (Nat.le_refl _) H3 (Keep.refl _ _ _ _) (by omega) (by omega))
  refine CallK.monoN ?_ T
  rintro _ h6 n6 ⟨rfl, ⟨rfl, F⟩ | ⟨rfl, T2⟩⟩ hn6
  · simp; exact F
  · simp [gb3, vn, cellsAt]
    refine CallK.monoN ?_ T2
    rintro _ h7 n7 (⟨rfl, F⟩ | ⟨rfl, T3⟩) hn7
    · simp; exact F
    · simp; exact T3

/-- The frame with which a program begins. -/
def Frame.start (p t : Int) : Frame := ⟨p, 0, t, [.zero, ⟨5, 0, 0⟩, .zero, .zero, .zero, .zero, .zero, .zero, .zero, .zero, ⟨4, 0, 0⟩], List.replicate 64 .zero⟩
theorem Frame.start_ok (p t : Int) : (Frame.start p t).Ok := ⟨rfl, rfl, fun s hs => by rw [List.eq_of_mem_replicate hs]; rfl⟩
theorem frameStart (p t : Int) (h : Heap) (n : Nat) : CallK CC 16 [.s (.int .i64 p), .s (.int .i64 t)] h n fun v h' n' => v = .agg (.lst (Frame.start p t).l) ∧ Same n [] h h' := by
  refine F16_call fun hlt => ?_
  rw [F16_eq]
  simp
  rw [storeCells_lst (by rw [Tree.get_set_same]) (by simp)]
  simp [cellsAt, Tree.get_set_same]
  refine ⟨by kernel_rfl, fun b hb _ => ?_⟩
  simp only [Tree.get_set]
  rw [if_neg (by omega), if_neg (by omega)]

theorem ByteArg.row {h : Heap} {b : Nat} {v : V} {l : List Int} (H : ByteArg h b v l) : Row h 1 l.length (bytesV' l) v := by
  rcases H with H | ⟨⟨a, rfl⟩, rfl⟩
  · exact H.row
  · exact .void rfl rfl
theorem memNewA_ok {b : Nat} {sl : V} {l : List Int} {h : Heap} {n : Nat} (hs : ByteArg h b sl l) (hb : b < n) :
    CallK CC 11 [sl] h n fun v h' n' => ((v = .tup [.s (.pointer none), .s (.int .i64 3)]) ∨ ∃ q a, v = .tup [.ptr q 0, .s (.int .i64 0)] ∧ PacketAt h' q a (List.replicate 64 0 ++ l) 64 ∧ l.length ≤ 65535 ∧ n ≤ q ∧ n ≤ a ∧ q < n' ∧ a < n') ∧ Same n [] h h' := by
  refine F11_call fun hlt => ?_
  rw [F11_eq]
  by_cases hl : (65535 : Int) < l.length
  · simp [hs.len, hl]
    exact Same.refl _ _ _
  have e1 : wrapF .i64 (64 + (l.length : Int)) = ((64 + l.length : Nat) : Int) := by rw [wrapF_i64 (by omega) (by omega)]; omega
  have n1 : (0 : Int) ≤ 64 + (l.length : Int) := by omega
  have n2 : (64 + (l.length : Int)).toNat = 64 + l.length := by omega
  have n3 : 64 + l.length ≤ 281474976710656 ∧ 64 + l.length < 9223372036854775808 := by omega
  have n4 : 64 + l.length - 64 = l.length := by omega
  simp [hs.len, hl, e1, asNat_int, ble_dec, blt_dec, n1, n2, n3, n4, bounds, bound, -List.reduceReplicate]
  have hs' : ByteArg (h.set n (.cells (.lst (List.replicate (64 + l.length) (.s (.int .u8 0)))) 1)) b sl l := hs.of (by rw [Tree.get_set, if_neg (by omega)])
  refine copy_ok (b := n) (o := 64) (len := l.length) (c := l.length) (es := 1) (op := false) (by decide) (by rw [Tree.get_set, if_pos rfl]) (by simp) hs'.row fun h2 g2 s2 => ?_
  have hm : min l.length l.length * 1 = l.length := by omega
  rw [hm, bytes_take] at g2
  have e : splice (List.replicate (64 + l.length) (V.s (.int .u8 0))) 64 (bytesV' l) = bytesV' (List.replicate 64 0 ++ l) := by
    simp only [splice, bytesV'_length]
    rw [List.take_replicate, List.drop_replicate, show min 64 (64 + l.length) = 64 by omega, show 64 + l.length - (64 + l.length) = 0 by omega]
    simp [bytesV', -List.reduceReplicate]
  rw [e] at g2
  refine ⟨⟨n, ⟨⟨false, ?_⟩, ?_, ?_, by omega⟩, by omega, by omega, by omega⟩, ?_⟩
  · rw [Tree.get_set, if_pos rfl]; simp [-List.reduceReplicate]
  · rw [Tree.get_set, if_neg (by omega)]; exact g2
  · simp
  · intro b' hb' _
    rw [Tree.get_set, if_neg (by omega), s2 b' (by omega), Tree.get_set, if_neg (by omega)]
/-- Bytes are laid on the stack, or not: the frame is one still. -/
theorem fillA_ok {f b : Nat} {sl : V} {l : List Int} {fr : Frame} {h : Heap} {n : Nat} (hbf : b ≠ f) (hb : b < n) (hF : FrameAt h f fr) (hs : ByteArg h b sl l) :
    CallK CC 17 [.ptr f 0, .s (.int .i64 (-64)), sl] h n fun v h' n' => (∃ fr', FrameAt h' f fr') ∧ Same n [f] h h' := by
  rcases hs with hs | ⟨⟨a, rfl⟩, rfl⟩
  · refine CallK.monoN ?_ (fill_ok (-64) (by decide) (by decide) hbf hb hF hs)
    rintro v h' n' ⟨k1, k2, k3⟩ _
    refine ⟨?_, k3⟩
    by_cases hl : l.length ≤ 64 ∧ (-512 : Int) ≤ -64 ∧ (-64 : Int) + l.length ≤ 0
    · exact ⟨_, (k1 hl).2⟩
    · exact ⟨_, (k2 hl).2⟩
  · refine F17_call fun hlt => ?_
    rw [F17_eq]
    simp
    refine CallK.monoN ?_ (on_ok (-64) 0 (by decide) (by decide) h n)
    rintro v h' n' ⟨rfl, rfl, rfl⟩ _
    simp
    refine F37_call fun hlt2 => ?_
    rw [F37_eq]
    simp
    refine loop_once CCok ?_
    rw [F37_b100]
    simp [roundQ]
    rw [F37_r100_0]
    exact ⟨⟨fr, hF⟩, Same.refl _ _ _⟩
theorem arr8_loop {w : Int} {c a : Nat} {Q : X → St → Prop} {n0 : Nat} {h0 : Heap} {t0 t1 t2 : V} (hca : c ≠ a) (hcn : c < n0) (han : n0 ≤ a) (hc : h0.get c = some (.cells (.lst [.s (.int .i64 1), .s (.int .u64 w), t2]) 3))
    (hQ : ∀ h n s t30 l, F18_L10011111010100 t0 t1 (.s (.int .i64 8)) (.ptr c 0) (.ptr a 0) t30 h n s → n0 ≤ n → a < n → h.get a = some (.cells (.lst (bytesV' l)) 8) → l.length = 8 → (∀ b, b ≠ a → h.get b = h0.get b) → Q (.exit 1) s) :
    ∀ m s, (∃ i h n l, m = 8 - i ∧ i ≤ 8 ∧ F18_L10011111010100 t0 t1 (.s (.int .i64 8)) (.ptr c 0) (.ptr a 0) (.s (.int .i64 (i : Nat))) h n s ∧ n0 ≤ n ∧ a < n ∧ h.get a = some (.cells (.lst (bytesV' l)) 8) ∧ l.length = 8 ∧ (∀ b, b ≠ a → h.get b = h0.get b)) →
      LoopK CC none (subC [1, 0, 0, 1, 1, 1, 1, 1, 0, 1, 0, 1, 0, 0] (bodyOf Go.Proofs.Tryz.f18)) s Q := by
  refine loopH CCok _ ?_
  rintro m s ⟨i, h, n, l, hm, hi, hs, hn, han', hg, hl, hs0⟩ hlt
  obtain ⟨g, rfl⟩ := hs
  rw [F18_b10011111010100]
  by_cases hi' : i < 8
  · have hi'' : (i : Int) < 8 := by omega
    have e3 : wrapF .i64 ((i : Int) + 1) = ((i + 1 : Nat) : Int) := by rw [wrapF_i64 (by omega) (by omega)]; rfl
    obtain ⟨j, hj⟩ : ∃ j : Nat, j = 8 * i := ⟨_, rfl⟩
    have e4 : wrapF .i64 (8 * (i : Int)) = (j : Int) := by rw [wrapF_i64 (by omega) (by omega)]; omega
    have gc := (hs0 c hca).trans hc
    have e5 := bin_shr (C := CC) 25 false .u64 .i64 w (b := (j : Int)) (by omega)
    generalize hy : (wrapF .u8 (shrI .u64 w (j : Int))) = y at *
    have e6 : storeCells h a i (.one (.s (.int .u8 y))) = some (h.set a (.cells (.lst (splice (bytesV' l) i [.s (.int .u8 y)])) 8)) := storeCells_lst hg (by show i + 1 ≤ (bytesV' l).length; simp; omega)
    simp [hi'', cellsAt, gc, e4, e5, hy, hi', blt_dec, e6, roundQ]
    refine ⟨8 - (i + 1), by omega, h.set a (.cells (.lst (splice (bytesV' l) i [.s (.int .u8 y)])) 8), fun hok b o hb => ⟨o, hb, hok b o hb⟩, i + 1, rfl, by omega, _, _, by rw [e3]; exact F18_L10011111010100_of, hn, han', l.set i y, ?_, by simp [hl], fun b hb => by rw [Tree.get_set, if_neg hb, hs0 b hb]⟩
    rw [Tree.get_set, if_pos rfl]
    congr 3
    apply List.ext_getElem?
    intro q
    rw [splice_get (by simp; omega)]
    by_cases hq : q = i
    · subst hq; simp [bytesV', show q < l.length by omega]
    · rw [if_neg (by simp; omega)]
      simp [bytesV', Ne.symm hq]
  · have : i = 8 := by omega
    subst this
    simp [roundQ]
    exact hQ h n _ _ l F18_L10011111010100_of hn han' hg hl hs0
theorem stackStore_ok {f : Nat} {fr : Frame} (k w id : Int) {h : Heap} {n : Nat} (hF : FrameAt h f fr) :
    CallK CC 18 [.ptr f 0, .s (.int .i64 (-8)), .s (.int .i64 8), .agg (.lst [.s (.int .i64 k), .s (.int .u64 w), .s (.int .i64 id)])] h n fun v h' n' => Same n [f] h h' := by
  refine F18_call fun hlt => ?_
  rw [F18_eq]
  have hfn : f < n := hlt _ _ hF.1
  have hsm : Same n [] h (h.set n (.cells (.lst [.s (.int .i64 k), .s (.int .u64 w), .s (.int .i64 id)]) 3)) := Same.new _ _ _ _
  have gb : (h.set n (.cells (.lst [.s (.int .i64 k), .s (.int .u64 w), .s (.int .i64 id)]) 3)).get n = some (.cells (.lst [.s (.int .i64 k), .s (.int .u64 w), .s (.int .i64 id)]) 3) := by rw [Tree.get_set, if_pos rfl]
  simp only [cells_agg, oK_some, Rope.toList_lst]
  generalize (h.set n (.cells (.lst [.s (.int .i64 k), .s (.int .u64 w), .s (.int .i64 id)]) 3)) = h1 at hsm gb ⊢
  have wk : ∀ {h'}, Same n [] h h' → Same n [f] h h' := fun s x hx _ => s x hx (by simp)
  by_cases k0 : k = 0
  · simp [cellsAt, gb, k0]
    exact wk hsm
  simp [cellsAt, gb, k0]
  refine CallK.monoN ?_ (sized_ok 8 _ _)
  rintro _ h2 n2 ⟨rfl, rfl, rfl⟩ _
  simp
  refine CallK.monoN ?_ (on_ok (-8) 8 (by decide) (by decide) _ _)
  rintro _ h2 n2 ⟨rfl, rfl, rfl⟩ _
  have hF1 : FrameAt h2 f fr := ⟨by rw [hsm f hfn (by simp)]; exact hF.1, hF.2⟩
  by_cases k1 : k = 1
  · subst k1
    simp [gb]
    refine arr8_loop (w := w) (c := n) (a := n + 1) (n0 := n + 1) (h0 := h2) (t2 := .s (.int .i64 id)) (by omega) (by omega) (by omega) gb ?_ _ _ ⟨0, _, _, List.replicate 8 0, rfl, by omega, F18_L10011111010100_of, by omega, by omega, by rw [Tree.get_set, if_pos rfl]; rfl, rfl, fun b hb => by rw [Tree.get_set, if_neg hb]⟩
    intro h3 n3 s t30 l hs hn3 han3 hg3 hl hs3
    obtain ⟨g, rfl⟩ := hs
    rw [F18_r10011111010100_1]
    simp [bounds, bound, ble_dec, asNat_int]
    have hb3 : BytesAt h3 (n + 1) (.slice (n + 1) 0 8 8 false) l := .inr ⟨0, 8, false, bytesV' l, 8, by rw [hl], by simp [cellsAt, hg3], by simpa using bytes_take l, by simp⟩
    refine CallK.monoN ?_ (lay_ok (f := f) (b := n + 1) (l := l) (p := 504) (fr := fr) (by decide) (by omega) (by omega) (by omega) ⟨by rw [hs3 f (by omega)]; exact hF1.1, hF.2⟩ hb3)
    rintro _ h4 n4 ⟨_, hs4⟩ hn4
    intro x hx hf
    rw [hs4 x (by omega) hf, hs3 x (by omega), hsm x hx (by simp)]
  · simp [gb, k1]
    refine F39_call fun hlt2 => ?_
    rw [F39_eq]
    refine CallK.monoN ?_ (place_ok 63 0 (by decide) (by decide) (-8) (by decide) h2 (n + 1))
    rintro _ h3 n3 ⟨rfl, rfl, rfl⟩ _
    have e1 : binop CC .eql 112 true (.ptr f 792) (.s (.pointer none)) = some (.s (.bool false)) := by kernel_rfl
    simp [asNat_int, blt_dec, e1, gb, ble_dec]
    rw [storeCells_lst hF1.1 (by rw [hF.2.length, Rope.size_lst]; simp)]
    intro x hx hf
    rw [Tree.get_set, if_neg (by simpa using hf), hsm x hx (by simp)]
/-! ### Draws -/
def DrawsAt (h : Heap) (d ga n : Nat) (k : Nat) : Prop := d < n ∧ (ga = d ∨ ga < n) ∧ ∃ gv cs, h.get d = some (.cells (.lst [gv]) 1) ∧ GrowM h d ga gv 1 k cs
theorem DrawsAt.of {h h' : Heap} {d ga n n' k : Nat} (H : DrawsAt h d ga n k) (hn : n ≤ n') (s : Same n [] h h') : DrawsAt h' d ga n' k := by
  obtain ⟨h1, h4, gv, cs, h2, h3⟩ := H
  exact ⟨by omega, by omega, gv, cs, by rw [s d h1 (by simp)]; exact h2, h3.of fun hb => s ga (by omega) (by simp)⟩
theorem grow_norm {h : Heap} {m b k n : Nat} {v : V} {cs : List V} (H : GrowM h m b v k n cs) : normV v = v ∧ V.cells v = some (.one v) := by
  rcases H with ⟨rfl, _⟩ | ⟨_, _, ⟨rfl, _⟩ | ⟨o, c, op, A, rfl, _⟩⟩ <;> exact ⟨rfl, rfl⟩
theorem grow_len24 {h : Heap} {m b n : Nat} {v : V} {cs : List V} (H : GrowM h m b v 1 n cs) (h' : Heap) : lenV CC h' 24 v = some (.s (.int .i64 (n : Nat))) := by
  rcases H with ⟨rfl, _, h0, _⟩ | ⟨_, _, ⟨rfl, h0, _⟩ | ⟨o, k, op, A, rfl, _⟩⟩
  · simp [h0]
  · simp [h0]
  · simp
theorem left_ok {d ga k : Nat} {h : Heap} {n m : Nat} (H : DrawsAt h d ga m k) : CallK CC 8 [.ptr d 0] h n fun v h' n' => v = .s (.int .i64 (k : Nat)) ∧ h' = h := by
  refine F8_call fun hlt => ?_
  rw [F8_eq]
  obtain ⟨h1, h4, gv, cs, h2, h3⟩ := H
  simp [cellsAt, h2, (grow_norm h3).1, grow_len24 h3]
theorem newDrawsD_ok (h : Heap) (n : Nat) : CallK CC 13 [] h n fun v h' n' => ∃ d, v = .ptr d 0 ∧ n ≤ d ∧ DrawsAt h' d d n' 0 ∧ Same n [] h h' := by
  refine F13_call fun hlt => ?_
  rw [F13_eq]
  simp
  exact ⟨⟨by omega, .inl rfl, _, [], by rw [Tree.get_set, if_pos rfl], .inl ⟨rfl, rfl, rfl, rfl⟩⟩, Same.new _ _ _ _⟩
/-- All that is not the draws' stays. -/
theorem add_ok {d ga k : Nat} (x : Int) {h : Heap} {n : Nat} (H : DrawsAt h d ga n k) (hk : k ≤ 35184372088000) : CallK CC 15 [.ptr d 0, .s (.int .u32 x)] h n fun v h' n' => ∃ ga', DrawsAt h' d ga' n' (k + 1) ∧ (ga' = ga ∨ n ≤ ga') ∧ Same n [d, ga] h h' := by
  refine F15_call fun hlt => ?_
  rw [F15_eq]
  obtain ⟨h1, h4, gv, cs, h2, h3⟩ := H
  simp [cellsAt, h2, (grow_norm h3).1]
  have hsm : Same n [] h (h.set n (.cells (.lst [.s (.int .u32 x)]) 1)) := Same.new _ _ _ _
  have h3' : GrowM (h.set n (.cells (.lst [.s (.int .u32 x)]) 1)) d ga gv 1 k cs := h3.of fun hb => hsm ga (by omega) (by simp)
  refine growM_ok (new := [.s (.int .u32 x)]) (by omega) h3' (.row (A := [.s (.int .u32 x)]) (es := 1) (by rw [cellsAt, Tree.get_set, if_pos rfl]) rfl rfl) (by omega) (by omega) (by omega) ?_
  intro v' b' h5 n5 hb' hbn hn5 hG hs5
  have gd : h5.get d = some (.cells (.lst [gv]) 1) := by rw [hs5 d (by omega) (by omega), hsm d h1 (by simp), h2]
  simp [(grow_norm hG).2, gd, storeCells, cellsOwn, Rope.put, ble_dec]
  refine ⟨b', ⟨by omega, .inr hbn, v', _, by rw [Tree.get_set, if_pos rfl], hG.of fun hb => by rw [Tree.get_set, if_neg hb]⟩, by omega, fun b hb hbg => ?_⟩
  simp at hbg
  rw [Tree.get_set, if_neg hbg.1, hs5 b (by omega) (by omega), hsm b hb (by simp)]

/-! ### What a world is given by -/
def OpsArg (h : Heap) (n0 : Nat) (mv : V) (N : Nat) : Prop := (∀ h', lenV CC h' 22 mv = some (.s (.int .i64 (N : Nat)))) ∧ (normV mv = mv ∧ V.cells mv = some (.one mv)) ∧
  ∀ i, i < N → ∃ (p off : Nat) (A : List V) (es : Nat) (kind id M prog cell size w dk dkey dval dmax : Int) (kv dv : V) (kl dl : List Int) (kb db : Nat), p < n0 ∧ indexAddr CC 22 mv (.s (.int .i64 (i : Nat))) = some (.ptr p off) ∧ cellsAt h p = some (.lst A, es) ∧ off + 13 ≤ A.length ∧
    (A.drop off).take 13 = opL kind id M prog cell size w dk dkey dval dmax kv dv ∧ kb < n0 ∧ db < n0 ∧ ByteArg h kb kv kl ∧ ByteArg h db dv dl ∧ kl.length ≤ 140737488351232 ∧ dl.length ≤ 140737488351232
def DrawsArg (h : Heap) (n0 : Nat) (dv : V) (N : Nat) : Prop := (∀ h', lenV CC h' 24 dv = some (.s (.int .i64 (N : Nat)))) ∧ (normV dv = dv ∧ V.cells dv = some (.one dv)) ∧
  ∀ i, i < N → ∃ (p off : Nat) (A : List V) (es : Nat) (x : Int), p < n0 ∧ indexAddr CC 24 dv (.s (.int .i64 (i : Nat))) = some (.ptr p off) ∧ cellsAt h p = some (.lst A, es) ∧ A[off]? = some (.s (.int .u32 x))
def worldL (mv pv dv st : V) (tails k w id : Int) : List V := [mv, pv, dv, .s (.int .i64 tails), st, .s (.int .i64 k), .s (.int .u64 w), .s (.int .i64 id)]
theorem cellsAt_same {h h' : Heap} {p : Nat} {x : Rope V × Nat} (H : cellsAt h p = some x) (e : h'.get p = h.get p) : cellsAt h' p = some x := by unfold cellsAt at H ⊢; rw [e]; exact H

theorem begin1_loop {n0 N bx q m c M d : Nat} {h0 : Heap} {τ0 : Ty0} {n1 : Nat} {h1 : Heap} {mv pv dv st : V} {tails k w id : Int} (hO : OpsArg h0 n0 mv N) (hN : N ≤ 1040000000000) (h01 : ∀ b, b < n0 → h1.get b = h0.get b) (hn01 : n0 ≤ n1)
    (hbx : h1.get bx = some (.cells (.lst (worldL mv pv dv st tails k w id)) 8)) (bn0 : bx < n1) (m0 : n0 ≤ m) (c0 : n0 ≤ c) (bxm : bx ≠ m) (bxc : bx ≠ c) (bt : τ0 bx = none) (t0 : ∀ b, b < n0 → τ0 b = none) {Q : X → St → Prop}
    (hQ : ∀ h n s t8 τ, F4_L111110100 (.ptr bx 0) (.ptr q 0) (.ptr m 0) (.ptr d 0) t8 h n s → n1 ≤ n → Keep τ0 τ n1 [m, c] h1 h → Q (.exit 0) s) :
    ∀ mm s, (∃ i h n τ lb eb L last now lv ev ne, mm = N - i ∧ i ≤ N ∧ F4_L111110100 (.ptr bx 0) (.ptr q 0) (.ptr m 0) (.ptr d 0) (.s (.int .i64 (i : Nat))) h n s ∧ n1 ≤ n ∧ TInv τ h n ∧ Keep τ0 τ n1 [m, c] h1 h ∧ MapsAt τ h n m c M lb eb L last now lv ev ne ∧
      last + 64 * (8 - (L.length : Nat)) ≤ 512 + (i : Nat) ∧ ne ≤ 2 * i ∧ (lb = m ∨ n1 ≤ lb) ∧ (eb = m ∨ n1 ≤ eb)) →
      LoopK CC none (subC [1, 1, 1, 1, 1, 0, 1, 0, 0] (bodyOf Go.Proofs.Tryz.f4)) s Q := by
  refine loopH CCok _ ?_
  rintro mm s ⟨i, h, n, τ, lb, eb, L, last, now, lv, ev, ne, hm, hi, hs, hn, I, K, H, hp, hne, hlb, heb⟩ hlt
  obtain ⟨g, rfl⟩ := hs
  rw [F4_b111110100]
  obtain ⟨hlen, hnorm, hix⟩ := hO
  have gb : h.get bx = some (.cells (.lst (worldL mv pv dv st tails k w id)) 8) := by rw [K.same bx bn0 bt (by simp [bxm, bxc]), hbx]
  have g0 : ∀ b, b < n0 → h.get b = h0.get b := fun b hb => by rw [K.same b (by omega) (t0 b hb) (by simp; omega), h01 b hb]
  by_cases hi' : i < N
  · have e3 : wrapF .i64 ((i : Int) + 1) = ((i + 1 : Nat) : Int) := by rw [wrapF_i64 (by omega) (by omega)]; rfl
    obtain ⟨p, off, A, es, kind, id', M', prog, cell, size, w', dk, dkey, dval, dmax, kv, dv', kl, dl, kb, db, pn, hx, hc, hA, ht, kn, dn, hk, hd, lk, ld⟩ := hix i hi'
    have hc' := cellsAt_same hc (g0 p pn)
    simp [cellsAt, gb, worldL, hnorm.1, hlen, hi', hx]
    unfold cellsAt at hc'
    simp [hc', ble_dec, hA, ht]
    have l8 := H.l8
    have ab : ∀ b, b < n0 → ArgB τ n m c lb eb b := fun b hb => ⟨by omega, K.none (by omega) (t0 b hb), by omega, by omega, by omega, by omega⟩
    refine CallK.monoN ?_ (do_ok (kb := kb) (vb := db) kind id' M' prog cell size w' dk dkey dval dmax I H (by omega) (by omega) (ab kb kn) (hk.of (g0 kb kn)) lk (ab db dn) (hd.of (g0 db dn)) ld)
    rintro _ h2 n2 ⟨τ', lb', eb', L', last', now', lv', ev', ne', g1, g2, g3, g4, g5, g6, g7⟩ hn2
    simp [roundQ]
    refine ⟨N - (i + 1), by omega, h2, fun hok b o hb => ⟨o, hb, hok b o hb⟩, i + 1, rfl, by omega, h2, n2, by rw [e3]; exact F4_L111110100_of, by omega, τ', g1, ?_, lb', eb', L', last', ?_⟩
    · exact K.trans hn g2 (by simp) (by simp; omega)
    · exact ⟨now', lv', ev', ne', g3, by omega, by omega, by omega, by omega⟩
  · have : i = N := by omega
    subst this
    simp [cellsAt, gb, worldL, hnorm.1, hlen, roundQ]
    exact hQ h n _ _ τ F4_L111110100_of hn K
theorem begin2_loop {n0 N bx q m d : Nat} {h0 : Heap} {n1 : Nat} {h1 : Heap} {mv pv dv st : V} {tails k w id : Int} (hD : DrawsArg h0 n0 dv N) (hN : N ≤ 35184372087900) (h01 : ∀ b, b < n0 → h1.get b = h0.get b) (hn01 : n0 ≤ n1)
    (hbx : h1.get bx = some (.cells (.lst (worldL mv pv dv st tails k w id)) 8)) (bn0 : bx < n1) (d0 : n0 ≤ d) (bxd : bx ≠ d) {Q : X → St → Prop}
    (hQ : ∀ h n s t9 ga, F4_L1111110100 (.ptr bx 0) (.ptr q 0) (.ptr m 0) (.ptr d 0) t9 h n s → n1 ≤ n → DrawsAt h d ga n N → Same n1 [d] h1 h → Q (.exit 2) s) :
    ∀ mm s, (∃ i h n ga, mm = N - i ∧ i ≤ N ∧ F4_L1111110100 (.ptr bx 0) (.ptr q 0) (.ptr m 0) (.ptr d 0) (.s (.int .i64 (i : Nat))) h n s ∧ n1 ≤ n ∧ DrawsAt h d ga n i ∧ (ga = d ∨ n1 ≤ ga) ∧ Same n1 [d] h1 h) →
      LoopK CC none (subC [1, 1, 1, 1, 1, 1, 0, 1, 0, 0] (bodyOf Go.Proofs.Tryz.f4)) s Q := by
  refine loopH CCok _ ?_
  rintro mm s ⟨i, h, n, ga, hm, hi, hs, hn, hd, hga, sm⟩ hlt
  obtain ⟨g, rfl⟩ := hs
  rw [F4_b1111110100]
  obtain ⟨hlen, hnorm, hix⟩ := hD
  have gb : h.get bx = some (.cells (.lst (worldL mv pv dv st tails k w id)) 8) := by rw [sm bx bn0 (by simpa using bxd), hbx]
  have g0 : ∀ b, b < n0 → h.get b = h0.get b := fun b hb => by rw [sm b (by omega) (by simp; omega), h01 b hb]
  by_cases hi' : i < N
  · have e3 : wrapF .i64 ((i : Int) + 1) = ((i + 1 : Nat) : Int) := by rw [wrapF_i64 (by omega) (by omega)]; rfl
    obtain ⟨p, off, A, es, x, pn, hx, hc, hA⟩ := hix i hi'
    have hc' := cellsAt_same hc (g0 p pn)
    simp [cellsAt, gb, worldL, hnorm.1, hlen, hi', hx]
    unfold cellsAt at hc'
    simp [hc', hA]
    refine CallK.monoN ?_ (add_ok x hd (by omega))
    rintro _ h2 n2 ⟨ga', hd', hga', sm'⟩ hn2
    simp [roundQ]
    refine ⟨N - (i + 1), by omega, h2, fun hok b o hb => ⟨o, hb, hok b o hb⟩, i + 1, rfl, by omega, h2, n2, by rw [e3]; exact F4_L1111110100_of, by omega, ga', hd', by omega, fun b hb hf => ?_⟩
    simp at hf
    rw [sm' b (by omega) (by simp; omega), sm b hb (by simpa using hf)]
  · have : i = N := by omega
    subst this
    simp [cellsAt, gb, worldL, hnorm.1, hlen, roundQ]
    exact hQ h n _ _ ga F4_L1111110100_of hn hd sm
def BeginR (n : Nat) (h : Heap) (v : V) (h' : Heap) (n' : Nat) : Prop := Same n [] h h' ∧ (v = .tup [.s (.pointer none), .s (.pointer none)] ∨
  ∃ e f q a d ga kk x1 x3 pl, v = .tup [.ptr e 0, .ptr f 0] ∧ h'.get e = some (.cells (.lst [x1, .ptr q 0, x3, .ptr d 0]) 4) ∧ PacketAt h' q a pl 64 ∧ pl.length ≤ 70000 ∧ DrawsAt h' d ga n' kk ∧ e < n' ∧ q < n' ∧ a < n')
theorem begin_okN {n0 MN DN pb sb : Nat} {mv pv dv st : V} {pl sl : List Int} {tails k w id : Int} {h : Heap} {n : Nat} (hn0 : n0 ≤ n) (hO : OpsArg h n0 mv MN) (hMN : MN ≤ 1040000000000) (hD : DrawsArg h n0 dv DN) (hDN : DN ≤ 35184372087900)
    (hp : ByteArg h pb pv pl) (pn : pb < n0) (hs : ByteArg h sb st sl) (sn : sb < n0) :
    CallK CC 4 [.agg (.lst (worldL mv pv dv st tails k w id))] h n (BeginR n h) := by
  refine F4_call fun hlt => ?_
  rw [F4_eq]
  have hsm : Same n [] h (h.set n (.cells (.lst (worldL mv pv dv st tails k w id)) 8)) := Same.new _ _ _ _
  have gb : (h.set n (.cells (.lst (worldL mv pv dv st tails k w id)) 8)).get n = some (.cells (.lst (worldL mv pv dv st tails k w id)) 8) := by rw [Tree.get_set, if_pos rfl]
  simp only [cells_agg, oK_some, Rope.toList_lst]
  generalize (h.set n (.cells (.lst (worldL mv pv dv st tails k w id)) 8)) = h1 at hsm gb ⊢
  simp [cellsAt, gb, worldL, hp.norm.1]
  unfold worldL at gb
  refine CallK.monoN ?_ (memNewA_ok (hp.of (hsm pb (by omega) (by simp))) (show pb < n + 1 by omega))
  rintro _ h2 n2 ⟨hv, hs2⟩ hn2
  have I2 : TInv (fun _ => none) h2 n2 := fun b k e => by cases e
  have s2 : Same n [] h h2 := fun x hx _ => by rw [hs2 x (by omega) (by simp), hsm x hx (by simp)]
  rcases hv with rfl | ⟨q, a, rfl, hP, hpl, qn, an, qn', an'⟩
  · simp
    refine CallK.monoN ?_ (newMaps_ok I2)
    rintro _ h3 n3 ⟨τ1, m, c, M, rfl, I3, K3, mn, cn, H3⟩ hn3
    refine CallK.monoN ?_ (newDrawsD_ok h3 n3)
    rintro _ h4 n4 ⟨d, rfl, dn, hd, hs4⟩ hn4
    exact ⟨fun x hx _ => by rw [hs4 x (by omega) (by simp), K3.same x (by omega) rfl (by simp), s2 x hx (by simp)], .inl rfl⟩
  · simp
    refine CallK.monoN ?_ (newMaps_ok I2)
    rintro _ h3 n3 ⟨τ1, m, c, M, rfl, I3, K3, mn, cn, H3⟩ hn3
    refine CallK.monoN ?_ (newDrawsD_ok h3 n3)
    rintro _ h4 n4 ⟨d, rfl, dn, hd, hs4⟩ hn4
    simp
    have cn3 := H3.cn
    have mn3 := H3.mn
    have g4 : ∀ x, x < n2 → h4.get x = h2.get x := fun x hx => by rw [hs4 x (by omega) (by simp), K3.same x hx rfl (by simp)]
    have tt : ∀ x, x < n2 → τ1 x = none := fun x hx => K3.none hx rfl
    have gb4 : h4.get n = some (.cells (.lst (worldL mv pv dv st tails k w id)) 8) := by rw [g4 n (by omega), hs2 n (by omega) (by simp), gb]; rfl
    have s4 : Same n [] h h4 := fun x hx _ => by rw [g4 x (by omega), s2 x hx (by simp)]
    refine begin1_loop (n0 := n0) (h0 := h) (τ0 := τ1) (n1 := n4) (h1 := h4) (m := m) (c := c) (M := M) hO hMN (fun b hb => s4 b (by omega) (by simp)) (by omega) gb4 (by omega) (by omega) (by omega) (by omega) (by omega) (tt n (by omega)) (fun b hb => tt b (by omega)) ?_ _ _
      ⟨0, h4, n4, τ1, m, m, [], 0, 0, _, _, 0, rfl, by omega, F4_L111110100_of, Nat.le_refl _, I3.same hs4 hn4, Keep.refl _ _ _ _, H3.keep hn4 (Keep.of_same hs4), by simp, by omega, .inl rfl, .inl rfl⟩
    intro h5 n5 s t8 τ5 hs5 hn5 K5
    obtain ⟨g, rfl⟩ := hs5
    rw [F4_r111110100_0]
    have g5 : ∀ x, x < n2 → h5.get x = h2.get x := fun x hx => by rw [K5.same x (by omega) (tt x hx) (by simp; omega), g4 x hx]
    have hd5 : DrawsAt h5 d d n5 0 := by
      obtain ⟨d1, d2, gv, cs, d3, d4⟩ := hd
      have e : h5.get d = h4.get d := K5.same d d1 (I3.none dn) (by simp; omega)
      exact ⟨by omega, .inl rfl, gv, cs, by rw [e]; exact d3, d4.of fun hb => absurd rfl hb⟩
    have gb5 : h5.get n = some (.cells (.lst (worldL mv pv dv st tails k w id)) 8) := by rw [g5 n (by omega), ← g4 n (by omega), gb4]
    have hP5 : PacketAt h5 q a (List.replicate 64 0 ++ pl) 64 := hP.of (g5 q qn') (g5 a an')
    have dn4 : d < n4 := hd.1
    refine begin2_loop (n0 := n0) (h0 := h) (n1 := n5) (h1 := h5) hD hDN (fun b hb => by rw [g5 b (by omega), s2 b (by omega) (by simp)]) (by omega) gb5 (by omega) (by omega) (by omega) ?_ _ _
      ⟨0, h5, n5, d, rfl, by omega, F4_L1111110100_of, Nat.le_refl _, hd5, .inl rfl, Same.refl _ _ _⟩
    intro h6 n6 s t9 ga hs6 hn6 hd6 sm6
    obtain ⟨g, rfl⟩ := hs6
    rw [F4_r1111110100_2]
    have g6 : ∀ x, x < n2 → h6.get x = h2.get x := fun x hx => by rw [sm6 x (by omega) (by simp; omega), g5 x hx]
    have gb6 : h6.get n = some (.cells (.lst [mv, pv, dv, .s (.int .i64 tails), st, .s (.int .i64 k), .s (.int .u64 w), .s (.int .i64 id)]) 8) := by rw [g6 n (by omega), ← g4 n (by omega), gb4]; rfl
    have hP6 : PacketAt h6 q a (List.replicate 64 0 ++ pl) 64 := hP.of (g6 q qn') (g6 a an')
    simp [cellsAt, gb6]
    refine CallK.monoN ?_ (frameStart _ _ _ _)
    rintro v h7 n7 ⟨rfl, hs7⟩ hn7
    have hok := Frame.start_ok 1 tails
    obtain ⟨fs, hfs⟩ : ∃ fs, fs = Frame.start 1 tails := ⟨_, rfl⟩
    rw [← hfs] at hok ⊢
    have e1 : Nat.beq (Rope.lst fs.l).size 804 = true := by rw [Rope.size_lst, hok.length]; rfl
    simp only [show V.cells (V.agg (Rope.lst fs.l)) = some (.lst fs.l) from rfl, Option.bind_some, e1, cond_true]
    rw [storeCells_lst (by rw [Tree.get_set_same]) (by simp [hok.length])]
    rw [oK_some, show ∀ l : List V, List.take 0 l ++ (Rope.lst fs.l).toList ++ List.drop (0 + (Rope.lst fs.l).size) l = fs.l ++ l.drop 804 from fun l => by rw [Rope.size_lst, hok.length]; simp]
    obtain ⟨h8, hh8⟩ : ∃ h3, h3 = (Tree.set h7 n7 (O.cells (Rope.lst (zr CC 41).toList) 804)).set n7 (O.cells (Rope.lst (fs.l ++ List.drop 804 (zr CC 41).toList)) 804) := ⟨_, rfl⟩
    rw [← hh8]
    have f8 : h8.get n7 = some (.cells (.lst fs.l) 804) := by
      have : List.drop 804 (zr CC 41).toList = [] := by simp
      rw [hh8, Tree.get_set, if_pos rfl, this, List.append_nil]
    have old8 : ∀ b, b < n6 → h8.get b = h6.get b := fun b hb => by rw [hh8, Tree.get_set, if_neg (by omega), Tree.get_set, if_neg (by omega), hs7 b hb (by simp)]
    have gb8 := (old8 n (by omega)).trans gb6
    have s8 : Same n6 [] h6 h8 := fun x hx _ => old8 x hx
    have fin : ∀ (h9 : Heap) (n9 : Nat), n7 + 1 ≤ n9 → Same (n7 + 1) [n7] h8 h9 → BeginR n h (.tup [.ptr n9 0, .ptr n7 0]) (h9.set n9 (.cells (.lst [.ptr m 0, .ptr q 0, .s (.int .u64 0), .ptr d 0]) 4)) (n9 + 1) := by
      intro h9 n9 hn9 s9
      have old9 : ∀ x, x < n6 → (h9.set n9 (.cells (.lst [.ptr m 0, .ptr q 0, .s (.int .u64 0), .ptr d 0]) 4)).get x = h6.get x := fun x hx => by rw [Tree.get_set, if_neg (by omega), s9 x (by omega) (by simp; omega), old8 x hx]
      refine ⟨fun x hx _ => by rw [old9 x (by omega), g6 x (by omega), s2 x hx (by simp)], .inr ⟨n9, n7, q, a, d, ga, DN, _, _, _, rfl, by rw [Tree.get_set, if_pos rfl], hP6.of (old9 q (by omega)) (old9 a (by omega)), by simp; omega, hd6.of (by omega) (fun x hx _ => old9 x hx), by omega, by omega, by omega⟩⟩
    simp [gb8, hs.norm.1]
    refine CallK.monoN ?_ (fillA_ok (f := n7) (b := sb) (l := sl) (fr := fs) (by omega) (by omega) ⟨f8, hok⟩ ((hs.of (s2 sb (by omega) (by simp))).of (by rw [old8 sb (by omega), g6 sb (by omega)])))
    rintro _ h9 n9 ⟨⟨fr9, hF9⟩, hs9⟩ hn9
    have gb9 : h9.get n = h8.get n := hs9 n (by omega) (by simp; omega)
    rw [gb8] at gb9
    by_cases k0 : k = 0
    · simp [gb9, k0]
      exact fin h9 n9 (by omega) hs9
    · simp [gb9, k0, ble_dec]
      refine CallK.monoN ?_ (stackStore_ok k w id hF9)
      intro _ h10 n10 hs10 hn10
      exact fin h10 n10 (by omega) fun x hx hf => by rw [hs10 x (by omega) hf, hs9 x hx hf]

theorem long12_loop {n0 N : Nat} {mv : V} {h : Heap} (hO : OpsArg h n0 mv N) (hN : N ≤ 200) {Q : X → St → Prop}
    (hQ0 : ∀ n s t3, F19_L110100 mv t3 h n s → Q (.exit 0) s) (hQ1 : ∀ n (L : List V), L[2]? = some (.s (.bool true)) → Q .ret ⟨mkTm L, h, n, []⟩) :
    ∀ m s, (∃ i n, m = N - i ∧ i ≤ N ∧ F19_L110100 mv (.s (.int .i64 (i : Nat))) h n s) → LoopK CC none (subC [1, 1, 0, 1, 0, 0] (bodyOf Go.Proofs.Tryz.f19)) s Q := by
  refine loopH CCok _ ?_
  rintro m s ⟨i, n, hm, hi, hs⟩ hlt
  obtain ⟨g, rfl⟩ := hs
  rw [F19_b110100]
  obtain ⟨hlen, hnorm, hix⟩ := hO
  by_cases hi' : i < N
  · have e3 : wrapF .i64 ((i : Int) + 1) = ((i + 1 : Nat) : Int) := by rw [wrapF_i64 (by omega) (by omega)]; rfl
    obtain ⟨p, off, A, es, kind, id', M', prog, cell, size, w', dk, dkey, dval, dmax, kv, dv', kl, dl, kb, db, pn, hx, hc, hA, ht, kn, dn, hk, hd, lk, ld⟩ := hix i hi'
    have a11 : A[off + 11]? = some kv := by
      have : ((A.drop off).take 13)[11]? = some kv := by rw [ht]; rfl
      rwa [List.getElem?_take_of_lt (by omega), List.getElem?_drop] at this
    have a12 : A[off + 12]? = some dv' := by
      have : ((A.drop off).take 13)[12]? = some dv' := by rw [ht]; rfl
      rwa [List.getElem?_take_of_lt (by omega), List.getElem?_drop] at this
    simp [hlen, hi', hx, hc, a11, hk.norm.1, hk.len]
    by_cases c1 : (100 : Int) < kl.length
    · simp [c1, roundQ]
      exact hQ1 _ _ rfl
    · simp [c1, hx, hc, a12, hd.norm.1, hd.len]
      by_cases c2 : (200 : Int) < dl.length
      · simp [c2, roundQ]
        exact hQ1 _ _ rfl
      · simp [c2, roundQ]
        exact ⟨N - (i + 1), by omega, h, fun hok b o hb => ⟨o, hb, hok b o hb⟩, i + 1, rfl, by omega, _, by rw [e3]; exact F19_L110100_of⟩
  · have : i = N := by omega
    subst this
    simp [hlen, roundQ]
    exact hQ0 n _ _ F19_L110100_of
theorem long12_ok {n0 N : Nat} {mv : V} {h : Heap} {n : Nat} (hO : OpsArg h n0 mv N) : CallK CC 19 [mv] h n fun v h' n' => (∃ b, v = .s (.bool b)) ∧ h' = h := by
  refine F19_call fun hlt => ?_
  rw [F19_eq]
  have hlen := hO.1
  by_cases hN : (200 : Int) < N
  · simp [hlen, hN]
  · simp [hlen, hN]
    refine long12_loop hO (by omega) ?_ ?_ _ _ ⟨0, n, rfl, by omega, F19_L110100_of⟩
    · intro n' s t3 hs
      obtain ⟨g, rfl⟩ := hs
      rw [F19_r110100_0]
      exact ⟨.inl rfl, rfl⟩
    · intro n' L hL
      simp [resume, retW, dropDefs, hL]
theorem long16_ok {n0 MN DN pb sb : Nat} {mv pv dv st : V} {pl sl : List Int} {tails k w id : Int} {h : Heap} {n : Nat} (hn0 : n0 ≤ n) (hO : OpsArg h n0 mv MN) (hD : DrawsArg h n0 dv DN) (hp : ByteArg h pb pv pl) (hs : ByteArg h sb st sl) :
    CallK CC 5 [.agg (.lst (worldL mv pv dv st tails k w id)), .s (.slice none 0 0)] h n fun v h' n' => (∃ b, v = .s (.bool b)) ∧ Same n [] h h' := by
  refine F5_call fun hlt => ?_
  rw [F5_eq]
  have hsm : Same n [] h (h.set n (.cells (.lst (worldL mv pv dv st tails k w id)) 8)) := Same.new _ _ _ _
  have gb : (h.set n (.cells (.lst (worldL mv pv dv st tails k w id)) 8)).get n = some (.cells (.lst (worldL mv pv dv st tails k w id)) 8) := by rw [Tree.get_set, if_pos rfl]
  simp only [cells_agg, oK_some, Rope.toList_lst]
  generalize (h.set n (.cells (.lst (worldL mv pv dv st tails k w id)) 8)) = h1 at hsm gb ⊢
  have hO1 : OpsArg h1 n0 mv MN := by
    refine ⟨hO.1, hO.2.1, fun i hi => ?_⟩
    obtain ⟨p, off, A, es, kind, id', M', prog, cell, size, w', dk, dkey, dval, dmax, kv, dv', kl, dl, kb, db, pn, hx, hc, hA, ht, kn, dn, hk, hd, lk, ld⟩ := hO.2.2 i hi
    exact ⟨p, off, A, es, kind, id', M', prog, cell, size, w', dk, dkey, dval, dmax, kv, dv', kl, dl, kb, db, pn, hx, cellsAt_same hc (hsm p (by omega) (by simp)), hA, ht, kn, dn, hk.of (hsm kb (by omega) (by simp)), hd.of (hsm db (by omega) (by simp)), lk, ld⟩
  simp [cellsAt, gb, worldL, hO.2.1.1]
  unfold worldL at gb
  refine CallK.monoN ?_ (long12_ok hO1)
  rintro _ h2 n2 ⟨⟨b, rfl⟩, rfl⟩ hn2
  have hlM := hO.1
  have hlD := hD.1
  cases b with
  | true => simp; exact hsm
  | false =>
    simp [cellsAt, gb, hO.2.1.1, hlM]
    by_cases c1 : (60 : Int) < MN
    · simp [c1]; exact hsm
    simp [c1, cellsAt, gb, hp.norm.1, hp.len]
    by_cases c2 : (4096 : Int) < pl.length
    · simp [c2]; exact hsm
    simp [c2, cellsAt, gb, hD.2.1.1, hlD]
    by_cases c3 : (100 : Int) < DN
    · simp [c3]; exact hsm
    simp [c3, cellsAt, gb, hs.norm.1, hs.len]
    by_cases c4 : (64 : Int) < sl.length
    · simp [c4]; exact hsm
    simp [c4, cellsAt, gb]
    by_cases c5 : k < 0
    · simp [c5]; exact hsm
    simp [c5, cellsAt, gb]
    by_cases c6 : (7 : Int) < k
    · simp [c6]; exact hsm
    simp [c6]
    refine loop_once CCok ?_
    rw [F5_b110100]
    simp [roundQ]
    rw [F5_r110100_0]
    exact ⟨.inl rfl, hsm⟩
theorem irDo_ok {oL : List V} {kind : Int} (ho : oL.length = 15) (hk : oL[0]? = some (.s (.int .i64 kind))) (h1 : kind ≠ 1) (e f : V) {h : Heap} {n : Nat} :
    CallK CC 9 [e, .agg (.lst oL), f] h n fun v h' n' => v = .tup [.agg (.lst [.s (.int .i64 0), .s (.int .i64 0), .s (.int .u64 0)]), .s (.bool false)] ∧ Same n [] h h' := by
  refine F9_call fun hlt => ?_
  rw [F9_eq]
  simp [cellsAt, Tree.get_set, hk, h1]
  simp [storeCells, cellsOwn, Tree.get_set, Rope.put, ble_dec]
  intro x hx _
  rw [Tree.get_set, if_neg (by omega), Tree.get_set, if_neg (by omega), Tree.get_set, if_neg (by omega)]
theorem frameL_eq (cst : Bool) {fL : List V} (hl : fL.length = 804) (hi : ∀ y ∈ fL, IntCell y) : binop CC .eql 41 cst (.agg (.lst fL)) (.agg (.lst fL)) = some (.s (.bool true)) := by
  have hq : ((ty CC 41).bind fun i => some (i.guard, i.agg, i.size)) = some (false, true, 804) := by kernel_rfl
  cases ht : ty CC 41 with
  | none => rw [ht] at hq; cases hq
  | some i =>
    rw [ht] at hq
    simp at hq
    exact (binop_plain ht (by kernel_rfl) hq.1 hq.2.1 cst (by rw [hq.2.2]; exact hl) hi).1
theorem status_eq : binop CC .eql 56 false (.agg (.lst [.s (.int .i64 0), .s (.int .i64 0), .s (.int .u64 0)])) (.agg (.lst [.s (.int .i64 0), .s (.int .i64 0), .s (.int .u64 0)])) = some (.s (.bool true)) := by kernel_rfl
theorem env_nil (a : Nat) : binop CC .eql 42 true (.ptr a 0) (.s (.pointer none)) = some (.s (.bool false)) := by kernel_rfl
theorem env_nil0 : binop CC .eql 42 true (.s (.pointer none)) (.s (.pointer none)) = some (.s (.bool true)) := by kernel_rfl
/-- Two lists of the same bytes. -/
theorem same_loop {a b : Nat} {x y : V} {l : List Int} {Q : X → St → Prop} {h0 : Heap} (hx : BytesAt h0 a x l) (hy : BytesAt h0 b y l) (hl : l.length ≤ 140737488355000)
    (hQ : ∀ t5 n s, F10_L110100 x y t5 h0 n s → Q (.exit 0) s) :
    ∀ m s, (∃ i n, m = l.length - i ∧ i ≤ l.length ∧ F10_L110100 x y (.s (.int .i64 i)) h0 n s) →
      LoopK CC none (subC [1, 1, 0, 1, 0, 0] (bodyOf Go.Proofs.Tryz.f10)) s Q := by
  refine loopH CCok _ ?_
  rintro m s ⟨i, n, hm, hi, hs⟩ hlt
  obtain ⟨g, rfl⟩ := hs
  rw [F10_b110100]
  by_cases hi' : i < l.length
  · have e3 : wrapF .i64 ((i : Int) + 1) = ((i + 1 : Nat) : Int) := by rw [wrapF_i64 (by omega) (by omega)]; rfl
    obtain ⟨p, p1, p2⟩ := hx.ix hi'
    obtain ⟨q, q1, q2⟩ := hy.ix hi'
    simp [hx.len, hi', p1, p2, q1, q2]
    exact ⟨l.length - (i + 1), h0, by omega, fun hok b o hb => ⟨o, hb, hok b o hb⟩, i + 1, rfl, by omega, _, by rw [e3]; exact F10_L110100_of⟩
  · have : i = l.length := by omega
    subst this
    simp [hx.len, roundQ]
    exact hQ _ n _ F10_L110100_of
theorem same_ok {a b : Nat} {x y : V} {l : List Int} {h : Heap} {n : Nat} (hx : BytesAt h a x l) (hy : BytesAt h b y l) (hl : l.length ≤ 140737488355000) :
    CallK CC 10 [x, y] h n fun v h' n' => v = .s (.bool true) ∧ h' = h := by
  refine F10_call fun hlt => ?_
  rw [F10_eq]
  simp [hx.len, hy.len]
  refine same_loop hx hy hl ?_ _ _ ⟨0, n, rfl, by omega, F10_L110100_of⟩
  intro t5 n' s hs
  obtain ⟨g, rfl⟩ := hs
  rw [F10_r110100_0]
  exact ⟨rfl, rfl⟩
theorem irNothing {n0 MN DN pb sb : Nat} {mv pv dv st : V} {pl sl : List Int} {tails k w id kind : Int} {oL fL : List V} {h : Heap} {n : Nat} (hn0 : n0 ≤ n) (hO : OpsArg h n0 mv MN) (hMN : MN ≤ 1040000000000) (hD : DrawsArg h n0 dv DN) (hDN : DN ≤ 35184372087900)
    (hp : ByteArg h pb pv pl) (pn : pb < n0) (hs : ByteArg h sb st sl) (sn : sb < n0) (ho : oL.length = 15) (hk : oL[0]? = some (.s (.int .i64 kind))) (hfl : fL.length = 804) (hfi : ∀ y ∈ fL, IntCell y)
    (known : ∀ h n, CallK CC 6 [] h n fun v _ _ => v = .s (.bool true)) :
    CallK CC 3 [.agg (.lst (worldL mv pv dv st tails k w id)), .agg (.lst oL), .agg (.lst fL)] h n fun v _ _ => v = .s (.bool true) := by
  refine F3_call fun hlt => ?_
  rw [F3_eq]
  simp only [cells_agg, oK_some, Rope.toList_lst]
  generalize hh : (((h.set n (.cells (.lst (worldL mv pv dv st tails k w id)) 8)).set (n + 1) (.cells (.lst oL) 15)).set (n + 1 + 1) (.cells (.lst fL) 804)) = h1
  have s1 : Same n [] h h1 := fun x hx _ => by rw [← hh, Tree.get_set, if_neg (by omega), Tree.get_set, if_neg (by omega), Tree.get_set, if_neg (by omega)]
  have gw : h1.get n = some (.cells (.lst (worldL mv pv dv st tails k w id)) 8) := by rw [← hh, Tree.get_set, if_neg (by omega), Tree.get_set, if_neg (by omega), Tree.get_set, if_pos rfl]
  have go : h1.get (n + 1) = some (.cells (.lst oL) 15) := by rw [← hh, Tree.get_set, if_neg (by omega), Tree.get_set, if_pos rfl]
  have gf : h1.get (n + 1 + 1) = some (.cells (.lst fL) 804) := by rw [← hh, Tree.get_set, if_pos rfl]
  have hO1 : ∀ h', Same n0 [] h h' → OpsArg h' n0 mv MN := by
    intro h' hsm
    refine ⟨hO.1, hO.2.1, fun i hi => ?_⟩
    obtain ⟨p, off, A, es, kind, id', M', prog, cell, size, w', dk, dkey, dval, dmax, kv, dv', kl, dl, kb, db, pn, hx, hc, hA, ht, kn, dn, hk, hd, lk, ld⟩ := hO.2.2 i hi
    exact ⟨p, off, A, es, kind, id', M', prog, cell, size, w', dk, dkey, dval, dmax, kv, dv', kl, dl, kb, db, pn, hx, cellsAt_same hc (hsm p pn (by simp)), hA, ht, kn, dn, hk.of (hsm kb kn (by simp)), hd.of (hsm db dn (by simp)), lk, ld⟩
  have hD1 : ∀ h', Same n0 [] h h' → DrawsArg h' n0 dv DN := by
    intro h' hsm
    refine ⟨hD.1, hD.2.1, fun i hi => ?_⟩
    obtain ⟨p, off, A, es, x, pn, hx, hc, hA⟩ := hD.2.2 i hi
    exact ⟨p, off, A, es, x, pn, hx, cellsAt_same hc (hsm p pn (by simp)), hA⟩
  have sn0 : ∀ {h'}, Same n [] h h' → Same n0 [] h h' := fun s x hx hf => s x (by omega) hf
  simp [cellsAt, gw, ble_dec, worldL]
  unfold worldL at gw
  have bg := begin_okN (tails := tails) (k := k) (w := w) (id := id) (n := n + 1 + 1 + 1) (n0 := n0) (by omega) (hO1 h1 (sn0 s1)) hMN (hD1 h1 (sn0 s1)) hDN (hp.of (s1 pb (by omega) (by simp))) pn (hs.of (s1 sb (by omega) (by simp))) sn
  unfold worldL at bg
  refine CallK.monoN ?_ bg
  rintro v h2 n2 ⟨hs2, hv⟩ hn2
  have s2 : Same n [] h h2 := fun x hx _ => by rw [hs2 x (by omega) (by simp), s1 x hx (by simp)]
  have gw2 := (hs2 n (by omega) (by simp)).trans gw
  have go2 := (hs2 (n + 1) (by omega) (by simp)).trans go
  have gf2 := (hs2 (n + 1 + 1) (by omega) (by simp)).trans gf
  have lg := long16_ok (tails := tails) (k := k) (w := w) (id := id) (n := n2) (n0 := n0) (by omega) (hO1 h2 (sn0 s2)) (hD1 h2 (sn0 s2)) (hp.of (s2 pb (by omega) (by simp))) (hs.of (s2 sb (by omega) (by simp)))
  unfold worldL at lg
  have kn : ∀ h n, CallK CC 6 [] h n fun v h' n' => v = .s (.bool true) := known
  rcases hv with rfl | ⟨e, f, q, a, d, ga, kk, x1, x3, pl', rfl, ge, hP, hpl, hd, en, qn, an⟩
  · simp [gw2]
    refine CallK.monoN ?_ lg
    rintro _ h3 n3 ⟨⟨b, rfl⟩, hs3⟩ hn3
    cases b <;> (simp; exact CallK.mono' (fun _ _ _ h => h) (kn _ _))
  · simp [gw2]
    refine CallK.monoN ?_ lg
    rintro _ h3 n3 ⟨⟨b, rfl⟩, hs3⟩ hn3
    cases b with
    | true => simp; exact kn _ _
    | false =>
      have go3 := (hs3 (n + 1) (by omega) (by simp)).trans go2
      have gf3 := (hs3 (n + 1 + 1) (by omega) (by simp)).trans gf2
      simp [cellsAt, go3, hk]
      by_cases k1 : kind = 1
      · simp [k1]; exact kn _ _
      · simp [k1, gf3, hfl]
        have tk : List.take 804 fL = fL := List.take_of_length_le (by omega)
        rw [tk, storeCells_lst (by rw [Tree.get_set_same]) (by simp [hfl])]
        rw [oK_some, show ∀ l : List V, List.take 0 l ++ (Rope.lst fL).toList ++ List.drop (0 + (Rope.lst fL).size) l = fL ++ l.drop 804 from fun l => by rw [Rope.size_lst, hfl]; simp]
        obtain ⟨h4, hh4⟩ : ∃ h4, h4 = (Tree.set h3 n3 (O.cells (Rope.lst (zr CC 41).toList) 804)).set n3 (O.cells (Rope.lst (fL ++ List.drop 804 (zr CC 41).toList)) 804) := ⟨_, rfl⟩
        rw [← hh4]
        have f4 : h4.get n3 = some (.cells (.lst fL) 804) := by
          have : List.drop 804 (zr CC 41).toList = [] := by simp
          rw [hh4, Tree.get_set, if_pos rfl, this, List.append_nil]
        have s4 : Same n3 [] h3 h4 := fun b hb _ => by rw [hh4, Tree.get_set, if_neg (by omega), Tree.get_set, if_neg (by omega)]
        have e2 : ∀ {x}, x < n2 → h4.get x = h2.get x := fun hx => by rw [s4 _ (by omega) (by simp), hs3 _ hx (by simp)]
        have ge4 := (e2 en).trans ge
        have hP4 := hP.of (e2 qn) (e2 an)
        simp [ge4]
        refine CallK.monoN ?_ (bytes_ok (n := n3 + 1) hP4 (by omega))
        rintro b1 h5 n5 ⟨⟨a1, a1n, a1n', hb1⟩, hs5⟩ hn5
        have e5 : ∀ {x}, x < n2 → h5.get x = h2.get x := fun hx => by rw [hs5 _ (by omega) (by simp), e2 hx]
        have ge5 := (e5 en).trans ge
        have hd5 : DrawsAt h5 d ga n2 kk := hd.of (Nat.le_refl _) fun x hx _ => e5 hx
        simp [ge5]
        refine CallK.monoN ?_ (left_ok hd5)
        rintro _ h6 n6 ⟨rfl, rfl⟩ hn6
        have go6 : h6.get (n + 1) = some (.cells (.lst oL) 15) := by rw [e5 (by omega), go2]
        have tk15 : List.take 15 oL = oL := List.take_of_length_le (by omega)
        simp [go6, ho, tk15]
        refine CallK.monoN ?_ (irDo_ok ho hk k1 _ _)
        rintro _ h7 n7 ⟨rfl, hs7⟩ hn7
        have f7 : h7.get n3 = some (.cells (.lst fL) 804) := by rw [hs7 n3 (by omega) (by simp), hs5 n3 (by omega) (by simp), f4]
        have gf7 : h7.get (n + 1 + 1) = some (.cells (.lst fL) 804) := by rw [hs7 _ (by omega) (by simp), e5 (by omega), gf2]
        have ge7 : h7.get e = _ := (hs7 e (by omega) (by simp)).trans ge5
        have b17 := hb1.of (hs7 a1 (by omega) (by simp))
        have e7 : ∀ {x}, x < n2 → h7.get x = h2.get x := fun hx => by rw [hs7 _ (by omega) (by simp), e5 hx]
        simp [storeCells, cellsOwn, Tree.get_set, Rope.put, ble_dec, status_eq]
        have hs8 : Same n7 [] h7 ((h7.set n7 (.cells (.lst [.s (.int .i64 0), .s (.int .i64 0), .s (.int .u64 0)]) 3)).set n7 (.cells (.lst [.s (.int .i64 0), .s (.int .i64 0), .s (.int .u64 0)]) 3)) := fun x hx _ => by rw [Tree.get_set, if_neg (by omega), Tree.get_set, if_neg (by omega)]
        have q1 : ¬ n + 1 + 1 = n7 := by omega
        have q2 : ¬ n3 = n7 := by omega
        simp [q1, q2, gf7, f7, hfl, tk, frameL_eq false hfl hfi]
        generalize ((h7.set n7 (.cells (.lst [.s (.int .i64 0), .s (.int .i64 0), .s (.int .u64 0)]) 3)).set n7 (.cells (.lst [.s (.int .i64 0), .s (.int .i64 0), .s (.int .u64 0)]) 3)) = h8 at hs8 ⊢
        have e8 : ∀ {x}, x < n2 → h8.get x = h2.get x := fun hx => by rw [hs8 _ (by omega) (by simp), e7 hx]
        have ge8 := (e8 en).trans ge
        have b18 := b17.of (hs8 a1 (by omega) (by simp))
        simp [cellsAt, ge8]
        refine CallK.monoN ?_ (bytes_ok (n := n7 + 1) (hP.of (e8 qn) (e8 an)) (by omega))
        rintro b2 h9 n9 ⟨⟨a2, a2n, a2n', hb2⟩, hs9⟩ hn9
        have b19 := b18.of (hs9 a1 (by omega) (by simp))
        refine CallK.monoN ?_ (same_ok b19 hb2 (by simp; omega))
        rintro _ h10 n10 ⟨rfl, hq10⟩ hn10
        rw [hq10]
        clear hq10 h10
        have e9 : ∀ {x}, x < n2 → h9.get x = h2.get x := fun hx => by rw [hs9 _ (by omega) (by simp), e8 hx]
        have ge9 := (e9 en).trans ge
        have hd9 : DrawsAt h9 d ga n2 kk := hd.of (Nat.le_refl _) fun x hx _ => e9 hx
        simp [cellsAt, ge9]
        refine CallK.monoN ?_ (left_ok hd9)
        rintro _ h11 n11 ⟨rfl, rfl⟩ hn11
        simp
        refine CallK.mono' ?_ (kn _ _)
        rintro v _ _ rfl
        simp
open Go.Proofs

/-! ### What came in, in plain terms -/
section
variable {P : Program} {hp : Heap} {t : TypeId} {us : List V}
theorem Desc.int_inv {k : IntKind} (D : Desc P hp t us) (hu : P.underlying t = some (.int k)) : ∃ x, us = [.s (.int k x)] := by
  cases D with
  | int ht h => rw [hu] at ht; cases ht; exact ⟨_, rfl⟩
  | bool ht => rw [hu] at ht; cases ht
  | string ht h => rw [hu] at ht; cases ht
  | nil ht => rw [hu] at ht; cases ht
  | void ht => rw [hu] at ht; cases ht
  | slice ht hg hl hc hb he => rw [hu] at ht; cases ht
  | struct ht hl hf => rw [hu] at ht; cases ht
  | array ht hl he => rw [hu] at ht; cases ht
theorem Desc.slice_inv {e : TypeId} (D : Desc P hp t us) (hu : P.underlying t = some (.slice e)) : us = [.s (.slice none 0 0)] ∨ (∃ a, us = [.s (.slice (some a) 0 0)]) ∨
    ∃ b len c L, us = [.slice b 0 len c false] ∧ hp.get b = some (.ro (.lst L) (P.cellsOf e)) ∧ L.length = len * P.cellsOf e ∧ len * P.bytesOf e ≤ reachBytes ∧ ∀ i, i < len → Desc P hp e ((L.drop (i * P.cellsOf e)).take (P.cellsOf e)) := by
  cases D with
  | int ht h => rw [hu] at ht; cases ht
  | bool ht => rw [hu] at ht; cases ht
  | string ht h => rw [hu] at ht; cases ht
  | nil ht => exact .inl rfl
  | void ht => exact .inr (.inl ⟨_, rfl⟩)
  | slice ht hg hl hc hb he => rw [hu] at ht; cases ht; exact .inr (.inr ⟨_, _, _, _, rfl, hg, hl, hb, he⟩)
  | struct ht hl hf => rw [hu] at ht; cases ht
  | array ht hl he => rw [hu] at ht; cases ht
theorem Desc.struct_inv {fs : Array Field} (D : Desc P hp t us) (hu : P.underlying t = some (.struct fs)) : us.length = P.cellsOf t ∧ ∀ (i : Nat) (f : Field), fs[i]? = some f → Desc P hp f.type ((us.drop f.offset).take (P.cellsOf f.type)) := by
  cases D with
  | int ht h => rw [hu] at ht; cases ht
  | bool ht => rw [hu] at ht; cases ht
  | string ht h => rw [hu] at ht; cases ht
  | nil ht => rw [hu] at ht; cases ht
  | void ht => rw [hu] at ht; cases ht
  | slice ht hg hl hc hb he => rw [hu] at ht; cases ht
  | struct ht hl hf => rw [hu] at ht; cases ht; exact ⟨hl, hf⟩
  | array ht hl he => rw [hu] at ht; cases ht
theorem Desc.array_inv {e : TypeId} {n : Nat} (D : Desc P hp t us) (hu : P.underlying t = some (.array n e)) : us.length = P.cellsOf t ∧ ∀ i, i < n → Desc P hp e ((us.drop (i * P.cellsOf e)).take (P.cellsOf e)) := by
  cases D with
  | int ht h => rw [hu] at ht; cases ht
  | bool ht => rw [hu] at ht; cases ht
  | string ht h => rw [hu] at ht; cases ht
  | nil ht => rw [hu] at ht; cases ht
  | void ht => rw [hu] at ht; cases ht
  | slice ht hg hl hc hb he => rw [hu] at ht; cases ht
  | struct ht hl hf => rw [hu] at ht; cases ht
  | array ht hl he => rw [hu] at ht; cases ht; exact ⟨hl, he⟩
theorem mem_seg {us : List V} {j o k : Nat} (hj : j < us.length) (h1 : o ≤ j) (h2 : j < o + k) : us[j] ∈ (us.drop o).take k := by
  have : ((us.drop o).take k)[j - o]? = some us[j] := by
    rw [List.getElem?_take_of_lt (by omega), List.getElem?_drop, show o + (j - o) = j by omega, List.getElem?_eq_getElem hj]
  exact List.mem_of_getElem? this
theorem ints_int {k : IntKind} (hu : P.underlying t = some (.int k)) (us : List V) (D : Desc P hp t us) : ∀ y ∈ us, IntCell y := by
  obtain ⟨x, rfl⟩ := D.int_inv hu
  intro y hy
  simp at hy
  exact ⟨_, _, hy⟩
theorem ints_struct {fs : Array Field} (hu : P.underlying t = some (.struct fs))
    (hc : ∀ j, j < P.cellsOf t → ∃ (i : Nat) (f : Field), fs[i]? = some f ∧ f.offset ≤ j ∧ j < f.offset + P.cellsOf f.type ∧ ∀ us, Desc P hp f.type us → ∀ y ∈ us, IntCell y) (us : List V) (D : Desc P hp t us) : ∀ y ∈ us, IntCell y := by
  obtain ⟨hl, hf⟩ := D.struct_inv hu
  intro y hy
  obtain ⟨j, hj, rfl⟩ := List.getElem_of_mem hy
  obtain ⟨i, f, h1, h2, h3, h4⟩ := hc j (by omega)
  exact h4 _ (hf i f h1) _ (mem_seg hj h2 h3)
theorem ints_array {e : TypeId} {n : Nat} (hu : P.underlying t = some (.array n e)) (hk : n * P.cellsOf e = P.cellsOf t) (h0 : 0 < P.cellsOf e) (hc : ∀ us, Desc P hp e us → ∀ y ∈ us, IntCell y) (us : List V) (D : Desc P hp t us) : ∀ y ∈ us, IntCell y := by
  obtain ⟨hl, he⟩ := D.array_inv hu
  intro y hy
  obtain ⟨j, hj, rfl⟩ := List.getElem_of_mem hy
  have h1 : j / P.cellsOf e < n := by
    apply Nat.div_lt_of_lt_mul
    rw [Nat.mul_comm]; omega
  refine hc _ (he _ h1) _ (mem_seg hj ?_ ?_)
  · exact Nat.div_mul_le_self j (P.cellsOf e)
  · have := Nat.lt_div_mul_add (a := j) h0
    omega
theorem ints_of {e : TypeId} {k : IntKind} {L : List V} (hu : P.underlying e = some (.int k)) (he : ∀ i, i < L.length → Desc P hp e ((L.drop (i * 1)).take 1)) : ∃ l : List Int, L = l.map fun x => .s (.int k x) := by
  induction L with
  | nil => exact ⟨[], rfl⟩
  | cons a L ih =>
    obtain ⟨l, hl⟩ := ih fun i hi => by
      have := he (i + 1) (by simpa using hi)
      simpa using this
    obtain ⟨x, hx⟩ := (he 0 (by simp)).int_inv hu
    simp at hx
    exact ⟨x :: l, by simp [hx, hl]⟩
end
theorem kc3 : Tryz.prog.cellsOf 3 = 1 := by kernel_rfl
theorem kc5 : Tryz.prog.cellsOf 5 = 1 := by kernel_rfl
theorem kc22 : Tryz.prog.cellsOf 22 = 1 := by kernel_rfl
theorem kc23 : Tryz.prog.cellsOf 23 = 1 := by kernel_rfl
theorem kc24 : Tryz.prog.cellsOf 24 = 1 := by kernel_rfl
theorem kc25 : Tryz.prog.cellsOf 25 = 1 := by kernel_rfl
theorem kc27 : Tryz.prog.cellsOf 27 = 3 := by kernel_rfl
theorem kc29 : Tryz.prog.cellsOf 29 = 8 := by kernel_rfl
theorem kc34 : Tryz.prog.cellsOf 34 = 15 := by kernel_rfl
theorem kc35 : Tryz.prog.cellsOf 35 = 33 := by kernel_rfl
theorem kc36 : Tryz.prog.cellsOf 36 = 8 := by kernel_rfl
theorem kc38 : Tryz.prog.cellsOf 38 = 12 := by kernel_rfl
theorem kc39 : Tryz.prog.cellsOf 39 = 768 := by kernel_rfl
theorem kc41 : Tryz.prog.cellsOf 41 = 804 := by kernel_rfl
theorem kc69 : Tryz.prog.cellsOf 69 = 4 := by kernel_rfl
theorem kc71 : Tryz.prog.cellsOf 71 = 13 := by kernel_rfl
theorem kc73 : Tryz.prog.cellsOf 73 = 1 := by kernel_rfl
theorem kb5 : Tryz.prog.bytesOf 5 = 1 := by kernel_rfl
theorem kb71 : Tryz.prog.bytesOf 71 = 136 := by kernel_rfl
theorem kb73 : Tryz.prog.bytesOf 73 = 4 := by kernel_rfl
theorem reach_eq : reachBytes = 140737488351232 := by decide

section
variable {hp : Heap} {us : List V}
theorem val_of {a b c : V} (D : Desc Tryz.prog hp 27 [a, b, c]) : ∃ k w id, a = .s (.int .i64 k) ∧ b = .s (.int .u64 w) ∧ c = .s (.int .i64 id) := by
  obtain ⟨_, hf⟩ := D.struct_inv Tryz.underlying27
  have f0 : Desc Tryz.prog hp 3 (([a, b, c].drop 0).take (Tryz.prog.cellsOf 3)) := hf 0 _ rfl
  have f1 : Desc Tryz.prog hp 25 (([a, b, c].drop 1).take (Tryz.prog.cellsOf 25)) := hf 1 _ rfl
  have f2 : Desc Tryz.prog hp 3 (([a, b, c].drop 2).take (Tryz.prog.cellsOf 3)) := hf 2 _ rfl
  rw [kc3] at f0 f2
  rw [kc25] at f1
  obtain ⟨x, hx⟩ := f0.int_inv Tryz.underlying3
  obtain ⟨y, hy⟩ := f1.int_inv Tryz.underlying25
  obtain ⟨z, hz⟩ := f2.int_inv Tryz.underlying3
  simp at hx hy hz
  exact ⟨x, y, z, hx, hy, hz⟩
theorem map_of {a b c d : V} (D : Desc Tryz.prog hp 69 [a, b, c, d]) : ∃ k w id m, a = .s (.int .i64 k) ∧ b = .s (.int .i64 w) ∧ c = .s (.int .i64 id) ∧ d = .s (.int .i64 m) := by
  obtain ⟨_, hf⟩ := D.struct_inv Tryz.underlying69
  have f0 : Desc Tryz.prog hp 3 (([a, b, c, d].drop 0).take (Tryz.prog.cellsOf 3)) := hf 0 _ rfl
  have f1 : Desc Tryz.prog hp 3 (([a, b, c, d].drop 1).take (Tryz.prog.cellsOf 3)) := hf 1 _ rfl
  have f2 : Desc Tryz.prog hp 3 (([a, b, c, d].drop 2).take (Tryz.prog.cellsOf 3)) := hf 2 _ rfl
  have f3 : Desc Tryz.prog hp 3 (([a, b, c, d].drop 3).take (Tryz.prog.cellsOf 3)) := hf 3 _ rfl
  rw [kc3] at f0 f1 f2 f3
  obtain ⟨x, hx⟩ := f0.int_inv Tryz.underlying3
  obtain ⟨y, hy⟩ := f1.int_inv Tryz.underlying3
  obtain ⟨z, hz⟩ := f2.int_inv Tryz.underlying3
  obtain ⟨m, hm⟩ := f3.int_inv Tryz.underlying3
  simp at hx hy hz hm
  exact ⟨x, y, z, m, hx, hy, hz, hm⟩
theorem world_of (D : Desc Tryz.prog hp 29 us) : ∃ mv pv dv st tails k w id, us = worldL mv pv dv st tails k w id ∧ Desc Tryz.prog hp 22 [mv] ∧ Desc Tryz.prog hp 23 [pv] ∧ Desc Tryz.prog hp 24 [dv] ∧ Desc Tryz.prog hp 23 [st] := by
  obtain ⟨hl, hf⟩ := D.struct_inv Tryz.underlying29
  rw [kc29] at hl
  match us, hl with
  | [a0, a1, a2, a3, a4, a5, a6, a7], _ =>
    have f0 : Desc Tryz.prog hp 22 (([a0, a1, a2, a3, a4, a5, a6, a7].drop 0).take (Tryz.prog.cellsOf 22)) := hf 0 _ rfl
    have f1 : Desc Tryz.prog hp 23 (([a0, a1, a2, a3, a4, a5, a6, a7].drop 1).take (Tryz.prog.cellsOf 23)) := hf 1 _ rfl
    have f2 : Desc Tryz.prog hp 24 (([a0, a1, a2, a3, a4, a5, a6, a7].drop 2).take (Tryz.prog.cellsOf 24)) := hf 2 _ rfl
    have f3 : Desc Tryz.prog hp 3 (([a0, a1, a2, a3, a4, a5, a6, a7].drop 3).take (Tryz.prog.cellsOf 3)) := hf 3 _ rfl
    have f4 : Desc Tryz.prog hp 23 (([a0, a1, a2, a3, a4, a5, a6, a7].drop 4).take (Tryz.prog.cellsOf 23)) := hf 4 _ rfl
    have f5 : Desc Tryz.prog hp 27 (([a0, a1, a2, a3, a4, a5, a6, a7].drop 5).take (Tryz.prog.cellsOf 27)) := hf 5 _ rfl
    rw [kc22] at f0
    rw [kc23] at f1 f4
    rw [kc24] at f2
    rw [kc3] at f3
    rw [kc27] at f5
    obtain ⟨x, hx⟩ := f3.int_inv Tryz.underlying3
    obtain ⟨k, w, id, rfl, rfl, rfl⟩ := val_of f5
    simp at hx
    subst hx
    exact ⟨a0, a1, a2, a4, x, k, w, id, rfl, f0, f1, f2, f4⟩
theorem op_of (D : Desc Tryz.prog hp 71 us) : ∃ kind id M prog cell size w dk dkey dval dmax kv dv, us = opL kind id M prog cell size w dk dkey dval dmax kv dv ∧ Desc Tryz.prog hp 23 [kv] ∧ Desc Tryz.prog hp 23 [dv] := by
  obtain ⟨hl, hf⟩ := D.struct_inv Tryz.underlying71
  rw [kc71] at hl
  match us, hl with
  | [a0, a1, a2, a3, a4, a5, a6, a7, a8, a9, a10, a11, a12], _ =>
    have f0 : Desc Tryz.prog hp 3 (([a0, a1, a2, a3, a4, a5, a6, a7, a8, a9, a10, a11, a12].drop 0).take (Tryz.prog.cellsOf 3)) := hf 0 _ rfl
    have f1 : Desc Tryz.prog hp 3 (([a0, a1, a2, a3, a4, a5, a6, a7, a8, a9, a10, a11, a12].drop 1).take (Tryz.prog.cellsOf 3)) := hf 1 _ rfl
    have f2 : Desc Tryz.prog hp 3 (([a0, a1, a2, a3, a4, a5, a6, a7, a8, a9, a10, a11, a12].drop 2).take (Tryz.prog.cellsOf 3)) := hf 2 _ rfl
    have f3 : Desc Tryz.prog hp 3 (([a0, a1, a2, a3, a4, a5, a6, a7, a8, a9, a10, a11, a12].drop 3).take (Tryz.prog.cellsOf 3)) := hf 3 _ rfl
    have f4 : Desc Tryz.prog hp 3 (([a0, a1, a2, a3, a4, a5, a6, a7, a8, a9, a10, a11, a12].drop 4).take (Tryz.prog.cellsOf 3)) := hf 4 _ rfl
    have f5 : Desc Tryz.prog hp 3 (([a0, a1, a2, a3, a4, a5, a6, a7, a8, a9, a10, a11, a12].drop 5).take (Tryz.prog.cellsOf 3)) := hf 5 _ rfl
    have f6 : Desc Tryz.prog hp 25 (([a0, a1, a2, a3, a4, a5, a6, a7, a8, a9, a10, a11, a12].drop 6).take (Tryz.prog.cellsOf 25)) := hf 6 _ rfl
    have f7 : Desc Tryz.prog hp 69 (([a0, a1, a2, a3, a4, a5, a6, a7, a8, a9, a10, a11, a12].drop 7).take (Tryz.prog.cellsOf 69)) := hf 7 _ rfl
    have f8 : Desc Tryz.prog hp 23 (([a0, a1, a2, a3, a4, a5, a6, a7, a8, a9, a10, a11, a12].drop 11).take (Tryz.prog.cellsOf 23)) := hf 8 _ rfl
    have f9 : Desc Tryz.prog hp 23 (([a0, a1, a2, a3, a4, a5, a6, a7, a8, a9, a10, a11, a12].drop 12).take (Tryz.prog.cellsOf 23)) := hf 9 _ rfl
    rw [kc3] at f0 f1 f2 f3 f4 f5
    rw [kc25] at f6
    rw [kc69] at f7
    rw [kc23] at f8 f9
    obtain ⟨x0, h0⟩ := f0.int_inv Tryz.underlying3
    obtain ⟨x1, h1⟩ := f1.int_inv Tryz.underlying3
    obtain ⟨x2, h2⟩ := f2.int_inv Tryz.underlying3
    obtain ⟨x3, h3⟩ := f3.int_inv Tryz.underlying3
    obtain ⟨x4, h4⟩ := f4.int_inv Tryz.underlying3
    obtain ⟨x5, h5⟩ := f5.int_inv Tryz.underlying3
    obtain ⟨x6, h6⟩ := f6.int_inv Tryz.underlying25
    obtain ⟨y0, y1, y2, y3, rfl, rfl, rfl, rfl⟩ := map_of f7
    simp at h0 h1 h2 h3 h4 h5 h6
    subst h0; subst h1; subst h2; subst h3; subst h4; subst h5; subst h6
    exact ⟨x0, x1, x2, x3, x4, x5, x6, y0, y1, y2, y3, a11, a12, rfl, f8, f9⟩
theorem opn_of (D : Desc Tryz.prog hp 34 us) : us.length = 15 ∧ ∃ kind, us[0]? = some (.s (.int .i64 kind)) := by
  obtain ⟨hl, hf⟩ := D.struct_inv Tryz.underlying34
  rw [kc34] at hl
  have f0 : Desc Tryz.prog hp 3 ((us.drop 0).take (Tryz.prog.cellsOf 3)) := hf 0 _ rfl
  rw [kc3] at f0
  obtain ⟨x, hx⟩ := f0.int_inv Tryz.underlying3
  refine ⟨hl, x, ?_⟩
  match us, hl with
  | a :: us, _ =>
    simp at hx
    simp [hx]
theorem ints27 (us : List V) (D : Desc Tryz.prog hp 27 us) : ∀ y ∈ us, IntCell y := by
  refine ints_struct Tryz.underlying27 (fun j hj => ?_) us D
  rw [kc27] at hj
  match j, hj with
  | 0, _ => exact ⟨0, _, rfl, by simp, by simp [kc3], ints_int Tryz.underlying3⟩
  | 1, _ => exact ⟨1, _, rfl, by simp, by simp [kc25], ints_int Tryz.underlying25⟩
  | 2, _ => exact ⟨2, _, rfl, by simp, by simp [kc3], ints_int Tryz.underlying3⟩
theorem ints36 (us : List V) (D : Desc Tryz.prog hp 36 us) : ∀ y ∈ us, IntCell y := ints_array Tryz.underlying36 (by rw [kc36, kc5]) (by rw [kc5]; omega) (ints_int Tryz.underlying5) us D
theorem ints38 (us : List V) (D : Desc Tryz.prog hp 38 us) : ∀ y ∈ us, IntCell y := by
  refine ints_struct Tryz.underlying38 (fun j hj => ?_) us D
  rw [kc38] at hj
  by_cases h1 : j < 3
  · exact ⟨0, _, rfl, by simp, by simp [kc27]; omega, ints27⟩
  · by_cases h2 : j < 11
    · exact ⟨1, _, rfl, by simp; omega, by simp [kc36]; omega, ints36⟩
    · exact ⟨2, _, rfl, by simp; omega, by simp [kc5]; omega, ints_int Tryz.underlying5⟩
theorem ints35 (us : List V) (D : Desc Tryz.prog hp 35 us) : ∀ y ∈ us, IntCell y := ints_array Tryz.underlying35 (by rw [kc35, kc27]) (by rw [kc27]; omega) ints27 us D
theorem ints39 (us : List V) (D : Desc Tryz.prog hp 39 us) : ∀ y ∈ us, IntCell y := ints_array Tryz.underlying39 (by rw [kc39, kc38]) (by rw [kc38]; omega) ints38 us D
theorem frame_of (D : Desc Tryz.prog hp 41 us) : us.length = 804 ∧ ∀ y ∈ us, IntCell y := by
  refine ⟨by rw [(D.struct_inv Tryz.underlying41).1, kc41], ints_struct Tryz.underlying41 (fun j hj => ?_) us D⟩
  rw [kc41] at hj
  by_cases h0 : j < 1
  · exact ⟨0, _, rfl, by simp, by simp [kc3]; omega, ints_int Tryz.underlying3⟩
  · by_cases h1 : j < 2
    · exact ⟨1, _, rfl, by simp; omega, by simp [kc3]; omega, ints_int Tryz.underlying3⟩
    · by_cases h2 : j < 3
      · exact ⟨2, _, rfl, by simp; omega, by simp [kc3]; omega, ints_int Tryz.underlying3⟩
      · by_cases h3 : j < 36
        · exact ⟨3, _, rfl, by simp; omega, by simp [kc35]; omega, ints35⟩
        · exact ⟨4, _, rfl, by simp; omega, by simp [kc39]; omega, ints39⟩
theorem lenVoid22 (h : Heap) (a : Addr) : lenV CC h 22 (.s (.slice (some a) 0 0)) = some (.s (.int .i64 0)) := of_eq (by kernel_rfl)
theorem lenVoid24 (h : Heap) (a : Addr) : lenV CC h 24 (.s (.slice (some a) 0 0)) = some (.s (.int .i64 0)) := of_eq (by kernel_rfl)
theorem lenNil22 (h : Heap) : lenV CC h 22 (.s (.slice none 0 0)) = some (.s (.int .i64 0)) := of_eq (by kernel_rfl)
theorem lenNil24 (h : Heap) : lenV CC h 24 (.s (.slice none 0 0)) = some (.s (.int .i64 0)) := of_eq (by kernel_rfl)
theorem normNil : normV (.s (.slice none 0 0)) = .s (.slice none 0 0) ∧ V.cells (.s (.slice none 0 0)) = some (.one (.s (.slice none 0 0))) := ⟨rfl, rfl⟩
theorem normVoid (a : Addr) : normV (.s (.slice (some a) 0 0)) = .s (.slice (some a) 0 0) ∧ V.cells (.s (.slice (some a) 0 0)) = some (.one (.s (.slice (some a) 0 0))) := ⟨rfl, rfl⟩
theorem normSlice (b o l c : Nat) (p : Bool) : normV (.slice b o l c p) = .slice b o l c p ∧ V.cells (.slice b o l c p) = some (.one (.slice b o l c p)) := ⟨rfl, rfl⟩
theorem bytes_of {v : V} {n0 : Nat} (D : Desc Tryz.prog hp 23 [v]) (hn : ∀ b o, hp.get b = some o → b < n0) (h0 : 0 < n0) : ∃ b l, b < n0 ∧ ByteArg hp b v l ∧ l.length ≤ 140737488351232 := by
  rcases D.slice_inv Tryz.underlying23 with h | ⟨a, h⟩ | ⟨b, len, c, L, h, hg, hl, hb, he⟩
  · simp at h; subst h
    exact ⟨0, [], h0, .inl (.inl ⟨rfl, rfl, rfl⟩), by simp⟩
  · simp at h; subst h
    exact ⟨0, [], h0, .inr ⟨⟨a, rfl⟩, rfl⟩, by simp⟩
  · simp at h; subst h
    rw [kc5] at hg hl he
    rw [kb5, reach_eq] at hb
    obtain ⟨l, rfl⟩ := ints_of Tryz.underlying5 (L := L) (fun i hi => he i (by omega))
    have hll : l.length = len := by simpa using hl
    refine ⟨b, l, hn b _ hg, .inl (.inr ⟨0, c, false, bytesV' l, 1, by rw [hll], by simp [cellsAt, hg, bytesV'], ?_, by simp [bytesV']⟩), by omega⟩
    rw [List.drop_zero]
    exact List.take_of_length_le (by simp [bytesV'])
theorem draws_of {v : V} {n0 : Nat} (D : Desc Tryz.prog hp 24 [v]) (hn : ∀ b o, hp.get b = some o → b < n0) : ∃ N, N ≤ 35184372087900 ∧ DrawsArg hp n0 v N := by
  rcases D.slice_inv Tryz.underlying24 with h | ⟨a, h⟩ | ⟨b, len, c, L, h, hg, hl, hb, he⟩
  · simp at h; subst h
    exact ⟨0, by omega, fun h' => lenNil24 h', normNil, fun i hi => by omega⟩
  · simp at h; subst h
    exact ⟨0, by omega, fun h' => lenVoid24 h' a, normVoid a, fun i hi => by omega⟩
  · simp at h; subst h
    rw [kc73] at hg hl he
    rw [kb73, reach_eq] at hb
    obtain ⟨l, rfl⟩ := ints_of Tryz.underlying73 (L := L) (fun i hi => he i (by omega))
    have hll : l.length = len := by simpa using hl
    refine ⟨len, by omega, fun h' => by simp, normSlice _ _ _ _ _, fun i hi => ⟨b, 0 + i * 1, _, 1, l[i], hn b _ hg, by simp [show Nat.blt i len = true from (by rw [Nat.blt_eq]; exact hi)], by simp [cellsAt, hg]; rfl, ?_⟩⟩
    simp [List.getElem?_eq_getElem (show i < l.length by omega)]
theorem ops_of {v : V} {n0 : Nat} (D : Desc Tryz.prog hp 22 [v]) (hn : ∀ b o, hp.get b = some o → b < n0) (h0 : 0 < n0) : ∃ N, N ≤ 1040000000000 ∧ OpsArg hp n0 v N := by
  rcases D.slice_inv Tryz.underlying22 with h | ⟨a, h⟩ | ⟨b, len, c, L, h, hg, hl, hb, he⟩
  · simp at h; subst h
    exact ⟨0, by omega, fun h' => lenNil22 h', normNil, fun i hi => by omega⟩
  · simp at h; subst h
    exact ⟨0, by omega, fun h' => lenVoid22 h' a, normVoid a, fun i hi => by omega⟩
  · simp at h; subst h
    rw [kc71] at hg hl he
    rw [kb71, reach_eq] at hb
    refine ⟨len, by omega, fun h' => by simp, normSlice _ _ _ _ _, fun i hi => ?_⟩
    obtain ⟨kind, id, M, prog, cell, size, w, dk, dkey, dval, dmax, kv, dv, e, hk, hd⟩ := op_of (he i hi)
    obtain ⟨kb, kl, kn, ka, kk⟩ := bytes_of hk hn h0
    obtain ⟨db, dl, dn, da, dd⟩ := bytes_of hd hn h0
    exact ⟨b, 0 + i * 13, L, 13, kind, id, M, prog, cell, size, w, dk, dkey, dval, dmax, kv, dv, kl, dl, kb, db, hn b _ hg, by simp [show Nat.blt i len = true from (by rw [Nat.blt_eq]; exact hi)], by simp [cellsAt, hg], by omega, by simpa using e, kn, dn, ka, da, kk, dd⟩
end
end Go.Ev
