import Derived.Test.YtkcdhdilifolfaaGreatIQ2
namespace Go.Ev
set_option maxRecDepth 20000

/-! ### What a map is by -/
theorem ta_aa (a : Nat) : typeAssert CC (.iface 125 (.ptr a 0)) 125 true = some (.tup [.ptr a 0, .s (.bool true)]) := by kernel_rfl
theorem ta_al (a : Nat) : typeAssert CC (.iface 125 (.ptr a 0)) 129 true = some (.tup [.s (.pointer none), .s (.bool false)]) := by kernel_rfl
theorem ta_ah (a : Nat) : typeAssert CC (.iface 125 (.ptr a 0)) 127 true = some (.tup [.s (.pointer none), .s (.bool false)]) := by kernel_rfl
theorem least_some (l : List String) (h : l ≠ []) : ∃ m, Instr.least l = some m := by
  cases l with
  | nil => exact absurd rfl h
  | cons a l => exact ⟨_, rfl⟩
theorem parts {α β : Type} (p : α → Bool) (f : α → β) (g : List β → Option β) (k : List α → Option β) (hg : ∀ l, l ≠ [] → ∃ m, g l = some m) (hk : ∀ l, l ≠ [] → ∃ m, k l = some m) (ms : List α) (h : ms ≠ []) :
    ∃ m, ((k (ms.partition p).2 <|> g ((ms.partition p).1.map f)) : Option β) = some m := by
  rw [List.partition_eq_filter_filter]
  simp only
  by_cases he : List.filter (not ∘ p) ms = []
  · have hu : (List.filter p ms).map f ≠ [] := by
      cases ms with
      | nil => exact absurd rfl h
      | cons a l =>
        rw [List.filter_eq_nil_iff] at he
        have := he a (by simp)
        simp at this
        simp [this]
    obtain ⟨m, hm⟩ := hg _ hu
    cases k (List.filter (not ∘ p) ms) with
    | none => exact ⟨m, by rw [hm]; rfl⟩
    | some x => exact ⟨x, rfl⟩
  · obtain ⟨m, hm⟩ := hk _ he
    exact ⟨m, by rw [hm]; rfl⟩
theorem missing_some (want : Array (String × TypeId)) (got : Array Method) (h : (want.toList.filter fun (x : String × TypeId) => !got.any fun m => m.name == x.1 && m.sig == x.2) ≠ []) : ∃ m, Instr.missingMethod want got = some m := by
  unfold Instr.missingMethod
  exact parts _ _ _ _ (fun l hl => least_some l hl) (fun l hl => least_some l hl) _ (by simpa using h)
def wantOf : TypeDesc → Array (String × TypeId)
  | .interface w => w
  | _ => #[]
theorem ta_fail {x t : TypeId} {v : V} {i j : Ty} {w : Array (String × TypeId)} (hi : ty CC x = some i) (hd : i.desc = .interface w) (hz : i.zero = some (.s .nilIface)) (hj : ty CC t = some j)
    (h : (w.toList.filter fun (y : String × TypeId) => !j.methods.toArray.any fun m => m.name == y.1 && m.sig == y.2) ≠ []) : typeAssert CC (.iface t v) x true = some (.tup [.s .nilIface, .s (.bool false)]) := by
  obtain ⟨m, hm⟩ := missing_some w j.methods.toArray h
  simp only [typeAssert, hi, hj, Option.bind_some, hd, hm, hz, cond_true]
theorem ta_ak (a : Nat) : typeAssert CC (.iface 125 (.ptr a 0)) 139 true = some (.tup [.s .nilIface, .s (.bool false)]) := by
  have e1 : ∃ i, ty CC 139 = some i ∧ i.desc = .interface (wantOf i.desc) ∧ i.zero = some (.s .nilIface) ∧ ∃ j, ty CC 125 = some j ∧ (((wantOf i.desc).toList.filter fun (y : String × TypeId) => !j.methods.toArray.any fun m => m.name == y.1 && m.sig == y.2)).length = 3 := by
    refine ⟨(ty CC 139).get!, by kernel_rfl, by kernel_rfl, by kernel_rfl, (ty CC 125).get!, by kernel_rfl, by kernel_rfl⟩
  obtain ⟨i, h1, h2, h3, j, h4, h5⟩ := e1
  exact ta_fail h1 h2 h3 h4 (by intro e; rw [e] at h5; cases h5)
theorem ta_ha (a : Nat) : typeAssert CC (.iface 127 (.ptr a 0)) 125 true = some (.tup [.s (.pointer none), .s (.bool false)]) := by kernel_rfl
theorem ta_hl (a : Nat) : typeAssert CC (.iface 127 (.ptr a 0)) 129 true = some (.tup [.s (.pointer none), .s (.bool false)]) := by kernel_rfl
theorem ta_hh (a : Nat) : typeAssert CC (.iface 127 (.ptr a 0)) 127 true = some (.tup [.ptr a 0, .s (.bool true)]) := by kernel_rfl
theorem ta_hk (a : Nat) : typeAssert CC (.iface 127 (.ptr a 0)) 139 true = some (.tup [.iface 127 (.ptr a 0), .s (.bool true)]) := by kernel_rfl
theorem ta_la (a : Nat) : typeAssert CC (.iface 129 (.ptr a 0)) 125 true = some (.tup [.s (.pointer none), .s (.bool false)]) := by kernel_rfl
theorem ta_ll (a : Nat) : typeAssert CC (.iface 129 (.ptr a 0)) 129 true = some (.tup [.ptr a 0, .s (.bool true)]) := by kernel_rfl
theorem ta_lh (a : Nat) : typeAssert CC (.iface 129 (.ptr a 0)) 127 true = some (.tup [.s (.pointer none), .s (.bool false)]) := by kernel_rfl
theorem ta_lk (a : Nat) : typeAssert CC (.iface 129 (.ptr a 0)) 139 true = some (.tup [.iface 129 (.ptr a 0), .s (.bool true)]) := by kernel_rfl
theorem ta_na : typeAssert CC (.s .nilIface) 125 true = some (.tup [.s (.pointer none), .s (.bool false)]) := by kernel_rfl
theorem ta_nl : typeAssert CC (.s .nilIface) 129 true = some (.tup [.s (.pointer none), .s (.bool false)]) := by kernel_rfl
theorem ta_nh : typeAssert CC (.s .nilIface) 127 true = some (.tup [.s (.pointer none), .s (.bool false)]) := by kernel_rfl
theorem ta_nk : typeAssert CC (.s .nilIface) 139 true = some (.tup [.s .nilIface, .s (.bool false)]) := by kernel_rfl
theorem inv_hf (a : Nat) (args : List V) (h : Heap) (n : Nat) (K : V → Heap → Nat → Prop) : invokeW CC (.iface 127 (.ptr a 0)) "Find" args h n K = CallK CC 167 (.ptr a 0 :: args) h n K := by
  have : methodOf CC 127 (.ptr a 0) "Find" = some (167, .ptr a 0) := by kernel_rfl
  simp only [invokeW, this, oK_some]
theorem inv_lf (a : Nat) (args : List V) (h : Heap) (n : Nat) (K : V → Heap → Nat → Prop) : invokeW CC (.iface 129 (.ptr a 0)) "Find" args h n K = CallK CC 169 (.ptr a 0 :: args) h n K := by
  have : methodOf CC 129 (.ptr a 0) "Find" = some (169, .ptr a 0) := by kernel_rfl
  simp only [invokeW, this, oK_some]
theorem inv_hd (a : Nat) (args : List V) (h : Heap) (n : Nat) (K : V → Heap → Nat → Prop) : invokeW CC (.iface 127 (.ptr a 0)) "Del" args h n K = CallK CC 166 (.ptr a 0 :: args) h n K := by
  have : methodOf CC 127 (.ptr a 0) "Del" = some (166, .ptr a 0) := by kernel_rfl
  simp only [invokeW, this, oK_some]
theorem inv_ld (a : Nat) (args : List V) (h : Heap) (n : Nat) (K : V → Heap → Nat → Prop) : invokeW CC (.iface 129 (.ptr a 0)) "Del" args h n K = CallK CC 168 (.ptr a 0 :: args) h n K := by
  have : methodOf CC 129 (.ptr a 0) "Del" = some (168, .ptr a 0) := by kernel_rfl
  simp only [invokeW, this, oK_some]

theorem within_ok (a lo hi : Int) (h : Heap) (n : Nat) : CallK CC 47 [.s (.int .i64 a), .s (.int .i64 lo), .s (.int .i64 hi)] h n fun v h' n' => v = .s (.bool (decide (lo ≤ a ∧ a ≤ hi))) ∧ h' = h := by
  refine F47_call fun hlt => ?_
  rw [F47_eq]
  by_cases h1 : lo ≤ a <;> simp [h1]
theorem may_ok (kind key val mx : Int) (h : Heap) (n : Nat) : CallK CC 48 [.agg (.lst [.s (.int .i64 kind), .s (.int .i64 key), .s (.int .i64 val), .s (.int .i64 mx)])] h n fun v h' n' =>
    (∃ b : Bool, v = .s (.bool b) ∧ (b = true → 1 ≤ key ∧ key ≤ 16 ∧ 1 ≤ val ∧ val ≤ 64 ∧ 1 ≤ mx ∧ mx ≤ 64 ∧ (kind = 1 → key = 4))) ∧ Same n [] h h' := by
  refine F48_call fun hlt => ?_
  rw [F48_eq]
  have hsm : Same n [] h (h.set n (.cells (.lst [.s (.int .i64 kind), .s (.int .i64 key), .s (.int .i64 val), .s (.int .i64 mx)]) 4)) := Same.new _ _ _ _
  have hg : (h.set n (.cells (.lst [.s (.int .i64 kind), .s (.int .i64 key), .s (.int .i64 val), .s (.int .i64 mx)]) 4)).get n = some (.cells (.lst [.s (.int .i64 kind), .s (.int .i64 key), .s (.int .i64 val), .s (.int .i64 mx)]) 4) := by rw [Tree.get_set, if_pos rfl]
  simp only [cells_agg, oK_some, Rope.toList_lst]
  generalize (h.set n (.cells (.lst [.s (.int .i64 kind), .s (.int .i64 key), .s (.int .i64 val), .s (.int .i64 mx)]) 4)) = h1 at hsm hg ⊢
  simp [cellsAt, hg]
  have fin : ∀ h', h' = h1 → Same n [] h h' := fun h' e => by rw [e]; exact hsm
  by_cases k1 : kind = 1
  all_goals
    simp [k1, cellsAt, hg]
    refine CallK.monoN ?_ (within_ok _ _ _ _ _)
    rintro _ h2 n2 ⟨rfl, rfl⟩ hn2
    by_cases a1 : 1 ≤ key ∧ key ≤ 16
    · simp [a1, cellsAt, hg]
      refine CallK.monoN ?_ (within_ok _ _ _ _ _)
      rintro _ h2 n2 ⟨rfl, rfl⟩ hn2
      by_cases a2 : 1 ≤ val ∧ val ≤ 64
      · simp [a2, cellsAt, hg]
        refine CallK.monoN ?_ (within_ok _ _ _ _ _)
        rintro _ h2 n2 ⟨rfl, rfl⟩ hn2
        by_cases a3 : 1 ≤ mx ∧ mx ≤ 64
        · by_cases a4 : key = 4
          · by_cases a5 : kind = 4 <;> (simp [a3, a4, a5, cellsAt, hg, k1]; first | exact hsm | exact ⟨by omega, hsm⟩)
          · by_cases a5 : kind = 4 <;> (simp [a3, a4, a5, cellsAt, hg, k1]; first | exact hsm | exact ⟨by omega, hsm⟩)
        · simp [a3]
          exact hsm
      · simp [a2]
        exact hsm
    · simp [a1]
      exact hsm

theorem number_ok {b : Nat} {v : V} {l : List Int} {h : Heap} {n : Nat} (hs : BytesAt h b v l) (h4 : l.length = 4) : CallK CC 79 [v] h n fun r h' n' => (∃ x : Int, r = .s (.int .i64 x)) ∧ h' = h := by
  refine F79_call fun hlt => ?_
  rw [F79_eq]
  obtain ⟨p0, a0, b0⟩ := hs.ix (i := 0) (by omega)
  obtain ⟨p1, a1, b1⟩ := hs.ix (i := 1) (by omega)
  obtain ⟨p2, a2, b2⟩ := hs.ix (i := 2) (by omega)
  obtain ⟨p3, a3, b3⟩ := hs.ix (i := 3) (by omega)
  have c0 : indexAddr CC 23 v (.s (.int .i64 0)) = some (.ptr b p0) := a0
  have c1 : indexAddr CC 23 v (.s (.int .i64 1)) = some (.ptr b p1) := a1
  have c2 : indexAddr CC 23 v (.s (.int .i64 2)) = some (.ptr b p2) := a2
  have c3 : indexAddr CC 23 v (.s (.int .i64 3)) = some (.ptr b p3) := a3
  have s1 : ∀ x : Int, binop CC .shl 3 true (.s (.int .i64 x)) (.s (.int .u64 8)) = some (.s (.int .i64 (shlI .i64 x 8))) := fun x => bin_shl _ _ _ _ _ (by omega)
  have s2 : ∀ x : Int, binop CC .shl 3 true (.s (.int .i64 x)) (.s (.int .u64 16)) = some (.s (.int .i64 (shlI .i64 x 16))) := fun x => bin_shl _ _ _ _ _ (by omega)
  have s3 : ∀ x : Int, binop CC .shl 3 true (.s (.int .i64 x)) (.s (.int .u64 24)) = some (.s (.int .i64 (shlI .i64 x 24))) := fun x => bin_shl _ _ _ _ _ (by omega)
  simp [c0, c1, c2, c3, b0, b1, b2, b3, s1, s2, s3]

/-! ### All maps -/
def GrowM (h : Heap) (m b : Nat) (v : V) (k n : Nat) (cs : List V) : Prop := (v = .s (.slice none 0 0) ∧ b = m ∧ n = 0 ∧ cs = []) ∨ (b ≠ m ∧ v ≠ .s (.slice none 0 0) ∧ GrowAt h b v k n cs)
structure MapsAt (τ : Ty0) (h : Heap) (n m c M lb eb : Nat) (L : List Nat) (last now : Int) (lv ev : V) (ne : Nat) : Prop where
  hm : h.get m = some (.cells (.lst [.ptr c 0, lv, .s (.int .i64 now), ev]) 4)
  hc : CellsAt h c M last
  hM : τ M = some .cmap
  hL : GrowM h m lb lv 1 L.length (L.map fun p => .ptr p 0)
  hone : ∀ p ∈ L, τ p = some .one
  hev : ∃ es, GrowM h m eb ev 5 ne es
  tm : τ m = none
  tc : τ c = none
  mn : m < n
  cn : c < n
  mc : m ≠ c
  lbo : lb = m ∨ (lb < n ∧ τ lb = none ∧ lb ≠ c)
  ebo : eb = m ∨ (eb < n ∧ τ eb = none ∧ eb ≠ c)
  leb : lb = eb → lb = m
  l8 : L.length ≤ 8
  la0 : 0 ≤ last
theorem GrowM.of {h h' : Heap} {m b k n : Nat} {v : V} {cs : List V} (H : GrowM h m b v k n cs) (e : b ≠ m → h'.get b = h.get b) : GrowM h' m b v k n cs := by
  rcases H with H | ⟨h1, h2, h3⟩
  · exact .inl H
  · exact .inr ⟨h1, h2, h3.of (e h1)⟩
theorem MapsAt.keep {τ τ' : Ty0} {h h' : Heap} {n n' m c M lb eb ne : Nat} {L : List Nat} {last now : Int} {lv ev : V} (H : MapsAt τ h n m c M lb eb L last now lv ev ne) (hn : n ≤ n') (K : Keep τ τ' n [] h h') : MapsAt τ' h' n' m c M lb eb L last now lv ev ne := by
  have g : ∀ x, x < n → τ x = none → h'.get x = h.get x := fun x hx ht => K.same x hx ht (by simp)
  refine ⟨by rw [g m H.mn H.tm]; exact H.hm, H.hc.of (g c H.cn H.tc), K.ext _ _ H.hM, H.hL.of ?_, fun p hp => K.ext _ _ (H.hone p hp), ?_, K.none H.mn H.tm, K.none H.cn H.tc, by have := H.mn; omega, by have := H.cn; omega, H.mc, ?_, ?_, H.leb, H.l8, H.la0⟩
  · intro hb
    rcases H.lbo with h1 | ⟨h1, h2, h3⟩
    · exact absurd h1 hb
    · exact g lb h1 h2
  · obtain ⟨es, he⟩ := H.hev
    refine ⟨es, he.of ?_⟩
    intro hb
    rcases H.ebo with h1 | ⟨h1, h2, h3⟩
    · exact absurd h1 hb
    · exact g eb h1 h2
  · rcases H.lbo with h1 | ⟨h1, h2, h3⟩
    · exact .inl h1
    · exact .inr ⟨by omega, K.none h1 h2, h3⟩
  · rcases H.ebo with h1 | ⟨h1, h2, h3⟩
    · exact .inl h1
    · exact .inr ⟨by omega, K.none h1 h2, h3⟩
theorem MapsAt.norm {τ : Ty0} {h : Heap} {n m c M lb eb ne : Nat} {L : List Nat} {last now : Int} {lv ev : V} (H : MapsAt τ h n m c M lb eb L last now lv ev ne) : normV lv = lv ∧ normV ev = ev ∧ V.cells lv = some (.one lv) ∧ V.cells ev = some (.one ev) := by
  have a : ∀ {b k n cs v}, GrowM h m b v k n cs → normV v = v ∧ V.cells v = some (.one v) := by
    rintro b k n cs v (⟨rfl, _⟩ | ⟨_, _, ⟨rfl, _⟩ | ⟨o, c, op, A, rfl, _⟩⟩) <;> exact ⟨rfl, rfl⟩
  obtain ⟨es, he⟩ := H.hev
  exact ⟨(a H.hL).1, (a he).1, (a H.hL).2, (a he).2⟩
/-- A map: there is one, or none. -/
theorem at_ok {τ : Ty0} {h : Heap} {n m c M lb eb ne : Nat} {L : List Nat} {last now : Int} {lv ev : V} (H : MapsAt τ h n m c M lb eb L last now lv ev ne) (id : Int) :
    CallK CC 52 [.ptr m 0, .s (.int .i64 id)] h n fun v h' n' => ((v = .s (.pointer none) ∧ ¬ (1 ≤ id ∧ id ≤ (L.length : Nat))) ∨ ∃ p, (v = .ptr p 0 ∧ (1 ≤ id ∧ id ≤ (L.length : Nat))) ∧ τ p = some .one) ∧ h' = h := by
  refine F52_call fun hlt => ?_
  rw [F52_eq]
  have hm := H.hm
  have l8 := H.l8
  have nl := H.norm.1
  have hlen : lenV CC h 95 lv = some (.s (.int .i64 (L.length : Nat))) := by
    rcases H.hL with ⟨rfl, _, h0, _⟩ | ⟨_, _, ⟨rfl, h0, _⟩ | ⟨o, k, op, A, rfl, _⟩⟩
    · simp [h0]
    · simp [h0]
    · simp
  simp [cellsAt, hm, nl, hlen]
  refine CallK.monoN ?_ (within_ok _ _ _ _ _)
  rintro _ h1 n1 ⟨rfl, rfl⟩ hn1
  by_cases hid : 1 ≤ id ∧ id ≤ (L.length : Nat)
  · obtain ⟨i, rfl⟩ : ∃ i : Nat, id = i := ⟨id.toNat, by omega⟩
    obtain ⟨j, rfl⟩ : ∃ j : Nat, i = j + 1 := ⟨i - 1, by omega⟩
    have hj : j < L.length := by omega
    have e1 : wrapF .i64 (((j + 1 : Nat) : Int) - 1) = (j : Int) := by rw [wrapF_i64 (by omega) (by omega)]; omega
    obtain ⟨q, hq⟩ : ∃ q : Int, q = ((j + 1 : Nat) : Int) := ⟨_, rfl⟩
    rw [← hq] at hid e1 ⊢
    rcases H.hL with ⟨_, _, h0, _⟩ | ⟨_, _, ⟨_, h0, _⟩ | ⟨o, k, op, A, rfl, k1, k2, k3, _, k4⟩⟩
    · omega
    · omega
    have hA : A[o + j]? = some (.ptr L[j] 0) := by
      have : ((A.drop o).take (L.length * 1))[j]? = some (.ptr L[j] 0) := by rw [k4]; simp [hj]
      rw [List.getElem?_take_of_lt (by omega), List.getElem?_drop] at this
      exact this
    simp [hid, cellsAt, hm, e1, hj, blt_dec, k2, hA]
    exact H.hone _ (List.getElem_mem hj)
  · simp [hid]
    intro h; omega

def FoundP (v : V) : Prop := ∃ (x : Int) (t : Bool), v = .tup [.s (.int .i64 x), .s (.bool t)]
theorem ptr_nil (p : Nat) : binop CC .eql 121 true (.ptr p 0) (.s (.pointer none)) = some (.s (.bool false)) := by kernel_rfl
theorem nil_nil : binop CC .eql 121 true (.s (.pointer none)) (.s (.pointer none)) = some (.s (.bool true)) := by kernel_rfl
theorem find_ok {τ : Ty0} {h : Heap} {n p b : Nat} {sl : V} {k : List Int} (use : Bool) (I : TInv τ h n) (hp : τ p = some .one) (hbn : b < n) (hs : BytesAt h b sl k) (hk : k.length ≤ 4611686018427387904) :
    CallK CC 53 [.ptr p 0, sl, .s (.bool use)] h n fun v h' n' => Goes τ n [] h h' n' fun _ => FoundP v := by
  refine F53_call fun hlt => ?_
  rw [F53_eq]
  obtain ⟨hpn, kind, key, val, mx, by_, progs, hg, hby, k1, k2, k3, k4, k5, k6⟩ := I p _ hp
  have f0 : ∀ {v}, (∃ (x : Int) (t : Bool), v = V.tup [.s (.int .i64 x), .s (.bool t)]) → FoundP v := fun h => h
  have z : FoundP (.tup [.s (.int .i64 0), .s (.bool false)]) := ⟨_, _, rfl⟩
  by_cases hkey : (k.length : Int) = key
  · simp only [ptr_nil, oK_some]
    rcases hby with ⟨rfl, hpr⟩ | ⟨a, rfl, ha, h4⟩ | ⟨a, rfl, ha⟩ | ⟨a, rfl, ha⟩
    · simp [cellsAt, hg, hs.len, hkey, ta_na, ta_nl, ta_nk]
      exact Goes.tri I (Same.refl _ _ _) z
    · simp [cellsAt, hg, hs.len, hkey, ta_aa]
      refine CallK.monoN ?_ (number_ok hs (by omega))
      rintro _ h1 n1 ⟨⟨x, rfl⟩, rfl⟩ hn1
      refine CallK.monoN ?_ (arrayCell_ok (n := n1) (I.weaken hn1) ha x)
      rintro _ h1 n2 ⟨⟨y, t, rfl⟩, rfl⟩ hn2
      simp
      exact Goes.tri (I.weaken (by omega)) (Same.refl _ _ _) ⟨_, _, rfl⟩
    · simp [cellsAt, hg, hs.len, hkey, ta_ha, ta_hl, ta_hk, inv_hf]
      refine CallK.monoN ?_ (hashFind_ok I ha hbn hs hk)
      rintro _ h1 n1 ⟨⟨y, t, rfl⟩, hs1⟩ hn1
      simp
      exact Goes.tri (I.same hs1 hn1) hs1 ⟨_, _, rfl⟩
    · simp [cellsAt, hg, hs.len, hkey, ta_la, ta_ll]
      cases use with
      | false =>
        simp
        refine CallK.monoN ?_ (lruPeek_ok I ha hbn hs)
        rintro _ h1 n1 ⟨⟨y, t, rfl⟩, hs1⟩ hn1
        simp
        exact Goes.tri (I.same hs1 hn1) hs1 ⟨_, _, rfl⟩
      | true =>
        simp [ta_lk, inv_lf]
        refine CallK.monoN ?_ (lruFind_ok I ha hbn hs)
        rintro _ h1 n1 ⟨τ1, I1, K1, y, t, rfl⟩ hn1
        simp
        exact ⟨τ1, I1, K1, _, _, rfl⟩
  · simp [hs.len, cellsAt, hg, hkey]
    exact Goes.tri I (Same.refl _ _ _) z
theorem findN_ok {h : Heap} {n : Nat} (sl use : V) : CallK CC 53 [.s (.pointer none), sl, use] h n fun v h' n' => FoundP v ∧ h' = h := by
  refine F53_call fun hlt => ?_
  rw [F53_eq]
  simp
  exact ⟨_, _, rfl⟩

theorem growM_ok {sz bytes m0 n b len : Nat} {h : Heap} {cs new : List V} {v x : V} (hz : sz ≠ 0) (hG : GrowM h m0 b v sz len cs) (hx : Row h sz 1 new x) (hb : b = m0 ∨ b < n) (hm0 : m0 < n) (hbd : (2 * (len + 1) + 192) * bytes ≤ 281474976710656) {K : V → Heap → Nat → Prop}
    (hK : ∀ v' b' h' n', (b' = n ∨ (b' = b ∧ b ≠ m0)) → b' < n' → n ≤ n' → GrowM h' m0 b' v' sz (len + 1) (cs ++ new) → (∀ x, (x ≠ b ∨ b = m0) → x ≠ n → h'.get x = h.get x) → K v' h' n') : appendWK sz bytes h n v x K := by
  rcases hG with ⟨rfl, rfl, rfl, rfl⟩ | ⟨h1, h2, h3⟩
  · refine append_nil hz hx (by omega) (by omega) fun h' g1 g2 => ?_
    have hl := hx.length
    refine hK _ n h' (n + 1) (.inl rfl) (by omega) (by omega) (.inr ⟨by omega, by simp, .inr ⟨0, 1, true, new, by simp, by omega, g1, by omega, fun _ => by omega, ?_⟩⟩) fun x _ hn => g2 x hn
    simp only [List.drop_zero, List.nil_append, Nat.zero_add]
    rw [← hl]
    exact List.take_of_length_le (Nat.le_refl _)
  · have hbn : b < n := by rcases hb with h | h; exact absurd h h1; exact h
    refine grow_ok hz h3 hx hbn hbd ?_
    intro v' a' h' n' ha' han hn hG' hs'
    refine hK v' a' h' n' ?_ han hn (.inr ⟨?_, ?_, hG'⟩) fun x hx hn' => hs' x (by rcases hx with h | h; exact h; exact absurd h h1) hn'
    · rcases ha' with rfl | rfl
      · exact .inr ⟨rfl, h1⟩
      · exact .inl rfl
    · rcases ha' with rfl | rfl
      · exact h1
      · omega
    · rintro rfl
      rcases hG' with ⟨_, h0, _⟩ | ⟨o, c, op, A, h0, _⟩
      · omega
      · cases h0
/-- What is done with maps: they are maps still. -/
def MapsGo (τ : Ty0) (n m c M lb eb : Nat) (pot : Int) (ne : Nat) (h h' : Heap) (n' : Nat) : Prop := ∃ τ' lb' eb' L' last' now' lv' ev' ne', TInv τ' h' n' ∧ Keep τ τ' n [m, c, lb, eb] h h' ∧ MapsAt τ' h' n' m c M lb' eb' L' last' now' lv' ev' ne' ∧
  (lb' = lb ∨ n ≤ lb') ∧ (eb' = eb ∨ n ≤ eb') ∧ last' + 64 * (8 - (L'.length : Nat)) ≤ pot ∧ ne' ≤ ne
theorem MapsGo.after {τ τ1 : Ty0} {n n1 n' m c M lb eb lb1 eb1 ne : Nat} {pot : Int} {h h1 h' : Heap} (K : Keep τ τ1 n [m, c, lb, eb] h h1) (hn : n ≤ n1) (hl : lb1 = lb ∨ n ≤ lb1) (he : eb1 = eb ∨ n ≤ eb1) (G : MapsGo τ1 n1 m c M lb1 eb1 pot ne h1 h' n') : MapsGo τ n m c M lb eb pot ne h h' n' := by
  obtain ⟨τ', lb', eb', L', last', now', lv', ev', ne', g1, g2, g3, g4, g5, g6, g7⟩ := G
  refine ⟨τ', lb', eb', L', last', now', lv', ev', ne', g1, K.trans hn g2 (by simp) ?_, g3, by omega, by omega, g6, g7⟩
  intro x hx
  simp at hx ⊢
  omega
theorem MapsGo.pre {τ τ1 : Ty0} {n n1 n' m c M lb eb ne : Nat} {pot : Int} {h h1 h' : Heap} (K : Keep τ τ1 n [] h h1) (hn : n ≤ n1) (G : MapsGo τ1 n1 m c M lb eb pot ne h1 h' n') : MapsGo τ n m c M lb eb pot ne h h' n' :=
  MapsGo.after (K.sub (by simp)) hn (.inl rfl) (.inl rfl) G
theorem MapsGo.stay {τ τ' : Ty0} {n n' m c M lb eb ne ne' : Nat} {L : List Nat} {last now pot : Int} {lv ev : V} {h h' : Heap} (I : TInv τ' h' n') (hn : n ≤ n') (H : MapsAt τ h n m c M lb eb L last now lv ev ne) (K : Keep τ τ' n [] h h') (hp : last + 64 * (8 - (L.length : Nat)) ≤ pot) (he : ne ≤ ne') : MapsGo τ n m c M lb eb pot ne' h h' n' :=
  ⟨τ', lb, eb, L, last, now, lv, ev, ne, I, K.sub (by simp), H.keep hn K, .inl rfl, .inl rfl, hp, he⟩
theorem fill_ev (a b c d e : V) : fillA 5 ((zr CC 136).rep 1) [(0, .agg (.lst [a, b, c, d, e]))] = some (.lst [a, b, c, d, e]) := by kernel_rfl
theorem note_ok {τ : Ty0} {h : Heap} {n m c M lb eb ne : Nat} {L : List Nat} {last now : Int} {lv ev : V} (I : TInv τ h n) (H : MapsAt τ h n m c M lb eb L last now lv ev ne) (hne : ne ≤ 2400000000000) (x1 x2 x3 x4 : Int) {kv : V} (hkv : V.cells kv = some (.one kv)) :
    CallK CC 55 [.ptr m 0, .agg (.lst [.s (.int .i64 x1), .s (.int .i64 x2), .s (.int .i64 x3), .s (.int .i64 x4), kv])] h n fun v h' n' => MapsGo τ n m c M lb eb (last + 64 * (8 - (L.length : Nat))) (ne + 1) h h' n' := by
  refine F55_call fun hlt => ?_
  rw [F55_eq]
  have hm := H.hm
  have hmn := H.mn
  have hf := fill_ev (.s (.int .i64 x1)) (.s (.int .i64 x2)) (.s (.int .i64 x3)) (.s (.int .i64 x4)) kv
  simp [cellsAt, Tree.get_set, show ¬ m = n by omega, hm, ble_dec, H.norm.2.1, hf]
  generalize hh : Tree.set (Tree.set h n _) (n + 1 + 6) _ = h1
  have g1 : h1.get (n + 1 + 6) = some (.cells (.lst [.s (.int .i64 x1), .s (.int .i64 x2), .s (.int .i64 x3), .s (.int .i64 x4), kv]) 5) := by rw [← hh, Tree.get_set, if_pos rfl]
  have hs1 : Same n [] h h1 := fun x hx _ => by rw [← hh, Tree.get_set, if_neg (by omega), Tree.get_set, if_neg (by omega)]
  obtain ⟨es, hev⟩ := H.hev
  have hev1 : GrowM h1 m eb ev 5 ne es := hev.of fun hb => by
    rcases H.ebo with h | ⟨h, _⟩
    · exact absurd h hb
    · exact hs1 eb h (by simp)
  refine growM_ok (by omega) hev1 (.row (A := [.s (.int .i64 x1), .s (.int .i64 x2), .s (.int .i64 x3), .s (.int .i64 x4), kv]) (es := 5) (by simp only [cellsAt, g1]) rfl rfl) (by rcases H.ebo with h | ⟨h, _⟩; exact .inl h; exact .inr (by omega)) (by omega) (by omega) ?_
  intro v' b' h2 n2 hb' hbn hn2 hG hs2
  have tb' : τ b' = none ∧ b' ≠ c ∧ b' ≠ m ∧ (b' = eb ∨ n ≤ b') ∧ b' < n2 := by
    have := H.cn
    rcases hb' with rfl | ⟨rfl, hb'⟩
    · exact ⟨I.none (by omega), by omega, by omega, .inr (by omega), hbn⟩
    · rcases H.ebo with h | ⟨h3, h4, h5⟩
      · exact absurd h hb'
      · exact ⟨h4, h5, hb', .inl rfl, hbn⟩
  obtain ⟨t1, t2, t3, t4, t5⟩ := tb'
  have hcell : V.cells v' = some (.one v') := by
    rcases hG with ⟨rfl, _⟩ | ⟨_, _, ⟨rfl, _⟩ | ⟨o, k, op, A, rfl, _⟩⟩ <;> rfl
  have em : ∀ x, x < n → (x ≠ eb ∨ eb = m) → h2.get x = h.get x := fun x hx hxe => by rw [hs2 x hxe (by omega), hs1 x hx (by simp)]
  have gm : h2.get m = some (.cells (.lst [.ptr c 0, lv, .s (.int .i64 now), ev]) 4) := by rw [em m hmn (by omega), hm]
  simp [hcell, gm, storeCells, cellsOwn, Rope.put, ble_dec]
  generalize hh3 : Tree.set h2 m _ = h3
  have gm3 : h3.get m = some (.cells (.lst [.ptr c 0, lv, .s (.int .i64 now), v']) 4) := by rw [← hh3, Tree.get_set, if_pos rfl]
  have e3 : ∀ x, x ≠ m → h3.get x = h2.get x := fun x hx => by rw [← hh3, Tree.get_set, if_neg hx]
  have mc := H.mc
  have cn := H.cn
  have teb : ∀ x, τ x ≠ none → x ≠ eb ∨ eb = m := fun x hx => by
    rcases H.ebo with h | ⟨_, h4, _⟩
    · exact .inr h
    · exact .inl (by rintro rfl; exact hx h4)
  refine ⟨τ, lb, b', L, last, now, lv, v', ne + 1, ?_, ⟨.refl _, fun _ _ e => .inl e, ?_⟩, ⟨gm3, ?_, H.hM, ?_, H.hone, ⟨_, hG.of fun hb => e3 b' hb⟩, H.tm, H.tc, by omega, by omega, mc, ?_, .inr ⟨t5, t1, t2⟩, ?_, H.l8, H.la0⟩, .inl rfl, t4, Int.le_refl _, Nat.le_refl _⟩
  · exact I.of (by omega) fun x hx hxt => by rw [e3 x (by rintro rfl; exact hxt H.tm), em x hx (teb x hxt)]
  · intro x hx hxt hxf
    simp at hxf
    rw [e3 x hxf.1, em x hx (.inl hxf.2.2.2)]
  · refine H.hc.of ?_
    rw [e3 c (Ne.symm mc), em c cn ?_]
    rcases H.ebo with h | ⟨_, _, h⟩
    · exact .inr h
    · exact .inl (Ne.symm h)
  · refine H.hL.of fun hb => ?_
    rcases H.lbo with h | ⟨h3', h4', h5'⟩
    · exact absurd h hb
    · rw [e3 lb hb, em lb h3' ?_]
      by_cases he : eb = m
      · exact .inr he
      · exact .inl fun e => hb (H.leb e)
  · rcases H.lbo with h | ⟨h3', h4', h5'⟩
    · exact .inl h
    · exact .inr ⟨by omega, h4', h5'⟩
  · intro e
    rcases H.lbo with h | ⟨h3', h4', h5'⟩
    · exact h
    · rcases hb' with rfl | ⟨rfl, hb'⟩
      · omega
      · exact H.leb e

theorem bclone_ok {b : Nat} {sl : V} {l : List Int} {h : Heap} {n : Nat} (hb : b < n) (hs : BytesAt h b sl l) (hl : l.length ≤ 140737488355000) :
    CallK CC 84 [sl] h n fun v h' n' => V.cells v = some (.one v) ∧ vcl v = some [v] ∧ normV v = v ∧ Same n [] h h' := by
  refine F84_call fun hlt => ?_
  rw [F84_eq]
  rcases hs with ⟨rfl, h2, h3⟩ | ⟨o, c, op, A, es, rfl, h2, h3, h4⟩
  · simp
    exact Same.refl _ _ _
  · have hs : BytesAt (h.set n (.cells (.lst []) 1)) b (.slice b o l.length c op) l := SliceAt.of (.inr ⟨o, c, op, A, es, rfl, h2, h3, h4⟩) (by rw [Tree.get_set, if_neg (by omega)])
    simp
    by_cases hm : l.length = 0
    · have : l = [] := List.length_eq_zero_iff.1 hm
      subst this
      refine append_none (cs := []) (by simpa [bytesV'] using hs.row) (by rw [Tree.get_set, if_pos rfl]) (Nat.le_refl _) fun h' he => ?_
      exact ⟨rfl, rfl, rfl, fun b' hb' _ => by rw [he, Tree.get_set, if_neg (by omega)]⟩
    · refine append_new (cs := bytesV' l) (old := []) (by omega) hs.row (.row (A := []) (es := 1) (by simp [cellsAt, Tree.get_set]) rfl rfl) (by omega) (by omega) fun h' h5 h6 => ?_
      exact ⟨rfl, rfl, rfl, fun b' hb' _ => by rw [h6 b' (by omega), Tree.get_set, if_neg (by omega)]⟩
theorem bound_ok {τ : Ty0} {h : Heap} {n m c M lb eb ne b : Nat} {L : List Nat} {last now : Int} {lv ev sl : V} {k : List Int} (I : TInv τ h n) (H : MapsAt τ h n m c M lb eb L last now lv ev ne) (hne : ne ≤ 2400000000000) (id : Int) (hb : b < n) (hs : BytesAt h b sl k) (hk : k.length ≤ 140737488355000) :
    CallK CC 59 [.ptr m 0, .s (.int .i64 id), sl] h n fun v h' n' => MapsGo τ n m c M lb eb (last + 64 * (8 - (L.length : Nat))) (ne + 1) h h' n' := by
  refine F59_call fun hlt => ?_
  rw [F59_eq]
  refine CallK.monoN ?_ (bclone_ok hb hs hk)
  rintro v h1 n1 ⟨e1, e2, e3, hs1⟩ hn1
  have K1 : Keep τ τ n [] h h1 := Keep.of_same hs1
  simp [e2]
  refine CallK.monoN ?_ (note_ok (I.same hs1 hn1) (H.keep hn1 K1) hne 1 id 0 0 e1)
  intro _ h2 n2 G hn2
  exact G.pre K1 hn1
/-- An argument's block: not the maps'. -/
structure ArgB (τ : Ty0) (n m c lb eb b : Nat) : Prop where
  bn : b < n
  bt : τ b = none
  bm : b ≠ m
  bc : b ≠ c
  bl : b ≠ lb
  be : b ≠ eb
theorem ArgB.keep {τ τ' : Ty0} {n n' m c lb eb lb' eb' b : Nat} {h h' : Heap} (A : ArgB τ n m c lb eb b) (hn : n ≤ n') (K : Keep τ τ' n [m, c, lb, eb] h h') (hl : lb' = lb ∨ n ≤ lb') (he : eb' = eb ∨ n ≤ eb') : ArgB τ' n' m c lb' eb' b ∧ h'.get b = h.get b := by
  obtain ⟨a1, a2, a3, a4, a5, a6⟩ := A
  exact ⟨⟨by omega, K.none a1 a2, a3, a4, by omega, by omega⟩, K.same b a1 a2 (by simp; omega)⟩
/-- Making, in all maps. -/
theorem MapsAt.made {τ τ1 : Ty0} {h h1 : Heap} {n n1 m c M lb eb ne : Nat} {L : List Nat} {last now : Int} {lv ev : V} (H : MapsAt τ h n m c M lb eb L last now lv ev ne) (hn : n ≤ n1) {la2 : Int} (K : Keep τ τ1 n [c] h h1) (hc : CellsAt h1 c M la2) (h02 : 0 ≤ la2) : MapsAt τ1 h1 n1 m c M lb eb L la2 now lv ev ne := by
  have g : ∀ x, x < n → τ x = none → x ≠ c → h1.get x = h.get x := fun x hx ht hxc => K.same x hx ht (by simpa using hxc)
  refine ⟨by rw [g m H.mn H.tm H.mc]; exact H.hm, hc, K.ext _ _ H.hM, H.hL.of ?_, fun p hp => K.ext _ _ (H.hone p hp), ?_, K.none H.mn H.tm, K.none H.cn H.tc, by have := H.mn; omega, by have := H.cn; omega, H.mc, ?_, ?_, H.leb, H.l8, h02⟩
  · intro hb
    rcases H.lbo with h1 | ⟨h1, h2, h3⟩
    · exact absurd h1 hb
    · exact g lb h1 h2 h3
  · obtain ⟨es, he⟩ := H.hev
    refine ⟨es, he.of ?_⟩
    intro hb
    rcases H.ebo with h1 | ⟨h1, h2, h3⟩
    · exact absurd h1 hb
    · exact g eb h1 h2 h3
  · rcases H.lbo with h1 | ⟨h1, h2, h3⟩
    · exact .inl h1
    · exact .inr ⟨by omega, K.none h1 h2, h3⟩
  · rcases H.ebo with h1 | ⟨h1, h2, h3⟩
    · exact .inl h1
    · exact .inr ⟨by omega, K.none h1 h2, h3⟩
theorem lay_ok' {τ : Ty0} {h : Heap} {n m c M lb eb ne kb vb : Nat} {L : List Nat} {last now : Int} {lv ev ks vs : V} {k v : List Int} (I : TInv τ h n) (H : MapsAt τ h n m c M lb eb L last now lv ev ne) (hne : ne + 1 ≤ 2400000000000) (hla : last ≤ 4611686018427380000) (id : Int) (hid : 1 ≤ id ∧ id ≤ (L.length : Nat))
    (ka : ArgB τ n m c lb eb kb) (hks : BytesAt h kb ks k) (hk : k.length ≤ 140737488355000) (va : ArgB τ n m c lb eb vb) (hvs : BytesAt h vb vs v) (hvc : CapOk vs) (hv1 : 1 ≤ v.length) (hv : v.length ≤ 140737488355000) :
    CallK CC 57 [.ptr m 0, .s (.int .i64 id), ks, vs] h n fun _ h' n' => MapsGo τ n m c M lb eb (last + 64 * (8 - (L.length : Nat)) + 1) (ne + 2) h h' n' := by
  refine F57_call fun hlt => ?_
  rw [F57_eq]
  refine CallK.monoN ?_ (at_ok H id)
  rintro _ h1 n1 ⟨⟨rfl, hn⟩ | ⟨p, ⟨rfl, _⟩, hp⟩, rfl⟩ hn1
  · exact absurd hid hn
  have I1 := I.weaken hn1
  have H1 := H.keep hn1 (Keep.refl τ n [] h1)
  have hm := H.hm
  have cn := H.cn
  obtain ⟨hpn, kind, key, val, mx, by_, progs, hg, hby, q1, q2, q3, q4, q5, q6⟩ := I p _ hp
  -- made, put, noted
  have makes : CallK CC 76 [.ptr c 0, vs] h1 n1 fun r h' n' => Goes τ n1 [c] h1 h' n' fun τ' => r = .s (.int .i64 (last + 1)) ∧ CellsAt h' c M (last + 1) ∧ Same n1 [c, M] h1 h' :=
    make_ok I1 (by omega) H.tc H.hM H.hc H.la0 (by omega) (by have := va.bn; omega) va.bc hvs hvc hv1 hv
  rcases hby with ⟨rfl, hpr⟩ | ⟨a, rfl, ha, h4⟩ | ⟨a, rfl, ha⟩ | ⟨a, rfl, ha⟩
  · simp [cellsAt, hg, ta_nh, ta_nl]
    refine CallK.monoN ?_ (bound_ok I1 H1 (by omega) id (by have := ka.bn; omega) hks hk)
    rintro _ h2 n2 ⟨τ', lb', eb', L', last', now', lv', ev', ne', g1, g2, g3, g4, g5, g6, g7⟩ hn2
    exact MapsGo.pre (Keep.refl τ n [] h1) hn1 ⟨τ', lb', eb', L', last', now', lv', ev', ne', g1, g2, g3, g4, g5, by omega, by omega⟩
  · simp [cellsAt, hg, ta_ah, ta_al]
    refine CallK.monoN ?_ (bound_ok I1 H1 (by omega) id (by have := ka.bn; omega) hks hk)
    rintro _ h2 n2 ⟨τ', lb', eb', L', last', now', lv', ev', ne', g1, g2, g3, g4, g5, g6, g7⟩ hn2
    exact MapsGo.pre (Keep.refl τ n [] h1) hn1 ⟨τ', lb', eb', L', last', now', lv', ev', ne', g1, g2, g3, g4, g5, by omega, by omega⟩
  · simp [cellsAt, hg, ta_hh, hm]
    refine CallK.monoN ?_ makes
    rintro _ h2 n2 ⟨τ2, I2, K2, rfl, c2, sm2⟩ hn2
    have H2 := H1.made hn2 K2 c2 (by have := H1.la0; omega)
    have tkb : τ2 kb = none := K2.none (by have := ka.bn; omega) ka.bt
    have gkb : h2.get kb = h1.get kb := K2.same kb (by have := ka.bn; omega) ka.bt (by simpa using ka.bc)
    refine CallK.monoN ?_ (hashPut_ok (last + 1) I2 (K2.ext _ _ ha) (by have := ka.bn; omega) tkb (hks.of gkb) (by omega))
    intro _ h3 n3 st3 hn3
    have H3 := H2.keep hn3 st3.2
    refine CallK.monoN ?_ (bound_ok st3.1 H3 (by omega) id (by have := ka.bn; omega) ((hks.of gkb).of (st3.2.same kb (by have := ka.bn; omega) tkb (by simp))) hk)
    rintro _ h4 n4 ⟨τ', lb', eb', L', last', now', lv', ev', ne', g1, g2, g3, g4, g5, g6, g7⟩ hn4
    refine MapsGo.after (K2.sub (by simp)) (by omega) (.inl rfl) (.inl rfl) (MapsGo.pre st3.2 hn3 ⟨τ', lb', eb', L', last', now', lv', ev', ne', g1, g2, g3, g4, g5, by omega, by omega⟩) |> fun G => MapsGo.pre (Keep.refl τ n [] h1) hn1 G
  · simp [cellsAt, hg, ta_lh, ta_ll, hm]
    refine CallK.monoN ?_ makes
    rintro _ h2 n2 ⟨τ2, I2, K2, rfl, c2, sm2⟩ hn2
    have H2 := H1.made hn2 K2 c2 (by have := H1.la0; omega)
    have kbn := ka.bn
    have tkb : τ2 kb = none := K2.none (by omega) ka.bt
    have gkb : h2.get kb = h1.get kb := K2.same kb (by omega) ka.bt (by simpa using ka.bc)
    refine CallK.monoN ?_ (lruPut_ok (last + 1) I2 (K2.ext _ _ ha) (by omega) tkb (hks.of gkb))
    rintro _ h3 n3 ⟨τ3, I3, K3, g, x, e, rfl, hg3⟩ hn3
    have H3 := H2.keep hn3 K3
    have gkb3 : h3.get kb = h2.get kb := K3.same kb (by omega) tkb (by simp)
    have tkb3 : τ3 kb = none := K3.none (by omega) tkb
    have hm3 := H3.hm
    by_cases hx : 0 < x
    · rcases hg3 with rfl | ⟨ga, gl, a1, a2, a3, a4, a5⟩
      · omega
      simp [hx, hm3]
      refine CallK.monoN ?_ (drop_ok I3 H3.hM H3.hc x)
      intro _ h4 n4 st4 hn4
      have H4 := H3.keep hn4 st4.2
      refine CallK.monoN ?_ (bound_ok st4.1 H4 (by omega) id (by omega) (a4.of (st4.2.same ga (by omega) a3 (by simp))) (by omega))
      rintro _ h5 n5 ⟨τ5, lb5, eb5, L5, last5, now5, lv5, ev5, ne5, g1, g2, g3, g4, g5, g6, g7⟩ hn5
      have tkb4 : τ3 kb = none := tkb3
      have kbb : kb ∉ [m, c, lb, eb] := by have := ka.bm; have := ka.bc; have := ka.bl; have := ka.be; simp; omega
      have gkb5 : h5.get kb = h4.get kb := g2.same kb (by omega) tkb4 kbb
      refine CallK.monoN ?_ (bound_ok g1 g3 (by omega) id (by omega) ((((hks.of gkb).of gkb3).of (st4.2.same kb (by omega) tkb3 (by simp))).of gkb5) hk)
      rintro _ h6 n6 ⟨τ', lb', eb', L', last', now', lv', ev', ne', f1, f2, f3, f4, f5, f6, f7⟩ hn6
      refine MapsGo.pre (Keep.refl τ n [] h1) hn1 (MapsGo.after (K2.sub (by simp)) (by omega) (.inl rfl) (.inl rfl) (MapsGo.pre K3 hn3 (MapsGo.pre st4.2 hn4 (MapsGo.after g2 hn5 g4 g5 ⟨τ', lb', eb', L', last', now', lv', ev', ne', f1, f2, f3, f4, f5, by omega, by omega⟩))))
    · simp [hx]
      refine CallK.monoN ?_ (bound_ok I3 H3 (by omega) id (by omega) ((hks.of gkb).of gkb3) hk)
      rintro _ h4 n4 ⟨τ', lb', eb', L', last', now', lv', ev', ne', g1, g2, g3, g4, g5, g6, g7⟩ hn4
      exact MapsGo.pre (Keep.refl τ n [] h1) hn1 (MapsGo.after (K2.sub (by simp)) (by omega) (.inl rfl) (.inl rfl) (MapsGo.pre K3 hn3 ⟨τ', lb', eb', L', last', now', lv', ev', ne', g1, g2, g3, g4, g5, by omega, by omega⟩))

theorem by_nn : binop CC .eql 20 true (.s .nilIface) (.s .nilIface) = some (.s (.bool true)) := by kernel_rfl
theorem by_an (a : Nat) : binop CC .eql 20 true (.iface 125 (.ptr a 0)) (.s .nilIface) = some (.s (.bool false)) := by kernel_rfl
theorem by_hn (a : Nat) : binop CC .eql 20 true (.iface 127 (.ptr a 0)) (.s .nilIface) = some (.s (.bool false)) := by kernel_rfl
theorem by_ln (a : Nat) : binop CC .eql 20 true (.iface 129 (.ptr a 0)) (.s .nilIface) = some (.s (.bool false)) := by kernel_rfl
theorem by_nn' : binop CC .neq 20 true (.s .nilIface) (.s .nilIface) = some (.s (.bool false)) := by kernel_rfl
theorem by_an' (a : Nat) : binop CC .neq 20 true (.iface 125 (.ptr a 0)) (.s .nilIface) = some (.s (.bool true)) := by kernel_rfl
theorem by_hn' (a : Nat) : binop CC .neq 20 true (.iface 127 (.ptr a 0)) (.s .nilIface) = some (.s (.bool true)) := by kernel_rfl
theorem by_ln' (a : Nat) : binop CC .neq 20 true (.iface 129 (.ptr a 0)) (.s .nilIface) = some (.s (.bool true)) := by kernel_rfl
def IntP (v : V) : Prop := ∃ x : Int, v = .s (.int .i64 x)
theorem update_ok' {τ : Ty0} {h : Heap} {n m c M lb eb ne kb vb : Nat} {L : List Nat} {last now : Int} {lv ev ks vs : V} {k v : List Int} (I : TInv τ h n) (H : MapsAt τ h n m c M lb eb L last now lv ev ne) (hne : ne + 1 ≤ 2400000000000) (hla : last ≤ 4611686018427380000) (id : Int)
    (ka : ArgB τ n m c lb eb kb) (hks : BytesAt h kb ks k) (hk : k.length ≤ 140737488355000) (va : ArgB τ n m c lb eb vb) (hvs : BytesAt h vb vs v) (hvc : CapOk vs) (hv : v.length ≤ 140737488355000) :
    CallK CC 28 [.ptr m 0, .s (.int .i64 id), ks, vs] h n fun r h' n' => IntP r ∧ MapsGo τ n m c M lb eb (last + 64 * (8 - (L.length : Nat)) + 1) (ne + 2) h h' n' := by
  refine F28_call fun hlt => ?_
  rw [F28_eq]
  refine CallK.monoN ?_ (at_ok H id)
  rintro _ h1 n1 ⟨⟨rfl, hn⟩ | ⟨p, ⟨rfl, hid⟩, hp⟩, rfl⟩ hn1
  · simp
    exact ⟨⟨_, rfl⟩, MapsGo.stay (I.weaken hn1) hn1 H (Keep.refl _ _ _ _) (by omega) (by omega)⟩
  have I1 := I.weaken hn1
  have H1 := H.keep hn1 (Keep.refl τ n [] h1)
  have hm := H.hm
  have kbn := ka.bn
  have vbn := va.bn
  have quit : ∀ τ2 h2 n2 e, n1 ≤ n2 → TInv τ2 h2 n2 → Keep τ τ2 n1 [] h1 h2 → IntP (.s (.int .i64 e)) ∧ MapsGo τ n m c M lb eb (last + 64 * (8 - (L.length : Nat)) + 1) (ne + 2) h1 h2 n2 := fun τ2 h2 n2 e hn2 I2 K2 =>
    ⟨⟨_, rfl⟩, MapsGo.pre (Keep.refl τ n [] h1) hn1 (MapsGo.stay I2 hn2 H1 K2 (by omega) (by omega))⟩
  obtain ⟨hpn, kind, key, val, mx, by_, progs, hg, hby, q1, q2, q3, q4, q5, q6⟩ := I p _ hp
  by_cases hkey : (k.length : Int) = key
  · by_cases hval : (v.length : Int) = val
    · have hv1 : 1 ≤ v.length := by omega
      -- behind the look for the key
      rcases hby with ⟨rfl, hpr⟩ | ⟨a, rfl, ha, h4⟩ | ⟨a, rfl, ha⟩ | ⟨a, rfl, ha⟩
      · simp [cellsAt, hg, by_nn]
        exact quit τ h1 n1 _ (Nat.le_refl _) I1 (Keep.refl _ _ _ _)
      all_goals
        simp [cellsAt, hg, hks.len, hvs.len, hkey, hval]
        refine CallK.monoN ?_ (find_ok true I1 hp (by omega) hks (by omega))
        rintro _ h2 n2 ⟨τ2, I2, K2, x, t, rfl⟩ hn2
        have H2 := H1.keep hn2 K2
        have hm2 := H2.hm
        have tkb : τ2 kb = none := K2.none (by omega) ka.bt
        have tvb : τ2 vb = none := K2.none (by omega) va.bt
        have hvs2 := hvs.of (K2.same vb (by omega) va.bt (by simp))
        have hks2 := hks.of (K2.same kb (by omega) ka.bt (by simp))
        have hp2 := K2.ext _ _ hp
        cases t with
        | true =>
          simp [hm2]
          have I2' := I2.weaken (show n2 ≤ n2 + 11 by omega)
          have H2' := H2.keep (show n2 ≤ n2 + 11 by omega) (Keep.refl τ2 n2 [] h2)
          refine CallK.monoN ?_ (write_ok I2' H2'.cn H2'.hM H2'.hc x now hvs2)
          intro _ h3 n3 st3 hn3
          have H3 := H2'.keep hn3 st3.2
          refine CallK.monoN ?_ (note_ok st3.1 H3 (by omega) 2 0 0 x (kv := .s (.slice none 0 0)) rfl)
          rintro _ h4 n4 ⟨τ', lb', eb', L', last', now', lv', ev', ne', g1, g2, g3, g4, g5, g6, g7⟩ hn4
          exact ⟨⟨_, rfl⟩, MapsGo.pre (Keep.refl τ n [] h1) hn1 (MapsGo.pre K2 hn2 (MapsGo.pre (Keep.refl τ2 n2 [] h2) (show n2 ≤ n2 + 11 by omega) (MapsGo.pre st3.2 hn3 ⟨τ', lb', eb', L', last', now', lv', ev', ne', g1, g2, g3, g4, g5, by omega, by omega⟩)))⟩
        | false =>
          simp
          obtain ⟨hpn2, kind2, key2, val2, mx2, by2, progs2, hg2, hby2, _⟩ := I2 p _ hp2
          have ka2 : ArgB τ2 n2 m c lb eb kb := ⟨by omega, tkb, ka.bm, ka.bc, ka.bl, ka.be⟩
          have va2 : ArgB τ2 n2 m c lb eb vb := ⟨by omega, tvb, va.bm, va.bc, va.bl, va.be⟩
          have lays : ∀ n3, n2 ≤ n3 → CallK CC 57 [.ptr m 0, .s (.int .i64 id), ks, vs] h2 n3 fun _ h' n' => IntP (.s (.int .i64 0)) ∧ MapsGo τ n m c M lb eb (last + 64 * (8 - (L.length : Nat)) + 1) (ne + 2) h1 h' n' := by
            intro n3 hn3
            refine CallK.monoN ?_ (lay_ok' (I2.weaken hn3) (H2.keep hn3 (Keep.refl _ _ _ _)) hne hla id hid ⟨by omega, tkb, ka.bm, ka.bc, ka.bl, ka.be⟩ hks2 hk ⟨by omega, tvb, va.bm, va.bc, va.bl, va.be⟩ hvs2 hvc hv1 hv)
            intro _ h3 n4 G hn4
            exact ⟨⟨_, rfl⟩, MapsGo.pre (Keep.refl τ n [] h1) hn1 (MapsGo.pre K2 hn2 (MapsGo.pre (Keep.refl τ2 n2 [] h2) hn3 G))⟩
          rcases hby2 with ⟨rfl, hpr2⟩ | ⟨a2, rfl, ha2, h42⟩ | ⟨a2, rfl, ha2⟩ | ⟨a2, rfl, ha2⟩
          · simp [hg2, ta_na, ta_nh]
            exact lays n2 (Nat.le_refl _)
          · simp [hg2, ta_aa]
            exact quit τ2 h2 n2 _ hn2 I2 K2
          · simp [hg2, ta_ha, ta_hh]
            refine CallK.monoN ?_ (hashLen_ok (n := n2 + 8) (I2.weaken (by omega)) ha2)
            rintro _ h3 n3 ⟨⟨y, rfl⟩, rfl⟩ hn3
            simp [hg2]
            split
            · exact quit τ2 h3 n3 _ (by omega) (I2.weaken (by omega)) K2
            · exact lays n3 (by omega)
          · simp [hg2, ta_la, ta_lh]
            exact lays n2 (Nat.le_refl _)
    · rcases hby with ⟨rfl, hpr⟩ | ⟨a, rfl, ha, h4⟩ | ⟨a, rfl, ha⟩ | ⟨a, rfl, ha⟩ <;>
        (simp [cellsAt, hg, by_nn, hks.len, hvs.len, hkey, hval]
         exact quit τ h1 n1 _ (Nat.le_refl _) I1 (Keep.refl _ _ _ _))
  · rcases hby with ⟨rfl, hpr⟩ | ⟨a, rfl, ha, h4⟩ | ⟨a, rfl, ha⟩ | ⟨a, rfl, ha⟩ <;>
      (simp [cellsAt, hg, by_nn, hks.len, hkey]
       exact quit τ h1 n1 _ (Nat.le_refl _) I1 (Keep.refl _ _ _ _))

theorem MapsGo.le {τ : Ty0} {n n' m c M lb eb ne ne2 : Nat} {pot pot2 : Int} {h h' : Heap} (G : MapsGo τ n m c M lb eb pot ne h h' n') (hp : pot ≤ pot2) (hn : ne ≤ ne2) : MapsGo τ n m c M lb eb pot2 ne2 h h' n' := by
  obtain ⟨τ', lb', eb', L', last', now', lv', ev', ne', g1, g2, g3, g4, g5, g6, g7⟩ := G
  exact ⟨τ', lb', eb', L', last', now', lv', ev', ne', g1, g2, g3, g4, g5, by omega, by omega⟩
theorem deleteM_ok {τ : Ty0} {h : Heap} {n m c M lb eb ne kb : Nat} {L : List Nat} {last now : Int} {lv ev ks : V} {k : List Int} (I : TInv τ h n) (H : MapsAt τ h n m c M lb eb L last now lv ev ne) (hne : ne + 1 ≤ 2400000000000) (id : Int)
    (ka : ArgB τ n m c lb eb kb) (hks : BytesAt h kb ks k) (hk : k.length ≤ 140737488355000) :
    CallK CC 29 [.ptr m 0, .s (.int .i64 id), ks] h n fun r h' n' => IntP r ∧ MapsGo τ n m c M lb eb (last + 64 * (8 - (L.length : Nat)) + 1) (ne + 2) h h' n' := by
  refine F29_call fun hlt => ?_
  rw [F29_eq]
  refine CallK.monoN ?_ (at_ok H id)
  rintro _ h1 n1 ⟨⟨rfl, hn⟩ | ⟨p, ⟨rfl, hid⟩, hp⟩, rfl⟩ hn1
  · simp
    exact ⟨⟨_, rfl⟩, MapsGo.stay (I.weaken hn1) hn1 H (Keep.refl _ _ _ _) (by omega) (by omega)⟩
  have I1 := I.weaken hn1
  have H1 := H.keep hn1 (Keep.refl τ n [] h1)
  have kbn := ka.bn
  have quit : ∀ τ2 h2 n2 e, n1 ≤ n2 → TInv τ2 h2 n2 → Keep τ τ2 n1 [] h1 h2 → IntP (.s (.int .i64 e)) ∧ MapsGo τ n m c M lb eb (last + 64 * (8 - (L.length : Nat)) + 1) (ne + 2) h1 h2 n2 := fun τ2 h2 n2 e hn2 I2 K2 =>
    ⟨⟨_, rfl⟩, MapsGo.pre (Keep.refl τ n [] h1) hn1 (MapsGo.stay I2 hn2 H1 K2 (by omega) (by omega))⟩
  obtain ⟨hpn, kind, key, val, mx, by_, progs, hg, hby, q1, q2, q3, q4, q5, q6⟩ := I p _ hp
  have rest : ∀ τ2 h2 n2 x, n1 ≤ n2 → TInv τ2 h2 n2 → Keep τ τ2 n1 [] h1 h2 → CallK CC 58 [.ptr c 0, .s (.int .i64 x)] h2 n2 fun _ h3 n3 => CallK CC 59 [.ptr m 0, .s (.int .i64 id), ks] h3 n3 fun _ h' n' => IntP (.s (.int .i64 0)) ∧ MapsGo τ n m c M lb eb (last + 64 * (8 - (L.length : Nat)) + 1) (ne + 2) h1 h' n' := by
    intro τ2 h2 n2 x hn2 I2 K2
    have H2 := H1.keep hn2 K2
    have tkb : τ2 kb = none := K2.none (by omega) ka.bt
    refine CallK.monoN ?_ (drop_ok I2 H2.hM H2.hc x)
    intro _ h3 n3 st3 hn3
    have H3 := H2.keep hn3 st3.2
    refine CallK.monoN ?_ (bound_ok st3.1 H3 (by omega) id (by omega) ((hks.of (K2.same kb (by omega) ka.bt (by simp))).of (st3.2.same kb (by omega) tkb (by simp))) hk)
    intro _ h4 n4 G hn4
    exact ⟨⟨_, rfl⟩, MapsGo.pre (Keep.refl τ n [] h1) hn1 (MapsGo.pre K2 hn2 (MapsGo.pre st3.2 hn3 (G.le (by omega) (by omega))))⟩
  rcases hby with ⟨rfl, hpr⟩ | ⟨a, rfl, ha, h4⟩ | ⟨a, rfl, ha⟩ | ⟨a, rfl, ha⟩
  · simp [cellsAt, hg, ta_nk]
    exact quit τ h1 n1 _ (Nat.le_refl _) I1 (Keep.refl _ _ _ _)
  · simp [cellsAt, hg, ta_ak]
    exact quit τ h1 n1 _ (Nat.le_refl _) I1 (Keep.refl _ _ _ _)
  · by_cases hkey : (k.length : Int) = key
    · simp [cellsAt, hg, ta_hk, hks.len, hkey, inv_hd]
      refine CallK.monoN ?_ (hashDel_ok I1 ha (by omega) hks (by omega))
      rintro _ h2 n2 ⟨⟨x, t, rfl⟩, st2⟩ hn2
      cases t with
      | false => simp; exact quit τ h2 n2 _ hn2 st2.1 st2.2
      | true =>
        have hm2 := (H1.keep hn2 st2.2).hm
        simp [hm2]
        exact rest τ h2 n2 x hn2 st2.1 st2.2
    · simp [cellsAt, hg, ta_hk, hks.len, hkey]
      exact quit τ h1 n1 _ (Nat.le_refl _) I1 (Keep.refl _ _ _ _)
  · by_cases hkey : (k.length : Int) = key
    · simp [cellsAt, hg, ta_lk, hks.len, hkey, inv_ld]
      refine CallK.monoN ?_ (lruDel_ok I1 ha (by omega) hks)
      rintro _ h2 n2 ⟨τ2, I2, K2, x, t, rfl⟩ hn2
      cases t with
      | false => simp; exact quit τ2 h2 n2 _ hn2 I2 K2
      | true =>
        have hm2 := (H1.keep hn2 K2).hm
        simp [hm2]
        exact rest τ2 h2 n2 x hn2 I2 K2
    · simp [cellsAt, hg, ta_lk, hks.len, hkey]
      exact quit τ h1 n1 _ (Nat.le_refl _) I1 (Keep.refl _ _ _ _)
theorem setProg_ok {τ : Ty0} {h : Heap} {n m c M lb eb ne : Nat} {L : List Nat} {last now : Int} {lv ev : V} (I : TInv τ h n) (H : MapsAt τ h n m c M lb eb L last now lv ev ne) (hne : ne + 1 ≤ 2400000000000) (id ix prog : Int) :
    CallK CC 30 [.ptr m 0, .s (.int .i64 id), .s (.int .i64 ix), .s (.int .i64 prog)] h n fun r h' n' => IntP r ∧ MapsGo τ n m c M lb eb (last + 64 * (8 - (L.length : Nat)) + 1) (ne + 2) h h' n' := by
  refine F30_call fun hlt => ?_
  rw [F30_eq]
  refine CallK.monoN ?_ (at_ok H id)
  rintro _ h1 n1 ⟨⟨rfl, hn⟩ | ⟨p, ⟨rfl, hid⟩, hp⟩, rfl⟩ hn1
  · simp
    exact ⟨⟨_, rfl⟩, MapsGo.stay (I.weaken hn1) hn1 H (Keep.refl _ _ _ _) (by omega) (by omega)⟩
  have quit : ∀ n2 e, n1 ≤ n2 → IntP (.s (.int .i64 e)) ∧ MapsGo τ n m c M lb eb (last + 64 * (8 - (L.length : Nat)) + 1) (ne + 2) h1 h1 n2 := fun n2 e hn2 =>
    ⟨⟨_, rfl⟩, MapsGo.stay (I.weaken (by omega)) (by omega) H (Keep.refl _ _ _ _) (by omega) (by omega)⟩
  obtain ⟨hpn, kind, key, val, mx, by_, progs, hg, hby, q1, q2, q3, q4, q5, q6⟩ := I p _ hp
  rcases hby with ⟨rfl, hpr⟩ | ⟨a, rfl, ha, h4⟩ | ⟨a, rfl, ha⟩ | ⟨a, rfl, ha⟩
  · obtain ⟨d, o, cp, op, lo, hi, rfl, hd, b1, b2, b3⟩ := hpr
    have e1 : wrapF .i64 (mx - 1) = mx - 1 := wrapF_i64 (by omega) (by omega)
    simp [cellsAt, hg, by_nn', e1]
    refine CallK.monoN ?_ (within_ok _ _ _ _ _)
    rintro _ h2 n2 ⟨rfl, rfl⟩ hn2
    by_cases hix : 0 ≤ ix ∧ ix ≤ mx - 1
    · by_cases hpg : prog < 0
      · simp [hix, hpg]
        exact quit n2 _ hn2
      · obtain ⟨i, rfl⟩ : ∃ i : Nat, ix = i := ⟨ix.toNat, by omega⟩
        obtain ⟨hdn, A, es, hgd, hA, hi2⟩ := I d _ hd
        have e6 : storeCells h2 d (o + i) (.one (.s (.int .i64 prog))) = some (h2.set d (.cells (.lst (splice A (o + i) [.s (.int .i64 prog)])) es)) := storeCells_lst hgd (by show o + i + 1 ≤ A.length; omega)
        have st := put_nums (h' := h2.set d (.cells (.lst (splice A (o + i) [.s (.int .i64 prog)])) es)) (I.weaken (show n ≤ n2 by omega)) (Nat.le_refl _) hd hA hi2 (o := o + i) (new := [.s (.int .i64 prog)]) (by omega) (by simp; omega) (by simp) (by rw [Tree.get_set, if_pos rfl]) (fun x hx => by rw [Tree.get_set, if_neg hx])
        simp [hix, hpg, hg, blt_dec, show (i : Int) < mx by omega, e6]
        refine CallK.monoN ?_ (note_ok st.1 ((H.keep (show n ≤ n2 by omega) (Keep.refl _ _ _ _)).keep (Nat.le_refl _) st.2) (by omega) 3 id i 0 (kv := .s (.slice none 0 0)) rfl)
        intro _ h4 n4 G hn4
        exact ⟨⟨_, rfl⟩, MapsGo.pre (Keep.refl τ n [] h2) (show n ≤ n2 by omega) (MapsGo.pre st.2 (Nat.le_refl _) (G.le (by omega) (by omega)))⟩
    · simp [hix]
      exact quit n2 _ hn2
  · simp [cellsAt, hg]
    exact quit n1 _ (Nat.le_refl _)
  · simp [cellsAt, hg]
    exact quit n1 _ (Nat.le_refl _)
  · simp [cellsAt, hg]
    exact quit n1 _ (Nat.le_refl _)
theorem storeM_ok {τ : Ty0} {h : Heap} {n m c M lb eb ne : Nat} {L : List Nat} {last now : Int} {lv ev : V} (I : TInv τ h n) (H : MapsAt τ h n m c M lb eb L last now lv ev ne) (hne : ne + 1 ≤ 2400000000000) (cell off size v : Int) :
    CallK CC 31 [.ptr m 0, .s (.int .i64 cell), .s (.int .i64 off), .s (.int .i64 size), .s (.int .u64 v)] h n fun r h' n' => (∃ b, r = .s (.bool b)) ∧ MapsGo τ n m c M lb eb (last + 64 * (8 - (L.length : Nat)) + 1) (ne + 2) h h' n' := by
  refine F31_call fun hlt => ?_
  rw [F31_eq]
  have hm := H.hm
  simp [cellsAt, hm]
  have I1 := I.weaken (show n ≤ n + 14 by omega)
  have H1 := H.keep (show n ≤ n + 14 by omega) (Keep.refl τ n [] h)
  refine CallK.monoN ?_ (storeC_ok I1 H1.hM H1.hc H1.cn cell off size v now)
  rintro _ h2 n2 ⟨⟨b, rfl⟩, st⟩ hn2
  have H2 := H1.keep hn2 st.2
  cases b with
  | false =>
    simp
    exact MapsGo.pre (Keep.refl τ n [] h) (show n ≤ n + 14 by omega) (MapsGo.stay st.1 hn2 H1 st.2 (by omega) (by omega))
  | true =>
    simp
    refine CallK.monoN ?_ (note_ok st.1 H2 (by omega) 2 0 0 cell (kv := .s (.slice none 0 0)) rfl)
    intro _ h4 n4 G hn4
    exact MapsGo.pre (Keep.refl τ n [] h) (show n ≤ n + 14 by omega) (MapsGo.pre st.2 hn2 (G.le (by omega) (by omega)))
theorem tick_ok {τ : Ty0} {h : Heap} {n m c M lb eb ne : Nat} {L : List Nat} {last now : Int} {lv ev : V} (I : TInv τ h n) (H : MapsAt τ h n m c M lb eb L last now lv ev ne) (x : Int) :
    CallK CC 32 [.ptr m 0, .s (.int .i64 x)] h n fun r h' n' => MapsGo τ n m c M lb eb (last + 64 * (8 - (L.length : Nat)) + 1) (ne + 2) h h' n' := by
  refine F32_call fun hlt => ?_
  rw [F32_eq]
  have hm := H.hm
  simp [cellsAt, hm, storeCells, cellsOwn, Rope.put, ble_dec]
  generalize hh : Tree.set h m _ = h1
  generalize hw : wrapF .i64 _ = w at hh
  have gm : h1.get m = some (.cells (.lst [.ptr c 0, lv, .s (.int .i64 w), ev]) 4) := by rw [← hh, Tree.get_set, if_pos rfl]
  have e1 : ∀ x, x ≠ m → h1.get x = h.get x := fun x hx => by rw [← hh, Tree.get_set, if_neg hx]
  obtain ⟨es, he⟩ := H.hev
  refine ⟨τ, lb, eb, L, last, w, lv, ev, ne, I.of (Nat.le_refl _) fun x _ ht => e1 x (by rintro rfl; exact ht H.tm), ⟨.refl _, fun _ _ e => .inl e, fun x _ _ hf => e1 x (by simp at hf; exact hf.1)⟩,
    ⟨gm, H.hc.of (e1 c (Ne.symm H.mc)), H.hM, H.hL.of fun hb => e1 lb hb, H.hone, ⟨es, he.of fun hb => e1 eb hb⟩, H.tm, H.tc, H.mn, H.cn, H.mc, H.lbo, H.ebo, H.leb, H.l8, H.la0⟩, .inl rfl, .inl rfl, by omega, by omega⟩
theorem sweepM_ok {τ : Ty0} {h : Heap} {n m c M lb eb ne : Nat} {L : List Nat} {last now : Int} {lv ev : V} (I : TInv τ h n) (H : MapsAt τ h n m c M lb eb L last now lv ev ne) (hla : last ≤ 8796093022208) :
    CallK CC 33 [.ptr m 0] h n fun r h' n' => IntP r ∧ MapsGo τ n m c M lb eb (last + 64 * (8 - (L.length : Nat)) + 1) (ne + 2) h h' n' := by
  refine F33_call fun hlt => ?_
  rw [F33_eq]
  have hm := H.hm
  simp [cellsAt, hm]
  refine CallK.monoN ?_ (sweepC_ok I H.hM H.tc H.cn H.hc H.la0 hla)
  rintro _ h2 n2 ⟨⟨x, rfl⟩, st⟩ hn2
  exact ⟨⟨_, rfl⟩, MapsGo.stay st.1 hn2 H st.2 (by omega) (by omega)⟩
theorem findM_ok' {τ : Ty0} {h : Heap} {n m c M lb eb ne kb : Nat} {L : List Nat} {last now : Int} {lv ev ks : V} {k : List Int} (I : TInv τ h n) (H : MapsAt τ h n m c M lb eb L last now lv ev ne) (id : Int)
    (kbn : kb < n) (hks : BytesAt h kb ks k) (hk : k.length ≤ 140737488355000) :
    CallK CC 26 [.ptr m 0, .s (.int .i64 id), ks] h n fun r h' n' => FoundP r ∧ MapsGo τ n m c M lb eb (last + 64 * (8 - (L.length : Nat)) + 1) (ne + 2) h h' n' := by
  refine F26_call fun hlt => ?_
  rw [F26_eq]
  refine CallK.monoN ?_ (at_ok H id)
  rintro _ h1 n1 ⟨⟨rfl, hn⟩ | ⟨p, ⟨rfl, hid⟩, hp⟩, rfl⟩ hn1
  · refine CallK.monoN ?_ (findN_ok _ _)
    rintro _ h2 n2 ⟨⟨x, t, rfl⟩, rfl⟩ hn2
    simp
    exact ⟨⟨_, _, rfl⟩, MapsGo.stay (I.weaken (by omega)) (by omega) H (Keep.refl _ _ _ _) (by omega) (by omega)⟩
  · refine CallK.monoN ?_ (find_ok true (I.weaken hn1) hp (by omega) hks (by omega))
    rintro _ h2 n2 ⟨τ2, I2, K2, x, t, rfl⟩ hn2
    simp
    exact ⟨⟨_, _, rfl⟩, MapsGo.pre (Keep.refl τ n [] h1) hn1 (MapsGo.stay I2 hn2 (H.keep hn1 (Keep.refl _ _ _ _)) K2 (by omega) (by omega))⟩
theorem peekM_ok' {τ : Ty0} {h : Heap} {n m c M lb eb ne kb : Nat} {L : List Nat} {last now : Int} {lv ev ks : V} {k : List Int} (I : TInv τ h n) (H : MapsAt τ h n m c M lb eb L last now lv ev ne) (id : Int)
    (kbn : kb < n) (hks : BytesAt h kb ks k) (hk : k.length ≤ 140737488355000) :
    CallK CC 27 [.ptr m 0, .s (.int .i64 id), ks] h n fun r h' n' => FoundP r ∧ MapsGo τ n m c M lb eb (last + 64 * (8 - (L.length : Nat)) + 1) (ne + 2) h h' n' := by
  refine F27_call fun hlt => ?_
  rw [F27_eq]
  refine CallK.monoN ?_ (at_ok H id)
  rintro _ h1 n1 ⟨⟨rfl, hn⟩ | ⟨p, ⟨rfl, hid⟩, hp⟩, rfl⟩ hn1
  · refine CallK.monoN ?_ (findN_ok _ _)
    rintro _ h2 n2 ⟨⟨x, t, rfl⟩, rfl⟩ hn2
    simp
    exact ⟨⟨_, _, rfl⟩, MapsGo.stay (I.weaken (by omega)) (by omega) H (Keep.refl _ _ _ _) (by omega) (by omega)⟩
  · refine CallK.monoN ?_ (find_ok false (I.weaken hn1) hp (by omega) hks (by omega))
    rintro _ h2 n2 ⟨τ2, I2, K2, x, t, rfl⟩ hn2
    simp
    exact ⟨⟨_, _, rfl⟩, MapsGo.pre (Keep.refl τ n [] h1) hn1 (MapsGo.stay I2 hn2 (H.keep hn1 (Keep.refl _ _ _ _)) K2 (by omega) (by omega))⟩
end Go.Ev
