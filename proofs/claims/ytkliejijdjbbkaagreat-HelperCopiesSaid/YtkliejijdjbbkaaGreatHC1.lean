import Derived.Test.YtkliejijdjbbkaaGreatRH
namespace Go.Ev
set_option maxRecDepth 20000

theorem CallK.monoN {C : Ctx} {f : FuncId} {args : List V} {h : Heap} {n : Nat} {K K' : V → Heap → Nat → Prop} (hm : ∀ v h' n', K v h' n' → n ≤ n' → K' v h' n') (hk : CallK C f args h n K) : CallK C f args h n K' :=
  CallK.hkeep hk fun _ v h' n' k hn hok => ⟨h', fun b o hb => ⟨o, hb, hok b o hb⟩, hm v h' n' k hn⟩
/-- What changed between two memories: new blocks, and blocks of a list. -/
def Same (n : Nat) (fp : List Nat) (h h' : Heap) : Prop := ∀ b, b < n → b ∉ fp → h'.get b = h.get b
theorem Same.refl (n : Nat) (fp : List Nat) (h : Heap) : Same n fp h h := fun _ _ _ => rfl
theorem Same.new (n : Nat) (fp : List Nat) (h : Heap) (o : O) : Same n fp h (h.set n o) := fun b hb _ => by rw [Tree.get_set, if_neg (by omega)]
theorem Same.trans {n n' : Nat} {fp fp' : List Nat} {h h' h'' : Heap} (a : Same n fp h h') (hn : n ≤ n') (b : Same n' fp' h' h'') : Same n (fp ++ fp') h h'' := by
  intro x hx hm
  simp at hm
  rw [b x (by omega) hm.2, a x hx hm.1]
def FrameAt (h : Heap) (f : Nat) (fr : Frame) : Prop := h.get f = some (.cells (.lst fr.l) 804) ∧ fr.Ok
def BytesAt (h : Heap) (b : Nat) (v : V) (l : List Int) : Prop := SliceAt h b v 1 l.length (bytesV' l)
theorem bytes_take (l : List Int) : (bytesV' l).take l.length = bytesV' l := List.take_of_length_le (by simp)
theorem BytesAt.of {h h' : Heap} {b : Nat} {v : V} {l : List Int} (H : BytesAt h b v l) (e : h'.get b = h.get b) : BytesAt h' b v l := SliceAt.of H e
theorem BytesAt.len {h : Heap} {b : Nat} {v : V} {l : List Int} (H : BytesAt h b v l) (h' : Heap) : lenV CC h' 22 v = some (.s (.int .i64 l.length)) := by
  rcases H with ⟨rfl, h2, _⟩ | ⟨o, c, op, A, es, rfl, _⟩
  · have : l = [] := List.length_eq_zero_iff.1 h2
    subst this; simp
  · simp
theorem BytesAt.ix {h : Heap} {b : Nat} {v : V} {l : List Int} (H : BytesAt h b v l) {i : Nat} (hi : i < l.length) : ∃ p, indexAddr CC 22 v (.s (.int .i64 i)) = some (.ptr b p) ∧ (cellsAt h b).bind (fun c => c.1.get p) = some (.s (.int .u8 l[i])) := by
  rcases H with ⟨rfl, h2, _⟩ | ⟨o, c, op, A, es, rfl, h2, h3, h4⟩
  · omega
  · refine ⟨o + i, by simp [asNat_int, blt_dec, hi], ?_⟩
    rw [h2]
    simp
    have : ((A.drop o).take (l.length * 1))[i]? = (bytesV' l)[i]? := by rw [h3]
    rw [List.getElem?_take, if_pos (by omega), List.getElem?_drop] at this
    rw [this]
    simp [bytesV', hi]

theorem place_ok (i k : Nat) (hi : i ≤ 64) (hk : k < 8) (x : Int) (hx : x = (8 * i + k : Nat) - 512) (h : Heap) (n : Nat) : CallK CC 110 [.s (.int .i64 x)] h n fun v h' n' => v = .tup [.s (.int .i64 i), .s (.int .i64 k)] ∧ h' = h ∧ n' = n := by
  refine F110_call fun hlt => ?_
  rw [F110_eq]
  have e1 : wrapF .i64 (x + 512) = (8 * i + k : Nat) := by rw [wrapF_i64 (by omega) (by omega)]; omega
  have e2 : wrapF .i64 (((8 * i + k : Nat) : Int).tdiv 8) = (i : Int) := by
    rw [show ((8 * i + k : Nat) : Int).tdiv 8 = ((8 * i + k) / 8 : Nat) from rfl, wrapF_i64 (by omega) (by omega)]; omega
  have e3 : ((8 * i + k : Nat) : Int).tmod 8 = (k : Int) := by
    rw [show ((8 * i + k : Nat) : Int).tmod 8 = ((8 * i + k) % 8 : Nat) from rfl]; omega
  simp only [bin_add, oK_some, e1]
  rw [bin_quo _ _ _ _ (by decide), bin_rem _ _ _ _ (by decide)]
  simp only [oK_some, e2, e3, and_self]

theorem on_ok (off m : Int) (h1 : -9223372036854775808 ≤ off) (h2 : off ≤ 9223372036854775807) (h : Heap) (n : Nat) : CallK CC 75 [.s (.int .i64 off), .s (.int .i64 m)] h n fun v h' n' =>
    v = .s (.bool (decide (-512 ≤ off ∧ off ≤ 0 ∧ 0 ≤ m ∧ m ≤ -off))) ∧ h' = h ∧ n' = n := by
  refine F75_call fun hlt => ?_
  rw [F75_eq]
  by_cases a1 : -512 ≤ off
  · by_cases a2 : off ≤ 0
    · by_cases a3 : 0 ≤ m
      · have e : wrapF .i64 (-off) = -off := wrapF_i64 (by omega) (by omega)
        simp [a1, a2, a3, e]
      · simp [a1, a2, a3]
    · simp [a1, a2]
  · simp [a1]

/-- A byte laid on the stack. -/
def layS (s : Slot) : Slot := if s.val.kind = 0 then s else .zero
def layB (fr : Frame) (p : Nat) (c : Int) : Frame :=
  fr.setS (p / 8) { layS (fr.slot (p / 8)) with bytes := (layS (fr.slot (p / 8))).bytes.set (p % 8) c, init := bitsI .or .u8 (layS (fr.slot (p / 8))).init (shlI .u8 1 (p % 8 : Nat)) }
def layM (fr : Frame) (p : Nat) : List Int → Frame
  | [] => fr
  | c :: l => layM (layB fr p c) (p + 1) l
theorem layS8 {fr : Frame} (h : fr.Ok) (i : Nat) : (layS (fr.slot i)).bytes.length = 8 := by
  unfold layS
  split
  · exact h.slot8 i
  · rfl
theorem layB_ok {fr : Frame} (h : fr.Ok) (p : Nat) (c : Int) : (layB fr p c).Ok := h.setS _ (by simp [layS8 h])
theorem layM_ok : ∀ {l : List Int} {fr : Frame} {p : Nat}, fr.Ok → (layM fr p l).Ok
  | [], _, _, h => h
  | c :: l, fr, p, h => layM_ok (l := l) (layB_ok h p c)
theorem layM_append : ∀ (l m : List Int) (fr : Frame) (p : Nat), layM fr p (l ++ m) = layM (layM fr p l) (p + l.length) m
  | [], m, fr, p => rfl
  | c :: l, m, fr, p => by
    have := layM_append l m (layB fr p c) (p + 1)
    simp only [List.cons_append, layM, this, List.length_cons]
    rw [show p + 1 + l.length = p + (l.length + 1) by omega]

theorem lay_loop {f b : Nat} {sl : V} {l : List Int} {p : Nat} {fr : Frame} {x : Int} (hx : x = (p : Int) - 512) (hp : p + l.length ≤ 512) {Q : X → St → Prop} {n0 : Nat} {h0 : Heap} (hbf : b ≠ f) (hb : b < n0) (hf : f < n0) (hs : BytesAt h0 b sl l)
    (hQ : ∀ t13 h n s, F76_L100 (.ptr f 0) (.s (.int .i64 x)) sl (.s (.int .i64 l.length)) t13 h n s → n0 ≤ n → FrameAt h f (layM fr p l) → Same n0 [f] h0 h → Q (.exit 0) s) :
    ∀ m s, (∃ i h n, m = l.length - i ∧ i ≤ l.length ∧ F76_L100 (.ptr f 0) (.s (.int .i64 x)) sl (.s (.int .i64 l.length)) (.s (.int .i64 i)) h n s ∧ n0 ≤ n ∧ FrameAt h f (layM fr p (l.take i)) ∧ Same n0 [f] h0 h) →
      LoopK CC none (subC [1, 0, 0] (bodyOf Go.Proofs.Tryz.f76)) s Q := by
  refine loopH CCok _ ?_
  rintro m s ⟨i, h, n, hm, hi, hs', hn, hF, hsame⟩ hlt
  obtain ⟨g, rfl⟩ := hs'
  rw [F76_b100]
  replace hlt : ∀ b o, h.get b = some o → b < n := hlt
  by_cases hi' : i < l.length
  · have hi'' : (i : Int) < (l.length : Int) := by omega
    have hs1 := hs.of (hsame b hb (by simp [hbf]))
    obtain ⟨q, q1, q2⟩ := hs1.ix hi'
    have e1 : wrapF .i64 (x + (i : Int)) = x + i := wrapF_i64 (by omega) (by omega)
    simp [hi', q1, q2, e1]
    have hk : (p + i) % 8 < 8 := Nat.mod_lt _ (by decide)
    refine CallK.monoN ?_ (place_ok ((p + i) / 8) ((p + i) % 8) (by omega) hk (x + i) (by omega) h n)
    rintro v h' n' ⟨rfl, rfl, rfl⟩ hn'
    have hI : (p + i) / 8 < 64 := by omega
    generalize hI' : (p + i) / 8 = I at hI
    generalize hK' : (p + i) % 8 = k at hk
    have hok := hF.2
    have c1 := Frame.slotK hok hI
    have ei : wrapF .i64 ((i : Int) + 1) = ((i + 1 : Nat) : Int) := by rw [wrapF_i64 (by omega) (by omega)]; rfl
    have hk0 : (0 : Int) ≤ (k : Int) := by omega
    have b1 : 36 + I * 12 + 3 + k + 1 ≤ 804 := by omega
    have b2 : 36 + I * 12 + 11 + 1 ≤ 804 := by omega
    have b3 : 36 + I * 12 + 12 ≤ 804 := by omega
    have hnext : layM fr p (l.take (i + 1)) = layB (layM fr p (l.take i)) (p + i) l[i] := by
      rw [List.take_succ_eq_append_getElem hi', layM_append]
      simp [layM, Nat.min_eq_left hi]
    simp [cellsAt, hF.1, asNat_int, blt_dec, hI, hok.length, c1]
    by_cases hz : ((layM fr p (l.take i)).slot I).val.kind = 0
    · have hok1 := hok.setS I (s := { (layM fr p (l.take i)).slot I with bytes := ((layM fr p (l.take i)).slot I).bytes.set k l[i] }) (by simp [hok.slot8])
      have c2 := Frame.slotSB hok hI hk l[i]
      have c3 := Frame.slotI hok1 hI
      have c4 := Frame.slotSI hok1 hI
      have c5 : ((layM fr p (l.take i)).setS I { (layM fr p (l.take i)).slot I with bytes := ((layM fr p (l.take i)).slot I).bytes.set k l[i] }).slot I = { (layM fr p (l.take i)).slot I with bytes := ((layM fr p (l.take i)).slot I).bytes.set k l[i] } := by
        rw [Frame.slot_setS _ _ _ (by rw [hok.stack]; exact hI), if_pos rfl]
      rw [c5] at c3 c4
      simp [hz, hk, storeCells, cellsOwn, hF.1, put_one, put_lst, ble_dec, hok.length, hok1.length, b1, b2, c2, c3, c4, bin_shl _ _ _ _ _ hk0, Tree.get_set]
      refine ⟨l.length - (i + 1), _, by omega, fun hok b o hb => ⟨o, hb, hok b o hb⟩, i + 1, rfl, by omega, _, n' + 10, by rw [ei]; exact F76_L100_of, by omega, ⟨?_, ?_⟩, ?_⟩
      · rw [Tree.get_set, if_pos rfl, hnext, layB, hI', hK']
        simp only [layS, hz, if_true]
        congr 3
        simp [Frame.setS]
      · rw [hnext]; exact layB_ok hok _ _
      · intro b' hb' hn'
        simp at hn'
        rw [Tree.get_set, if_neg hn', Tree.get_set, if_neg hn', hsame b' hb' (by simp [hn'])]
    · have hok0 := hok.setS I (s := .zero) rfl
      have z : splice (layM fr p (l.take i)).l (36 + I * 12) [.s (.int .i64 0), .s (.int .u64 0), .s (.int .i64 0), .s (.int .u8 0), .s (.int .u8 0), .s (.int .u8 0), .s (.int .u8 0), .s (.int .u8 0), .s (.int .u8 0), .s (.int .u8 0), .s (.int .u8 0), .s (.int .u8 0)] = ((layM fr p (l.take i)).setS I .zero).l := Frame.slotSW hok hI .zero rfl
      have c0 : ((layM fr p (l.take i)).setS I .zero).slot I = .zero := by rw [Frame.slot_setS _ _ _ (by rw [hok.stack]; exact hI), if_pos rfl]
      have hok1 := hok0.setS I (s := { Slot.zero with bytes := Slot.zero.bytes.set k l[i] }) (by simp [Slot.zero])
      have c2 := Frame.slotSB hok0 hI hk l[i]
      rw [c0] at c2
      have c3 := Frame.slotI hok1 hI
      have c4 := Frame.slotSI hok1 hI
      have c5 : (((layM fr p (l.take i)).setS I .zero).setS I { Slot.zero with bytes := Slot.zero.bytes.set k l[i] }).slot I = { Slot.zero with bytes := Slot.zero.bytes.set k l[i] } := by
        rw [Frame.slot_setS _ _ _ (by rw [hok0.stack]; exact hI), if_pos rfl]
      rw [c5] at c3 c4
      simp [hz, hk, storeCells, cellsOwn, hF.1, put_one, put_lst, ble_dec, hok.length, hok0.length, hok1.length, b1, b2, b3, z, c2, c3, c4, bin_shl _ _ _ _ _ hk0, Tree.get_set]
      refine ⟨l.length - (i + 1), _, by omega, fun hok b o hb => ⟨o, hb, hok b o hb⟩, i + 1, rfl, by omega, _, n' + 10, by rw [ei]; exact F76_L100_of, by omega, ⟨?_, ?_⟩, ?_⟩
      · rw [Tree.get_set, if_pos rfl, hnext, layB, hI', hK']
        simp only [layS, hz, if_false]
        congr 3
        simp [Frame.setS]
      · rw [hnext]; exact layB_ok hok _ _
      · intro b' hb' hn'
        simp at hn'
        simp only [Tree.get_set, if_neg hn']
        rw [hsame b' hb' (by simp [hn'])]
  · have : i = l.length := by omega
    subst this
    simp [roundQ]
    refine hQ _ h n _ F76_L100_of hn ?_ hsame
    simpa using hF

theorem lay_ok {f b : Nat} {sl : V} {l : List Int} {p : Nat} {fr : Frame} {x : Int} (hx : x = (p : Int) - 512) (hp : p + l.length ≤ 512) {h : Heap} {n : Nat} (hbf : b ≠ f) (hb : b < n) (hF : FrameAt h f fr) (hs : BytesAt h b sl l) :
    CallK CC 76 [.ptr f 0, .s (.int .i64 x), sl] h n fun v h' n' => FrameAt h' f (layM fr p l) ∧ Same n [f] h h' := by
  refine F76_call fun hlt => ?_
  rw [F76_eq]
  simp [hs.len]
  refine lay_loop (f := f) (b := b) (l := l) (p := p) (fr := fr) hx hp (n0 := n) (h0 := h) hbf hb (hlt f _ hF.1) hs ?_ _ _ ⟨0, h, n, rfl, by omega, F76_L100_of, Nat.le_refl _, by simpa [layM] using hF, fun _ _ _ => rfl⟩
  rintro t13 h' n' s ⟨g, rfl⟩ hn hF' hs'
  rw [F76_r100_0]
  exact ⟨hF', hs'⟩

theorem fill_ok {f b : Nat} {sl : V} {l : List Int} {fr : Frame} (x : Int) (h1 : -9223372036854775808 ≤ x) (h2 : x ≤ 9223372036854775807) {h : Heap} {n : Nat} (hbf : b ≠ f) (hb : b < n) (hF : FrameAt h f fr) (hs : BytesAt h b sl l) :
    CallK CC 40 [.ptr f 0, .s (.int .i64 x), sl] h n fun v h' n' =>
      (l.length ≤ 64 ∧ -512 ≤ x ∧ x + l.length ≤ 0 → v = .s (.int .i64 0) ∧ FrameAt h' f (layM fr (x + 512).toNat l)) ∧ (¬ (l.length ≤ 64 ∧ -512 ≤ x ∧ x + l.length ≤ 0) → v = .s (.int .i64 22) ∧ FrameAt h' f fr) ∧ Same n [f] h h' := by
  refine F40_call fun hlt => ?_
  rw [F40_eq]
  by_cases hl : l.length ≤ 64
  · have hl' : ¬ (64 : Int) < l.length := by omega
    simp [hs.len, hl']
    refine CallK.monoN ?_ (on_ok x l.length h1 h2 h n)
    rintro v h' n' ⟨rfl, rfl, rfl⟩ _
    by_cases hc : -512 ≤ x ∧ x + l.length ≤ 0
    · have hc' : -512 ≤ x ∧ x ≤ 0 ∧ (0 : Int) ≤ l.length ∧ (l.length : Int) ≤ -x := by omega
      simp [hs.len, hl', hc']
      refine CallK.monoN ?_ (lay_ok (f := f) (b := b) (l := l) (p := (x + 512).toNat) (fr := fr) (by omega) (by omega) hbf hb hF hs)
      rintro v h' n' ⟨hF', hs'⟩ _
      exact ⟨fun _ _ => hF', by omega, hs'⟩
    · have hc' : ¬ (-512 ≤ x ∧ x ≤ 0 ∧ (0 : Int) ≤ l.length ∧ (l.length : Int) ≤ -x) := by omega
      have hc'' : decide (-512 ≤ x ∧ x ≤ 0 ∧ (0 : Int) ≤ l.length ∧ (l.length : Int) ≤ -x) = false := decide_eq_false hc'
      rw [hc'']
      simp [hs.len, hl']
      exact ⟨fun _ _ => by omega, fun _ => hF, fun _ _ _ => rfl⟩
  · have hl' : (64 : Int) < l.length := by omega
    simp [hs.len, hl', hl]
    exact ⟨hF, fun _ _ _ => rfl⟩

theorem sized_ok (x : Int) (h : Heap) (n : Nat) : CallK CC 77 [.s (.int .i64 x)] h n fun v h' n' => v = .s (.bool (decide (x = 1 ∨ x = 2 ∨ x = 4 ∨ x = 8))) ∧ h' = h ∧ n' = n := by
  refine F77_call fun hlt => ?_
  rw [F77_eq]
  by_cases a1 : x = 1
  · simp [a1]
  · by_cases a2 : x = 2
    · simp [a2]
    · by_cases a3 : x = 4
      · simp [a3]
      · by_cases a4 : x = 8 <;> simp [a1, a2, a3, a4]

theorem BytesAt.row {h : Heap} {b : Nat} {v : V} {l : List Int} (H : BytesAt h b v l) : Row h 1 l.length (bytesV' l) v := SliceAt.row H
/-- slices.Clone of bytes. -/
theorem clone_ok {b : Nat} {sl : V} {l : List Int} {h : Heap} {n : Nat} (hb : b < n) (hs : BytesAt h b sl l) (hl : l.length ≤ 140737488355000) :
    CallK CC 74 [sl] h n fun v h' n' => (∃ a, (sl = .s (.slice none 0 0) ∨ n ≤ a) ∧ a < n' ∧ BytesAt h' a v l) ∧ Same n [] h h' ∧ n ≤ n' := by
  refine F74_call fun hlt => ?_
  rw [F74_eq]
  rcases hs with ⟨rfl, h2, h3⟩ | ⟨o, c, op, A, es, rfl, h2, h3, h4⟩
  · have : l = [] := List.length_eq_zero_iff.1 h2
    subst this
    simp
    exact ⟨⟨b, hb, .inl ⟨rfl, rfl, rfl⟩⟩, fun _ _ _ => rfl⟩
  · have hs : BytesAt (h.set n (.cells (.lst []) 1)) b (.slice b o l.length c op) l := SliceAt.of (.inr ⟨o, c, op, A, es, rfl, h2, h3, h4⟩) (by rw [Tree.get_set, if_neg (by omega)])
    simp
    by_cases hm : l.length = 0
    · have : l = [] := List.length_eq_zero_iff.1 hm
      subst this
      refine append_none (cs := []) (by simpa [bytesV'] using hs.row) (by rw [Tree.get_set, if_pos rfl]) (Nat.le_refl _) fun h' he => ?_
      refine ⟨⟨n, Nat.le_refl _, by omega, .inr ⟨0, 0, false, [], 1, rfl, by simp [cellsAt, he, Tree.get_set], by simp [bytesV'], by simp [bytesV']⟩⟩, fun b' hb' _ => by rw [he, Tree.get_set, if_neg (by omega)], by omega⟩
    · refine append_new (cs := bytesV' l) (old := []) (by omega) hs.row (.row (A := []) (es := 1) (by simp [cellsAt, Tree.get_set]) rfl rfl) (by omega) (by omega) fun h' h5 h6 => ?_
      refine ⟨⟨n + 1, by omega, by omega, .inr ⟨0, 0 + l.length, true, bytesV' l, 1, by simp, by simp [cellsAt, h5], by simp [bytes_take], by simp⟩⟩, fun b' hb' _ => by rw [h6 b' (by omega), Tree.get_set, if_neg (by omega)], by omega⟩

/-! ### The stack, byte by byte -/
/-- The byte at a place; none: not written, or part of a pointer. -/
def rdB (fr : Frame) (p : Nat) : Option Int :=
  if (fr.slot (p / 8)).val.kind ≠ 0 ∨ bitsI .and .u8 (shrI .u8 (fr.slot (p / 8)).init (p % 8 : Nat)) 1 = 0 then none else some ((fr.slot (p / 8)).bytes[p % 8]?.getD 0)
def rdM (fr : Frame) (p : Nat) : Nat → Option (List Int)
  | 0 => some []
  | n + 1 => (rdB fr p).bind fun c => (rdM fr (p + 1) n).bind fun l => some (c :: l)
theorem rdM_length {fr : Frame} : ∀ {n p : Nat} {l : List Int}, rdM fr p n = some l → l.length = n
  | 0, p, l, h => by cases h; rfl
  | n + 1, p, l, h => by
    simp only [rdM] at h
    obtain ⟨c, h1, h⟩ := of_bind h
    obtain ⟨m, h2, h⟩ := of_bind h
    cases h
    simp [rdM_length h2]
theorem rdM_snoc {fr : Frame} : ∀ (n p : Nat), rdM fr p (n + 1) = (rdM fr p n).bind fun l => (rdB fr (p + n)).bind fun c => some (l ++ [c])
  | 0, p => by simp [rdM]
  | n + 1, p => by
    rw [rdM, rdM_snoc n (p + 1), rdM]
    cases rdB fr p with
    | none => rfl
    | some c =>
      simp only [Option.bind_some]
      cases rdM fr (p + 1) n with
      | none => rfl
      | some l =>
        simp only [Option.bind_some]
        rw [show p + 1 + n = p + (n + 1) by omega]
        cases rdB fr (p + (n + 1)) <;> rfl

theorem read_loop {f a0 : Nat} {N p : Nat} {fr : Frame} {x : Int} (hx : x = (p : Int) - 512) (hp : p + N ≤ 512) {Q : X → St → Prop} {n0 : Nat} {h0 : Heap} (hF : FrameAt h0 f fr) (hf : f < n0)
    (hQ0 : ∀ t8 t9 a l h n s, F90_L110100 (.ptr f 0) (.s (.int .i64 x)) (.s (.int .i64 N)) t8 t9 h n s → rdM fr p N = some l → n0 ≤ n → GrowAt h a t8 1 N (bytesV' l) → n0 ≤ a → a < n → Same n0 [] h0 h → Q (.exit 0) s)
    (hQ1 : ∀ h n (L : List V), rdM fr p N = none → Same n0 [] h0 h → L[6]? = some (.s (.slice none 0 0)) → L[7]? = some (.s (.int .i64 26)) → Q .ret ⟨mkTm L, h, n, []⟩) :
    ∀ m s, (∃ i h n t8 a l, m = N - i ∧ i ≤ N ∧ F90_L110100 (.ptr f 0) (.s (.int .i64 x)) (.s (.int .i64 N)) t8 (.s (.int .i64 (x + (i : Int)))) h n s ∧ n0 ≤ n ∧ rdM fr p i = some l ∧ GrowAt h a t8 1 i (bytesV' l) ∧ n0 ≤ a ∧ a < n ∧ Same n0 [] h0 h) →
      LoopK CC none (subC [1, 1, 0, 1, 0, 0] (bodyOf Go.Proofs.Tryz.f90)) s Q := by
  refine loopH CCok _ ?_
  rintro m s ⟨i, h, n, t8, a, l, hm, hi, hs', hn, hl, hG, ha0, han, hsame⟩ hlt
  obtain ⟨g, rfl⟩ := hs'
  rw [F90_b110100]
  replace hlt : ∀ b o, h.get b = some o → b < n := hlt
  have e0 : wrapF .i64 (x + (N : Int)) = x + N := wrapF_i64 (by omega) (by omega)
  by_cases hi' : i < N
  · have hi'' : x + (i : Int) < x + N := by omega
    simp [e0, hi']
    have hk : (p + i) % 8 < 8 := Nat.mod_lt _ (by decide)
    refine CallK.monoN ?_ (place_ok ((p + i) / 8) ((p + i) % 8) (by omega) hk (x + i) (by omega) h n)
    rintro v h' n' ⟨rfl, rfl, rfl⟩ hn'
    have hI : (p + i) / 8 < 64 := by omega
    have hB : rdB fr (p + i) = rdB fr (p + i) := rfl
    unfold rdB at hB
    generalize hI' : (p + i) / 8 = I at hI hB
    generalize hK' : (p + i) % 8 = k at hk hB
    have hok := hF.2
    have hF' : h'.get f = some (.cells (.lst fr.l) 804) := by rw [hsame f hf (by simp)]; exact hF.1
    have c1 := Frame.slotK hok hI
    have c2 := Frame.slotI hok hI
    have c3 := Frame.slotB hok hI hk
    have hk0 : (0 : Int) ≤ (k : Int) := by omega
    simp [cellsAt, hF', asNat_int, blt_dec, hI, hok.length, c1, c2, c3, hk, bin_shr _ _ _ _ _ hk0]
    have hnone : rdB fr (p + i) = none → rdM fr p N = none := by
      intro hb
      cases hr : rdM fr p N with
      | none => rfl
      | some r =>
        exfalso
        have : ∀ m p', rdB fr (p' + m) = none → ∀ N', m < N' → rdM fr p' N' = none := by
          intro m
          induction m with
          | zero =>
            intro p' hb N' hN
            cases N' with
            | zero => omega
            | succ N' => rw [rdM]; rw [Nat.add_zero] at hb; rw [hb]; rfl
          | succ m ih =>
            intro p' hb N' hN
            cases N' with
            | zero => omega
            | succ N' =>
              rw [rdM, ih (p' + 1) (by rw [show p' + 1 + m = p' + (m + 1) by omega]; exact hb) N' (by omega)]
              cases rdB fr p' <;> rfl
        rw [this i p hb N hi'] at hr; cases hr
    by_cases hz : (fr.slot I).val.kind = 0
    · by_cases hbit : bitsI .and .u8 (shrI .u8 (fr.slot I).init (k : Int)) 1 = 0
      · have hb : rdB fr (p + i) = none := by simp [rdB, hI', hK', hbit]
        simp [hz, cellsAt, hF', c2, bin_shr _ _ _ _ _ hk0, hbit, roundQ]
        exact hQ1 _ _ _ (hnone hb) hsame rfl rfl
      · have hb : rdB fr (p + i) = some ((fr.slot I).bytes[k]?.getD 0) := by simp [rdB, hI', hK', hbit, hz]
        have ei : wrapF .i64 (x + (i : Int) + 1) = x + ((i + 1 : Nat) : Int) := by rw [wrapF_i64 (by omega) (by omega)]; omega
        simp [hz, cellsAt, hF', c2, c3, bin_shr _ _ _ _ _ hk0, hbit, asNat_int, blt_dec, hk]
        have hGn : a ≠ n' := by omega
        refine grow_ok (m := 1) (new := bytesV' [(fr.slot I).bytes[k]?.getD 0]) (by omega) (hG.of (by rw [Tree.get_set, if_neg hGn])) (.row (A := bytesV' [(fr.slot I).bytes[k]?.getD 0]) (es := 1) (by simp [cellsAt, Tree.get_set, bytesV']) (by simp [bytesV']) (by simp)) (by omega) (by omega) ?_
        intro v' a' h2 n2 ha' han' hn2 hG2 hs2
        refine ⟨N - (i + 1), h2, by omega, fun hok b o hb => ⟨o, hb, hok b o hb⟩, i + 1, rfl, by omega, h2, n2, v', by rw [ei]; exact F90_L110100_of, by omega, a', l ++ [(fr.slot I).bytes[k]?.getD 0], ?_, ?_, by omega, by omega, ?_⟩
        · rw [rdM_snoc, hl, Option.bind_some, hb]; rfl
        · simpa [bytesV'] using hG2
        · intro b' hb' hn'
          rw [hs2 b' (by omega) (by omega), Tree.get_set, if_neg (by omega), hsame b' hb' hn']
    · have hb : rdB fr (p + i) = none := by simp [rdB, hI', hz]
      simp [hz, roundQ]
      exact hQ1 _ _ _ (hnone hb) hsame rfl rfl
  · have : i = N := by omega
    subst this
    simp [e0, roundQ]
    exact hQ0 _ _ a l h n _ F90_L110100_of hl hn hG ha0 han hsame

def ReadP (fr : Frame) (p N : Nat) (n : Nat) (h : Heap) (v : V) (h' : Heap) (n' : Nat) : Prop :=
  (∃ l a sl, rdM fr p N = some l ∧ v = .tup [sl, .s (.int .i64 0)] ∧ n ≤ a ∧ a < n' ∧ BytesAt h' a sl l ∧ Same n [] h h') ∨ (rdM fr p N = none ∧ v = .tup [.s (.slice none 0 0), .s (.int .i64 26)] ∧ Same n [] h h')
theorem read_ok {f N p : Nat} {fr : Frame} {x : Int} (hx : x = (p : Int) - 512) (hp : p + N ≤ 512) {h : Heap} {n : Nat} (hF : FrameAt h f fr) :
    CallK CC 90 [.ptr f 0, .s (.int .i64 x), .s (.int .i64 N)] h n (ReadP fr p N n h) := by
  refine F90_call fun hlt => ?_
  rw [F90_eq]
  have hfn := hlt f _ hF.1
  simp [asNat_int, ble_dec, blt_dec, show N ≤ 281474976710656 by omega, show N < 9223372036854775808 by omega, -List.reduceReplicate]
  refine read_loop (a0 := 0) (f := f) (N := N) (p := p) (fr := fr) hx hp (n0 := n) (h0 := h) hF hfn ?_ ?_ _ _ ⟨0, _, _, _, n, [], rfl, by omega, by simpa using F90_L110100_of, by omega, rfl, .inr ⟨0, N, false, List.replicate N (.s (.int .u8 0)), rfl, by omega, by rw [Tree.get_set, if_pos rfl], by simp, by simp, by simp [bytesV']⟩, Nat.le_refl _, by omega, ?_⟩
  · intro t8 t9 a l h' n' s hs hl hn hG ha han hsame
    obtain ⟨g, rfl⟩ := hs
    rw [F90_r110100_0]
    refine .inl ⟨l, a, t8, hl, rfl, ha, han, ?_, hsame⟩
    have := hG.at
    rw [← rdM_length hl] at this
    exact this
  · intro h' n' L hl hsame h6 h7
    simp [resume, retW, dropDefs, h6, h7]
    exact .inr ⟨hl, rfl, hsame⟩
  · intro b hb _
    rw [Tree.get_set, if_neg (by omega)]

theorem stackBytes_ok {f : Nat} {fr : Frame} (x N : Int) (h1 : -9223372036854775808 ≤ x) (h2 : x ≤ 9223372036854775807) {h : Heap} {n : Nat} (hF : FrameAt h f fr) :
    CallK CC 50 [.ptr f 0, .s (.int .i64 x), .s (.int .i64 N)] h n fun v h' n' =>
      (0 ≤ N ∧ N ≤ 64 ∧ -512 ≤ x ∧ x + N ≤ 0 → ReadP fr (x + 512).toNat N.toNat n h v h' n') ∧ (¬ (0 ≤ N ∧ N ≤ 64 ∧ -512 ≤ x ∧ x + N ≤ 0) → v = .tup [.s (.slice none 0 0), .s (.int .i64 22)] ∧ Same n [] h h') := by
  refine F50_call fun hlt => ?_
  rw [F50_eq]
  by_cases a1 : N < 0
  · simp [a1]
    refine ⟨by omega, fun _ _ _ _ => rfl⟩
  · by_cases a2 : 64 < N
    · simp [a1, a2]
      refine ⟨by omega, fun _ _ _ _ => rfl⟩
    · simp [a1, a2]
      refine CallK.monoN ?_ (on_ok x N h1 h2 h n)
      rintro v h' n' ⟨rfl, rfl, rfl⟩ _
      by_cases hc : -512 ≤ x ∧ x + N ≤ 0
      · have hc' : decide (-512 ≤ x ∧ x ≤ 0 ∧ 0 ≤ N ∧ N ≤ -x) = true := decide_eq_true (by omega)
        rw [hc']
        simp
        have := read_ok (f := f) (N := N.toNat) (p := (x + 512).toNat) (fr := fr) (x := x) (by omega) (by omega) (h := h') (n := n') hF
        rw [show ((N.toNat : Nat) : Int) = N by omega] at this
        refine CallK.monoN ?_ this
        rintro v h2 n2 hr _
        have hr' := hr
        rcases hr with ⟨l, a, sl, g1, rfl, g2⟩ | ⟨g1, rfl, g2⟩
        · simp
          exact ⟨fun _ _ _ _ => hr', by omega⟩
        · simp
          exact ⟨fun _ _ _ _ => hr', by omega⟩
      · have hc' : decide (-512 ≤ x ∧ x ≤ 0 ∧ 0 ≤ N ∧ N ≤ -x) = false := decide_eq_false (by omega)
        rw [hc']
        simp
        exact ⟨by omega, fun _ _ _ _ => rfl⟩

/-- A packet: its row, and where it begins. -/
structure PacketAt (h : Heap) (q a : Nat) (all : List Int) (beg : Nat) : Prop where
  cell : ∃ op, h.get q = some (.cells (.lst [.slice a 0 all.length all.length op, .s (.int .i64 beg)]) 2)
  row : h.get a = some (.cells (.lst (bytesV' all)) 1)
  beg : beg ≤ all.length
  ne : a ≠ q
theorem PacketAt.of {h h' : Heap} {q a : Nat} {all : List Int} {beg : Nat} (H : PacketAt h q a all beg) (e1 : h'.get q = h.get q) (e2 : h'.get a = h.get a) : PacketAt h' q a all beg :=
  ⟨by rw [e1]; exact H.cell, by rw [e2]; exact H.row, H.beg, H.ne⟩

theorem bytes_ok {q a : Nat} {all : List Int} {beg : Nat} {h : Heap} {n : Nat} (hP : PacketAt h q a all beg) (hl : all.length ≤ 140737488355000) :
    CallK CC 33 [.ptr q 0] h n fun v h' n' => (∃ a', n ≤ a' ∧ a' < n' ∧ BytesAt h' a' v (all.drop beg)) ∧ Same n [] h h' := by
  refine F33_call fun hlt => ?_
  rw [F33_eq]
  obtain ⟨⟨op, h1⟩, h2, h3, h4⟩ := hP
  have han := hlt a _ h2
  simp [cellsAt, h1, bounds, bound, asNat_int, ble_dec, h3]
  have hs : BytesAt h a (.slice a beg (all.length - beg) (all.length - beg) op) (all.drop beg) := by
    refine .inr ⟨beg, all.length - beg, op, bytesV' all, 1, by simp, by simp [cellsAt, h2], ?_, by simp⟩
    simp [bytesV', List.map_drop]
    rw [List.take_of_length_le (by simp)]
  refine CallK.monoN ?_ (clone_ok (b := a) (by omega) hs (by simp; omega))
  rintro v h' n' ⟨⟨a', g1, g2, g3⟩, g4, g5⟩ _
  rcases g1 with g1 | g1
  · cases g1
  · exact ⟨⟨a', by omega, g2, g3⟩, fun b hb hn => g4 b (by omega) hn⟩

/-- Is an argument what it must be? (Kinds 2 to 6: no map.) -/
def isM (k : Nat) (v : Val) : Bool :=
  match k with
  | 2 => decide (v.kind = 5 ∧ v.n = 0)
  | 3 => decide (v.kind = 1)
  | 4 => decide (v.kind = 1 ∧ 1 ≤ v.n ∧ v.n ≤ 64)
  | 5 => decide (v.kind = 4)
  | _ => true
theorem is_ok (e : V) (k : Nat) (v : Val) (hk : 2 ≤ k) (hk' : k ≤ 6) (h : Heap) (n : Nat) :
    CallK CC 113 [e, .s (.int .i64 k), .agg (.lst [.s (.int .i64 v.kind), .s (.int .u64 v.n), .s (.int .i64 v.id)])] h n fun r h' n' => r = .s (.bool (isM k v)) ∧ Same n [] h h' := by
  refine F113_call fun hlt => ?_
  rw [F113_eq]
  have : k = 2 ∨ k = 3 ∨ k = 4 ∨ k = 5 ∨ k = 6 := by omega
  rcases this with rfl | rfl | rfl | rfl | rfl
  · by_cases a1 : v.kind = 5
    · simp [cellsAt, Tree.get_set, isM, a1]; exact Same.new _ _ _ _
    · simp [cellsAt, Tree.get_set, isM, a1]; exact Same.new _ _ _ _
  · simp [cellsAt, Tree.get_set, isM]; exact Same.new _ _ _ _
  · by_cases a1 : v.kind = 1
    · by_cases a2 : 1 ≤ v.n
      · simp [cellsAt, Tree.get_set, isM, a1, a2]; exact Same.new _ _ _ _
      · simp [cellsAt, Tree.get_set, isM, a1, a2]; exact Same.new _ _ _ _
    · simp [cellsAt, Tree.get_set, isM, a1]; exact Same.new _ _ _ _
  · simp [cellsAt, Tree.get_set, isM]; exact Same.new _ _ _ _
  · simp [cellsAt, Tree.get_set, isM]; exact Same.new _ _ _ _

def takesM (fr : Frame) : Nat → List Nat → Int
  | _, [] => 0
  | i, k :: ks => if (fr.reg (i + 1)).kind = 0 then 20 else if isM k (fr.reg (i + 1)) then takesM fr (i + 1) ks else 25
def kindsV (ks : List Nat) : List V := ks.map fun (k : Nat) => V.s (.int .i64 (k : Int))
theorem takes_loop {e w f b : Nat} {sl : V} {ks : List Nat} {fr : Frame} (hks : ∀ k ∈ ks, 2 ≤ k ∧ k ≤ 6) (hlen : ks.length ≤ 5) {Q : X → St → Prop} {n0 : Nat} {h0 : Heap}
    (he : h0.get e = some (.cells (.lst [.ptr w 0, .ptr f 0]) 2)) (hF : FrameAt h0 f fr) (hs : h0.get b = some (.cells (.lst (kindsV ks)) 1)) (hsl : sl = .slice b 0 ks.length ks.length false) (hlt0 : e < n0 ∧ f < n0 ∧ b < n0)
    (hQ0 : ∀ t10 h n s, F86_L10100 (.ptr e 0) sl (.s (.int .i64 ks.length)) t10 h n s → takesM fr 0 ks = 0 → Same n0 [] h0 h → Q (.exit 0) s)
    (hQ1 : ∀ h n (L : List V) x, takesM fr 0 ks = x → Same n0 [] h0 h → L[4]? = some (.s (.int .i64 x)) → Q .ret ⟨mkTm L, h, n, []⟩) :
    ∀ m s, (∃ i h n, m = ks.length - i ∧ i ≤ ks.length ∧ F86_L10100 (.ptr e 0) sl (.s (.int .i64 ks.length)) (.s (.int .i64 i)) h n s ∧ n0 ≤ n ∧ takesM fr 0 ks = takesM fr i (ks.drop i) ∧ Same n0 [] h0 h) →
      LoopK CC none (subC [1, 0, 1, 0, 0] (bodyOf Go.Proofs.Tryz.f86)) s Q := by
  subst hsl
  refine loopH CCok _ ?_
  rintro m s ⟨i, h, n, hm, hi, hs', hn, hT, hsame⟩ hlt
  obtain ⟨g, rfl⟩ := hs'
  rw [F86_b10100]
  replace hlt : ∀ b o, h.get b = some o → b < n := hlt
  obtain ⟨l1, l2, l3⟩ := hlt0
  by_cases hi' : i < ks.length
  · have hi'' : (i : Int) < (ks.length : Int) := by omega
    have e1 : h.get e = some (.cells (.lst [.ptr w 0, .ptr f 0]) 2) := by rw [hsame e l1 (by simp), he]
    have e2 : h.get f = some (.cells (.lst fr.l) 804) := by rw [hsame f l2 (by simp), hF.1]
    have e3 : h.get b = some (.cells (.lst (kindsV ks)) 1) := by rw [hsame b l3 (by simp), hs]
    have hok := hF.2
    obtain ⟨j, hj⟩ : ∃ j, j = i + 1 := ⟨_, rfl⟩
    have c1 := Frame.regW hok (i := j) (by omega)
    have ei : wrapF .i64 ((i : Int) + 1) = (j : Int) := by rw [wrapF_i64 (by omega) (by omega)]; omega
    have ek : (kindsV ks)[i]? = some (.s (.int .i64 ((ks[i] : Nat) : Int))) := by simp [kindsV, hi']
    have hki := hks ks[i] (List.getElem_mem hi')
    have hd : ks.drop i = ks[i] :: ks.drop j := by rw [hj]; exact List.drop_eq_getElem_cons hi'
    rw [hd] at hT
    simp only [takesM, ← hj] at hT
    have b1 : 3 + j * 3 + 3 ≤ 804 := by omega
    have b2 : j < 11 := by omega
    have d1 : e ≠ n := by omega
    have d2 : f ≠ n := by omega
    have sm : Same n0 [] h0 (h.set n (.cells (.lst [.s (.int .i64 (fr.reg j).kind), .s (.int .u64 (fr.reg j).n), .s (.int .i64 (fr.reg j).id)]) 3)) := fun b' hb' hn' => by rw [Tree.get_set, if_neg (by omega), hsame b' hb' hn']
    simp [hi', cellsAt, e1, e2, e3, ek, ei, asNat_int, blt_dec, b1, b2, hok.length, c1, ble_dec, storeCells, cellsOwn, Tree.get_set, put_lst, splice]
    by_cases hz : (fr.reg j).kind = 0
    · simp [hz, roundQ]
      simp [hz] at hT
      refine hQ1 _ _ _ 20 hT ?_ rfl
      intro b' hb' hn'
      simp only [Tree.get_set]
      rw [if_neg (by omega), if_neg (by omega), hsame b' hb' hn']
    · simp [hz]
      simp [hz] at hT
      refine CallK.monoN ?_ (is_ok (.ptr e 0) ks[i] (fr.reg j) hki.1 hki.2 _ _)
      rintro v h' n' ⟨rfl, hs2⟩ hn'
      have sm2 : Same n0 [] h0 h' := by
        intro b' hb' hn''
        rw [hs2 b' (by omega) (by simp)]
        simp only [Tree.get_set]
        rw [if_neg (by omega), if_neg (by omega), hsame b' hb' hn'']
      cases hm2 : isM ks[i] (fr.reg j) with
      | true =>
        rw [hm2] at hT
        simp [ei]
        refine ⟨ks.length - j, h', by omega, fun hok b o hb => ⟨o, hb, hok b o hb⟩, j, rfl, by omega, h', n', F86_L10100_of, by omega, hT, sm2⟩
      | false =>
        rw [hm2] at hT
        simp [roundQ]
        exact hQ1 _ _ _ 25 hT sm2 rfl
  · have : i = ks.length := by omega
    subst this
    simp [roundQ]
    refine hQ0 _ h n _ F86_L10100_of ?_ hsame
    rw [hT]; simp [takesM]

theorem takes_ok {e w f b : Nat} {ks : List Nat} {fr : Frame} (hks : ∀ k ∈ ks, 2 ≤ k ∧ k ≤ 6) (hlen : ks.length ≤ 5) {h : Heap} {n : Nat}
    (he : h.get e = some (.cells (.lst [.ptr w 0, .ptr f 0]) 2)) (hF : FrameAt h f fr) (hs : h.get b = some (.cells (.lst (kindsV ks)) 1)) :
    CallK CC 86 [.ptr e 0, .slice b 0 ks.length ks.length false] h n fun v h' n' => v = .s (.int .i64 (takesM fr 0 ks)) ∧ Same n [] h h' := by
  refine F86_call fun hlt => ?_
  rw [F86_eq]
  simp
  refine takes_loop (e := e) (w := w) (f := f) (b := b) (ks := ks) (fr := fr) hks hlen (n0 := n) (h0 := h) he hF hs rfl ⟨hlt _ _ he, hlt _ _ hF.1, hlt _ _ hs⟩ ?_ ?_ _ _ ⟨0, h, n, rfl, by omega, F86_L10100_of, Nat.le_refl _, rfl, Same.refl _ _ _⟩
  · intro t10 h' n' s hs' hT hsame
    obtain ⟨g, rfl⟩ := hs'
    rw [F86_r10100_0]
    exact ⟨by rw [hT], hsame⟩
  · intro h' n' L x hT hsame hL
    simp [resume, retW, dropDefs, hL, hT]
    exact hsame

theorem flat_splice_all {α β : Type} {g : α → List β} {k : Nat} {l ys : List α} (h : ∀ x ∈ l, (g x).length = k) (hy : ∀ x ∈ ys, (g x).length = k) (i : Nat) : splice (flat g l) (i * k) (flat g ys) = flat g (splice l i ys) := by
  simp only [splice]
  rw [flat_length hy, ← Nat.add_mul, flat_take i h, flat_drop _ h, flat_append, flat_append]
def Frame.clear (f : Frame) : Frame := { f with regs := splice f.regs 1 (List.replicate 5 .zero) }
theorem Frame.clear_ok {f : Frame} (h : f.Ok) : f.clear.Ok := ⟨by simp [Frame.clear, splice_length, h.regs], h.stack, h.bytes⟩
theorem Frame.clear_l {f : Frame} (h : f.Ok) : splice f.l 6 (flat Val.l (List.replicate 5 .zero)) = f.clear.l := by
  unfold Frame.l Frame.clear
  rw [show 6 = [V.s (Value.int IntKind.i64 f.prog), V.s (Value.int IntKind.i64 f.pc), V.s (Value.int IntKind.i64 f.tails)].length + 1 * 3 from rfl]
  have hl : (flat Val.l (List.replicate 5 Val.zero)).length = 15 := by rw [flat_length (k := 3) (fun x _ => rfl)]; simp
  rw [splice_right, splice_left _ _ _ _ (by rw [hl, h.regsL]; omega), flat_splice_all (g := Val.l) (k := 3) (fun x _ => rfl) (fun x _ => rfl)]

theorem num_ok (x : Int) (h : Heap) (n : Nat) : CallK CC 81 [.s (.int .u64 x)] h n fun v h' n' => v = .agg (.lst [.s (.int .i64 1), .s (.int .u64 x), .s (.int .i64 0)]) ∧ Same n [] h h' := by
  refine F81_call fun hlt => ?_
  rw [F81_eq]
  simp [cellsAt, Tree.get_set, storeCells, cellsOwn, Rope.put, ble_dec]
  intro b hb _
  simp only [Tree.get_set]
  rw [if_neg (by omega), if_neg (by omega)]

theorem clear_ok {f : Nat} {fr : Frame} {h : Heap} (n : Nat) (hF : FrameAt h f fr) : CallK CC 111 [.ptr f 0] h n fun v h' n' => FrameAt h' f fr.clear ∧ Same n [f] h h' := by
  refine F111_call fun hlt => ?_
  rw [F111_eq]
  have hfn := hlt f _ hF.1
  have e : ¬ (f = n + 4) := by omega
  have hR : ((zr CC 28).rep 5).size = 15 := by kernel_rfl
  have hE : (((zr CC 28).rep 5).ext 0 15).size = 15 := by kernel_rfl
  have hL : (((zr CC 28).rep 5).ext 0 15).toList = flat Val.l (List.replicate 5 .zero) := by kernel_rfl
  have hp : ∀ r : Rope V, r.size = 15 → (Rope.lst fr.l).put 6 r = .lst (fr.l.take 6 ++ r.toList ++ fr.l.drop (6 + 15)) := fun r hr => by simp only [Rope.put, hr]
  have hc := Frame.clear_l hF.2
  have hl : (flat Val.l (List.replicate 5 Val.zero)).length = 15 := by rw [flat_length (k := 3) (fun x _ => rfl)]; simp
  unfold splice at hc
  rw [hl] at hc
  simp [asNat_int, ble_dec, blt_dec, bounds, bound, beq_dec, copyWK, copyW, firstCells, Tree.get_set, cellsAt, hF.1, hF.2.length, storeCells, cellsOwn, e, hR, hE, hp _ hE, hL, -List.reduceReplicate]
  constructor
  · refine ⟨?_, Frame.clear_ok hF.2⟩
    rw [Tree.get_set, if_pos rfl, ← hc, List.append_assoc]
  · intro b hb hn
    simp at hn
    simp only [Tree.get_set]
    rw [if_neg hn, if_neg (by omega)]

/-- A call's end with a result. -/
def Frame.told (f : Frame) (v : Val) : Frame := f.clear.setR 0 v
theorem tells_ok {e w f : Nat} {fr : Frame} (v : Val) {h : Heap} {n : Nat} (he : h.get e = some (.cells (.lst [.ptr w 0, .ptr f 0]) 2)) (hne : e ≠ f) (hF : FrameAt h f fr) :
    CallK CC 80 [.ptr e 0, .agg (.lst [.s (.int .i64 v.kind), .s (.int .u64 v.n), .s (.int .i64 v.id)])] h n fun r h' n' => r = .tup [.s (.int .i64 0), .s (.int .i64 0)] ∧ FrameAt h' f (fr.told v) ∧ Same n [f] h h' := by
  refine F80_call fun hlt => ?_
  rw [F80_eq]
  have hfn := hlt f _ hF.1
  have hen := hlt e _ he
  have e0 : ¬ (f = n) := by omega
  have e1 : ¬ (e = n) := by omega
  simp [cellsAt, Tree.get_set, he, e1]
  refine CallK.monoN ?_ (clear_ok (fr := fr) _ ⟨by rw [Tree.get_set, if_neg e0]; exact hF.1, hF.2⟩)
  rintro r h' n' ⟨hF', hs⟩ hn'
  have k1 := hs e (by omega) (by simp [hne])
  have k2 := hs n (by omega) (by simp; omega)
  rw [Tree.get_set, if_neg e1, he] at k1
  rw [Tree.get_set, if_pos rfl] at k2
  have hs0 := Frame.regS0 hF'.2 v.kind v.n v.id
  simp [cellsAt, Tree.get_set, k1, k2, hF'.1, hF'.2.length, storeCells, cellsOwn, ble_dec, blt_dec, asNat_int, put_lst, hs0]
  constructor
  · exact ⟨by rw [Tree.get_set, if_pos rfl]; rfl, hF'.2.setR _ _⟩
  · intro b hb hn
    simp at hn
    rw [Tree.get_set, if_neg hn, hs b (by omega) (by simp [hn]), Tree.get_set, if_neg (by omega)]

theorem code_ok {e w f : Nat} {fr : Frame} (x : Int) (h1 : 0 ≤ x) (h2 : x ≤ 100) {h : Heap} {n : Nat} (he : h.get e = some (.cells (.lst [.ptr w 0, .ptr f 0]) 2)) (hne : e ≠ f) (hF : FrameAt h f fr) :
    CallK CC 83 [.ptr e 0, .s (.int .i64 x)] h n fun r h' n' => r = .tup [.s (.int .i64 0), .s (.int .i64 0)] ∧ FrameAt h' f (fr.told ⟨1, wrapF .u64 (-x), 0⟩) ∧ Same n [f] h h' := by
  refine F83_call fun hlt => ?_
  rw [F83_eq]
  have hfn := hlt f _ hF.1
  have hen := hlt e _ he
  refine F112_call fun hlt' => ?_
  rw [F112_eq]
  have e1 : wrapF .i64 (-x) = -x := wrapF_i64 (by omega) (by omega)
  simp [e1]
  refine CallK.monoN ?_ (num_ok _ _ _)
  rintro r h' n' ⟨rfl, hs⟩ hn'
  have k2 := hs n (by omega) (by simp)
  rw [Tree.get_set, if_pos rfl] at k2
  simp [cellsAt, k2, storeCells, cellsOwn, ble_dec, Tree.get_set, Rope.put]
  have same1 : ∀ b, b < n → (h'.set n (.cells (.lst [.s (.int .i64 1), .s (.int .u64 (wrapF .u64 (-x))), .s (.int .i64 0)]) 3)).get b = h.get b := fun b hb => by
    rw [Tree.get_set, if_neg (by omega), hs b (by omega) (by simp), Tree.get_set, if_neg (by omega)]
  refine CallK.monoN ?_ (tells_ok (e := e) (w := w) (f := f) (fr := fr) ⟨1, wrapF .u64 (-x), 0⟩ (by rw [same1 e hen]; exact he) hne ⟨by rw [same1 f hfn]; exact hF.1, hF.2⟩)
  rintro r h2 n2 ⟨rfl, hF2, hs2⟩ hn2
  simp
  exact ⟨hF2, fun b hb hn => by rw [hs2 b (by omega) hn, same1 b hb]⟩

theorem wrap_i64r (x : Int) : -9223372036854775808 ≤ wrapF .i64 x ∧ wrapF .i64 x ≤ 9223372036854775807 := by
  unfold wrapF
  simp only [p2, IntKind.signed, cond_true]
  have h1 : 0 ≤ x.emod (Int.ofNat 18446744073709551616) := Int.emod_nonneg x (by decide)
  have h2 : x.emod (Int.ofNat 18446744073709551616) < Int.ofNat 18446744073709551616 := Int.emod_lt_of_pos x (by decide)
  rw [show Int.ofNat 18446744073709551616 = (18446744073709551616 : Int) from rfl] at *
  generalize x.emod 18446744073709551616 = y at h1 h2 ⊢
  rw [ble_dec]
  by_cases h : 18446744073709551616 / 2 ≤ y.toNat
  · simp only [h, decide_true, cond_true]; omega
  · simp only [h, decide_false, cond_false]; omega
theorem kinds4 : kindsV [2, 3, 5, 4] = [.s (.int .i64 2), .s (.int .i64 3), .s (.int .i64 5), .s (.int .i64 4)] := rfl
/-- What HCopy lays. -/
def copyB (l : List Int) (from' N : Int) : List Int := if from' ≤ l.length ∧ N ≤ l.length - from' then (l.drop from'.toNat).take N.toNat else List.replicate N.toNat 0
def copyE (l : List Int) (from' N : Int) : Int := if from' ≤ l.length ∧ N ≤ l.length - from' then 0 else 22
def CopiedP (fr : Frame) (l : List Int) (f : Nat) (v : V) (h' : Heap) : Prop :=
  (takesM fr 0 [2, 3, 5, 4] ≠ 0 ∧ v = .tup [.s (.int .i64 0), .s (.int .i64 (takesM fr 0 [2, 3, 5, 4]))] ∧ FrameAt h' f fr) ∨
  (takesM fr 0 [2, 3, 5, 4] = 0 ∧ ¬ (-512 ≤ wrapF .i64 (fr.reg 3).n ∧ wrapF .i64 (fr.reg 3).n + (fr.reg 4).n ≤ 0) ∧ v = .tup [.s (.int .i64 0), .s (.int .i64 22)] ∧ FrameAt h' f fr) ∨
  (takesM fr 0 [2, 3, 5, 4] = 0 ∧ (-512 ≤ wrapF .i64 (fr.reg 3).n ∧ wrapF .i64 (fr.reg 3).n + (fr.reg 4).n ≤ 0) ∧ v = .tup [.s (.int .i64 0), .s (.int .i64 0)] ∧
    FrameAt h' f ((layM fr (wrapF .i64 (fr.reg 3).n + 512).toNat (copyB l (fr.reg 2).n (fr.reg 4).n)).told ⟨1, wrapF .u64 (-(copyE l (fr.reg 2).n (fr.reg 4).n)), 0⟩))

theorem copied_ok {e w f q a : Nat} {q1 q3 q4 : V} {fr : Frame} {all : List Int} {beg : Nat} {h : Heap} {n : Nat}
    (he : h.get e = some (.cells (.lst [.ptr w 0, .ptr f 0]) 2)) (hw : h.get w = some (.cells (.lst [q1, .ptr q 0, q3, q4]) 4)) (hF : FrameAt h f fr) (hP : PacketAt h q a all beg) (hl : all.length ≤ 70000)
    (hne : e ≠ f ∧ w ≠ f ∧ q ≠ f ∧ a ≠ f) (h2 : 0 ≤ (fr.reg 2).n ∧ (fr.reg 2).n < 18446744073709551616) :
    CallK CC 48 [.ptr e 0] h n fun v h' n' => CopiedP fr (all.drop beg) f v h' ∧ Same n [f] h h' := by
  refine F48_call fun hlt => ?_
  rw [F48_eq]
  have hen := hlt e _ he
  have hfn := hlt f _ hF.1
  have hwn := hlt w _ hw
  simp
  have d1 : e ≠ n := by omega
  have d2 : f ≠ n := by omega
  refine CallK.monoN ?_ (takes_ok (e := e) (w := w) (f := f) (b := n) (ks := [2, 3, 5, 4]) (fr := fr) (by simp) (by simp) (by rw [Tree.get_set, if_neg d1]; exact he) ⟨by rw [Tree.get_set, if_neg d2]; exact hF.1, hF.2⟩ (by rw [Tree.get_set, if_pos rfl, kinds4]))
  rintro v h1 n1 ⟨rfl, hs1⟩ hn1
  have old1 : ∀ b, b < n → h1.get b = h.get b := fun b hb => by rw [hs1 b (by omega) (by simp), Tree.get_set, if_neg (by omega)]
  by_cases hT : takesM fr 0 [2, 3, 5, 4] = 0
  · have hk := hT
    simp only [takesM, isM, decide_eq_true_eq] at hk
    have r4 : 1 ≤ (fr.reg 4).n ∧ (fr.reg 4).n ≤ 64 := by
      repeat' split at hk
      all_goals first | omega | (simp at hk; done) | skip
      all_goals simp_all
    have e1 : h1.get e = some (.cells (.lst [.ptr w 0, .ptr f 0]) 2) := by rw [old1 e hen, he]
    have w1 : h1.get w = some (.cells (.lst [q1, .ptr q 0, q3, q4]) 4) := by rw [old1 w hwn, hw]
    have f1 : h1.get f = some (.cells (.lst fr.l) 804) := by rw [old1 f hfn]; exact hF.1
    have g2 := Frame.regN2 hF.2
    have g3 := Frame.regN3 hF.2
    have g4 := Frame.regN4 hF.2
    simp [hT, cellsAt, e1, w1, f1, asNat_int, blt_dec, g2, g3, g4]
    clear hk
    obtain ⟨N, hN⟩ : ∃ N : Nat, (fr.reg 4).n = N := ⟨(fr.reg 4).n.toNat, by omega⟩
    obtain ⟨op, hq⟩ := hP.cell
    have hqn := hlt q _ hq
    have han := hlt a _ hP.row
    refine CallK.monoN ?_ (bytes_ok (hP.of (old1 q hqn) (old1 a han)) (by omega))
    rintro v h2' n2 ⟨⟨a', b1, b2, b3⟩, hs2⟩ hn2
    have old2 : ∀ b, b < n → h2'.get b = h.get b := fun b hb => by rw [hs2 b (by omega) (by simp), old1 b hb]
    have e2 : h2'.get e = some (.cells (.lst [.ptr w 0, .ptr f 0]) 2) := by rw [old2 e hen, he]
    have w2 : h2'.get w = some (.cells (.lst [q1, .ptr q 0, q3, q4]) 4) := by rw [old2 w hwn, hw]
    have f2 : h2'.get f = some (.cells (.lst fr.l) 804) := by rw [old2 f hfn]; exact hF.1
    rw [hN] at g4 r4 ⊢
    simp [cellsAt, e2, w2, f2, asNat_int, blt_dec, ble_dec, g2, g3, g4, b3.len]
    generalize hFr : (fr.reg 2).n = F at h2 ⊢
    have eL : wrapF .u64 ((all.length - beg : Nat) : Int) = ((all.length - beg : Nat) : Int) := wrapF_u64 (by omega) (by omega)
    have hll : (all.drop beg).length = all.length - beg := by simp
    generalize hL : all.length - beg = L at eL b3 hll ⊢
    have zeros : ∀ c : ¬ (F ≤ L ∧ (N : Int) ≤ L - F), copyB (all.drop beg) F N = List.replicate N 0 ∧ copyE (all.drop beg) F N = 22 := fun c => by
      simp only [copyB, copyE, hll, if_neg c, Int.toNat_natCast, and_self]
    have hz0 : (bytesV' (List.replicate N 0)) = List.replicate N (V.s (.int .u8 0)) := by simp [bytesV']
    refine ⟨⟨by omega, by omega⟩, ?_⟩
    by_cases c : F ≤ L ∧ (N : Int) ≤ L - F
    · have eS : wrapF .u64 ((L : Int) - F) = (L : Int) - F := wrapF_u64 (by omega) (by omega)
      rcases b3 with ⟨rfl, h3, _⟩ | ⟨o, cp, op', A, es, rfl, h3, h4, h5⟩
      · rw [hll] at h3; omega
      have n0 : (0 : Int) ≤ F := h2.1
      have n1 : F.toNat ≤ L := by omega
      simp [eL, c.1, c.2, eS, hll, asNat_int, bounds, bound, ble_dec, blt_dec, n0, n1]
      have hcb : copyB (all.drop beg) F N = ((all.drop beg).drop F.toNat).take N := by simp only [copyB, hll, if_pos c, Int.toNat_natCast]
      have hce : copyE (all.drop beg) F N = 0 := by simp only [copyE, hll, if_pos c]
      have hn2a : a' ≠ n2 := by omega
      have hx : Row (Tree.set h2' n2 (.cells (.lst (List.replicate N (V.s (.int .u8 0)))) 1)) 1 (L - F.toNat) (bytesV' ((all.drop beg).drop F.toNat)) (.slice a' (o + F.toNat) (L - F.toNat) (cp - F.toNat) op') := by
        refine .row (A := A) (es := es) (by simpa [cellsAt, Tree.get_set, hn2a] using h3) ?_ (by rw [bytesV', List.length_map, List.length_drop, hll, Nat.mul_one])
        rw [hll] at h4
        have : bytesV' ((all.drop beg).drop F.toNat) = (bytesV' (all.drop beg)).drop F.toNat := by simp [bytesV', List.map_drop]
        rw [this, ← h4, List.drop_take, List.drop_drop]
        simp
      refine copy_ok (by decide) (show (Tree.set h2' n2 (.cells (.lst (List.replicate N (V.s (.int .u8 0)))) 1)).get n2 = _ by rw [Tree.get_set, if_pos rfl]) (by simp) hx fun h5 g5 s5 => ?_
      have old5 : ∀ b, b < n → h5.get b = h.get b := fun b hb => by rw [s5 b (by omega), Tree.get_set, if_neg (by omega), old2 b hb]
      have E5 : h5.get e = some (.cells (.lst [.ptr w 0, .ptr f 0]) 2) := by rw [old5 e hen, he]
      have F5 : h5.get f = some (.cells (.lst fr.l) 804) := by rw [old5 f hfn]; exact hF.1
      have hBl : (((all.drop beg).drop F.toNat).take N).length = N := by rw [List.length_take, List.length_drop, hll]; omega
      have hB : BytesAt h5 n2 (.slice n2 0 N N false) (((all.drop beg).drop F.toNat).take N) := by
        refine .inr ⟨0, N, false, _, 1, by rw [hBl], by simp only [cellsAt, g5]; rfl, ?_, by simp [bytesV']⟩
        have hm : min (L - F.toNat) N = N := by omega
        have ht : (bytesV' ((all.drop beg).drop F.toNat)).take (N * 1) = bytesV' (((all.drop beg).drop F.toNat).take N) := by simp [bytesV', List.map_take]
        rw [hm, ht]
        have hl' : (bytesV' (((all.drop beg).drop F.toNat).take N)).length = N := by rw [bytesV', List.length_map, hBl]
        simp only [splice, hl', List.take_zero, List.nil_append, Nat.zero_add, List.drop_zero, hBl, Nat.mul_one]
        rw [show (List.replicate N (V.s (.int .u8 0))).drop N = [] from List.drop_eq_nil_of_le (by simp), List.append_nil, List.take_of_length_le (by rw [hl']; exact Nat.le_refl _)]
      have hbl := hBl
      simp [cellsAt, E5, F5, asNat_int, blt_dec, g3]
      refine CallK.monoN ?_ (fill_ok (f := f) (b := n2) (l := ((all.drop beg).drop F.toNat).take N) (fr := fr) (wrapF .i64 (fr.reg 3).n) (wrap_i64r _).1 (wrap_i64r _).2 (by omega) (by omega) ⟨F5, hF.2⟩ hB)
      rintro v h6 n6 ⟨k1, k2, hs6⟩ hn6
      have old6 : ∀ b, b < n → b ≠ f → h6.get b = h.get b := fun b hb hbf => by rw [hs6 b (by omega) (by simp [hbf]), old5 b hb]
      have e6 : h6.get e = some (.cells (.lst [.ptr w 0, .ptr f 0]) 2) := by rw [old6 e hen hne.1, he]
      by_cases hb : -512 ≤ wrapF .i64 (fr.reg 3).n ∧ wrapF .i64 (fr.reg 3).n + (N : Int) ≤ 0
      · obtain ⟨rfl, hF6⟩ := k1 ⟨by omega, hb.1, by rw [hBl]; exact hb.2⟩
        simp
        refine CallK.monoN ?_ (code_ok (e := e) (w := w) (f := f) 0 (by decide) (by decide) e6 hne.1 hF6)
        rintro v h7 n7 ⟨rfl, hF7, hs7⟩ _
        simp
        refine ⟨.inr (.inr ⟨hT, by rw [hN]; exact hb, rfl, ?_⟩), fun b hb' hbf => ?_⟩
        · rw [hN, hFr, hcb, hce]; exact hF7
        · simp at hbf
          rw [hs7 b (by omega) (by simp [hbf]), old6 b hb' hbf]
      · obtain ⟨rfl, hF6⟩ := k2 (by rw [hBl]; intro h; exact hb ⟨h.2.1, h.2.2⟩)
        simp
        refine ⟨.inr (.inl ⟨hT, by rw [hN]; exact hb, rfl, hF6⟩), fun b hb' hbf => ?_⟩
        simp at hbf
        rw [old6 b hb' hbf]
    · obtain ⟨z1, z2⟩ := zeros c
      by_cases c1 : F ≤ L
      · have c2 : ¬ (N : Int) ≤ L - F := fun h => c ⟨c1, h⟩
        have eS : wrapF .u64 ((L : Int) - F) = (L : Int) - F := wrapF_u64 (by omega) (by omega)
        have ne1 : ¬ e = n2 := by omega
        have nf1 : ¬ f = n2 := by omega
        simp [eL, c1, c2, eS, b3.len, hll, Tree.get_set, e2, f2, cellsAt, ne1, nf1, asNat_int, blt_dec, g3]
        obtain ⟨h5, hh5⟩ : ∃ h5, h5 = Tree.set h2' n2 (.cells (.lst (List.replicate N (V.s (.int .u8 0)))) 1) := ⟨_, rfl⟩
        rw [← hh5]
        have old5 : ∀ b, b < n → h5.get b = h.get b := fun b hb => by rw [hh5, Tree.get_set, if_neg (by omega), old2 b hb]
        have F5 : h5.get f = some (.cells (.lst fr.l) 804) := by rw [old5 f hfn]; exact hF.1
        have hBl : (List.replicate N (0 : Int)).length = N := by simp
        have hB : BytesAt h5 n2 (.slice n2 0 N N false) (List.replicate N 0) := .inr ⟨0, N, false, List.replicate N (.s (.int .u8 0)), 1, by rw [hBl], by simp [cellsAt, hh5, Tree.get_set], by simp [bytesV'], by simp [bytesV']⟩
        refine CallK.monoN ?_ (fill_ok (f := f) (b := n2) (l := List.replicate N 0) (fr := fr) (wrapF .i64 (fr.reg 3).n) (wrap_i64r _).1 (wrap_i64r _).2 (by omega) (by omega) ⟨F5, hF.2⟩ hB)
        rintro v h6 n6 ⟨k1, k2, hs6⟩ hn6
        have old6 : ∀ b, b < n → b ≠ f → h6.get b = h.get b := fun b hb hbf => by rw [hs6 b (by omega) (by simp [hbf]), old5 b hb]
        have e6 : h6.get e = some (.cells (.lst [.ptr w 0, .ptr f 0]) 2) := by rw [old6 e hen hne.1, he]
        by_cases hb : -512 ≤ wrapF .i64 (fr.reg 3).n ∧ wrapF .i64 (fr.reg 3).n + (N : Int) ≤ 0
        · obtain ⟨rfl, hF6⟩ := k1 ⟨by omega, hb.1, by rw [hBl]; exact hb.2⟩
          simp
          refine CallK.monoN ?_ (code_ok (e := e) (w := w) (f := f) 22 (by decide) (by decide) e6 hne.1 hF6)
          rintro v h7 n7 ⟨rfl, hF7, hs7⟩ _
          simp
          refine ⟨.inr (.inr ⟨hT, by rw [hN]; exact hb, rfl, ?_⟩), fun b hb' hbf => ?_⟩
          · rw [hN, hFr, z1, z2]; exact hF7
          · simp at hbf
            rw [hs7 b (by omega) (by simp [hbf]), old6 b hb' hbf]
        · obtain ⟨rfl, hF6⟩ := k2 (by rw [hBl]; intro h; exact hb ⟨h.2.1, h.2.2⟩)
          simp
          refine ⟨.inr (.inl ⟨hT, by rw [hN]; exact hb, rfl, hF6⟩), fun b hb' hbf => ?_⟩
          simp at hbf
          rw [old6 b hb' hbf]
      · skip
        have ne1 : ¬ e = n2 := by omega
        have nf1 : ¬ f = n2 := by omega
        simp [eL, c1, Tree.get_set, e2, f2, cellsAt, ne1, nf1, asNat_int, blt_dec, g3]
        obtain ⟨h5, hh5⟩ : ∃ h5, h5 = Tree.set h2' n2 (.cells (.lst (List.replicate N (V.s (.int .u8 0)))) 1) := ⟨_, rfl⟩
        rw [← hh5]
        have old5 : ∀ b, b < n → h5.get b = h.get b := fun b hb => by rw [hh5, Tree.get_set, if_neg (by omega), old2 b hb]
        have F5 : h5.get f = some (.cells (.lst fr.l) 804) := by rw [old5 f hfn]; exact hF.1
        have hBl : (List.replicate N (0 : Int)).length = N := by simp
        have hB : BytesAt h5 n2 (.slice n2 0 N N false) (List.replicate N 0) := .inr ⟨0, N, false, List.replicate N (.s (.int .u8 0)), 1, by rw [hBl], by simp [cellsAt, hh5, Tree.get_set], by simp [bytesV'], by simp [bytesV']⟩
        refine CallK.monoN ?_ (fill_ok (f := f) (b := n2) (l := List.replicate N 0) (fr := fr) (wrapF .i64 (fr.reg 3).n) (wrap_i64r _).1 (wrap_i64r _).2 (by omega) (by omega) ⟨F5, hF.2⟩ hB)
        rintro v h6 n6 ⟨k1, k2, hs6⟩ hn6
        have old6 : ∀ b, b < n → b ≠ f → h6.get b = h.get b := fun b hb hbf => by rw [hs6 b (by omega) (by simp [hbf]), old5 b hb]
        have e6 : h6.get e = some (.cells (.lst [.ptr w 0, .ptr f 0]) 2) := by rw [old6 e hen hne.1, he]
        by_cases hb : -512 ≤ wrapF .i64 (fr.reg 3).n ∧ wrapF .i64 (fr.reg 3).n + (N : Int) ≤ 0
        · obtain ⟨rfl, hF6⟩ := k1 ⟨by omega, hb.1, by rw [hBl]; exact hb.2⟩
          simp
          refine CallK.monoN ?_ (code_ok (e := e) (w := w) (f := f) 22 (by decide) (by decide) e6 hne.1 hF6)
          rintro v h7 n7 ⟨rfl, hF7, hs7⟩ _
          simp
          refine ⟨.inr (.inr ⟨hT, by rw [hN]; exact hb, rfl, ?_⟩), fun b hb' hbf => ?_⟩
          · rw [hN, hFr, z1, z2]; exact hF7
          · simp at hbf
            rw [hs7 b (by omega) (by simp [hbf]), old6 b hb' hbf]
        · obtain ⟨rfl, hF6⟩ := k2 (by rw [hBl]; intro h; exact hb ⟨h.2.1, h.2.2⟩)
          simp
          refine ⟨.inr (.inl ⟨hT, by rw [hN]; exact hb, rfl, hF6⟩), fun b hb' hbf => ?_⟩
          simp at hbf
          rw [old6 b hb' hbf]
  · simp [hT]
    exact ⟨.inl ⟨hT, rfl, by rw [old1 f hfn]; exact hF.1, hF.2⟩, fun b hb _ => old1 b hb⟩
theorem keyNow_i (a b : Int) : keyNow (.int .i64) (.s (.int .i64 a)) (.s (.int .i64 b)) = some (decide (a = b)) := by
  simp [keyNow, intEq_dec, kindEq_self]

theorem call_seven {w f q a : Nat} {q1 q3 q4 : V} {fr : Frame} {all : List Int} {beg : Nat} {h : Heap} {n : Nat}
    (hw : h.get w = some (.cells (.lst [q1, .ptr q 0, q3, q4]) 4)) (hF : FrameAt h f fr) (hP : PacketAt h q a all beg) (hl : all.length ≤ 70000)
    (hne : w ≠ f ∧ q ≠ f ∧ a ≠ f) (h2 : 0 ≤ (fr.reg 2).n ∧ (fr.reg 2).n < 18446744073709551616) :
    CallK CC 14 [.ptr w 0, .ptr f 0, .s (.int .i64 7)] h n fun v h' n' => CopiedP fr (all.drop beg) f v h' ∧ Same n [f] h h' := by
  refine F14_call fun hlt => ?_
  rw [F14_eq]
  have hfn := hlt f _ hF.1
  have hwn := hlt w _ hw
  obtain ⟨op, hq⟩ := hP.cell
  have hqn := hlt q _ hq
  have han := hlt a _ hP.row
  simp [mapUpdateW, lookupW, mapOwn, mapAt, Tree.get_set, findKey, keyNow_i, callV_func]
  refine CallK.monoN ?_ (copied_ok (e := n) (w := w) (f := f) (q := q) (a := a) (fr := fr) (all := all) (beg := beg) (q1 := q1) (q3 := q3) (q4 := q4) ?_ ?_ ?_ ?_ hl ?_ h2)
  · rintro v h' n' ⟨hc, hs⟩ _
    have hv : ∃ x y, v = .tup [x, y] := by rcases hc with ⟨_, rfl, _⟩ | ⟨_, _, rfl, _⟩ | ⟨_, _, rfl, _⟩ <;> exact ⟨_, _, rfl⟩
    obtain ⟨x, y, rfl⟩ := hv
    have hn : normV x = x ∧ normV y = y := by rcases hc with ⟨_, h, _⟩ | ⟨_, _, h, _⟩ | ⟨_, _, h, _⟩ <;> · cases h; exact ⟨rfl, rfl⟩
    simp [hn]
    refine ⟨hc, ?_⟩
    intro b hb hn
    rw [hs b (by omega) hn]
    simp only [Tree.get_set]
    simp [show ¬ b = n + 1 by omega, show ¬ b = n by omega]
  · simp [Tree.get_set]
  · simp [Tree.get_set, show ¬ w = n + 1 by omega, show ¬ w = n by omega, hw]
  · exact ⟨by simp [Tree.get_set, show ¬ f = n + 1 by omega, show ¬ f = n by omega, hF.1], hF.2⟩
  · exact hP.of (by simp [Tree.get_set, show ¬ q = n + 1 by omega, show ¬ q = n by omega]) (by simp [Tree.get_set, show ¬ a = n + 1 by omega, show ¬ a = n by omega])
  · exact ⟨by omega, hne⟩
end Go.Ev
