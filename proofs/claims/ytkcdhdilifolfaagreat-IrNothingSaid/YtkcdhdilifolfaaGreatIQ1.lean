import Derived.Test.YtkcdhdilifolfaaGreatRJ
import Derived.Test.YtkcdhdilifolfaaGreatEvKG
namespace Go.Ev
set_option maxRecDepth 20000

def FrameAt (h : Heap) (f : Nat) (fr : Frame) : Prop := h.get f = some (.cells (.lst fr.l) 804) ∧ fr.Ok
def BytesAt (h : Heap) (b : Nat) (v : V) (l : List Int) : Prop := SliceAt h b v 1 l.length (bytesV' l)
theorem bytes_take (l : List Int) : (bytesV' l).take l.length = bytesV' l := List.take_of_length_le (by simp)
theorem BytesAt.of {h h' : Heap} {b : Nat} {v : V} {l : List Int} (H : BytesAt h b v l) (e : h'.get b = h.get b) : BytesAt h' b v l := SliceAt.of H e
theorem BytesAt.len {h : Heap} {b : Nat} {v : V} {l : List Int} (H : BytesAt h b v l) (h' : Heap) : lenV CC h' 23 v = some (.s (.int .i64 l.length)) := by
  rcases H with ⟨rfl, h2, _⟩ | ⟨o, c, op, A, es, rfl, _⟩
  · have : l = [] := List.length_eq_zero_iff.1 h2
    subst this; simp
  · simp
theorem BytesAt.ix {h : Heap} {b : Nat} {v : V} {l : List Int} (H : BytesAt h b v l) {i : Nat} (hi : i < l.length) : ∃ p, indexAddr CC 23 v (.s (.int .i64 i)) = some (.ptr b p) ∧ (cellsAt h b).bind (fun c => c.1.get p) = some (.s (.int .u8 l[i])) := by
  rcases H with ⟨rfl, h2, _⟩ | ⟨o, c, op, A, es, rfl, h2, h3, h4⟩
  · omega
  · refine ⟨o + i, by simp [asNat_int, blt_dec, hi], ?_⟩
    rw [h2]
    simp
    have : ((A.drop o).take (l.length * 1))[i]? = (bytesV' l)[i]? := by rw [h3]
    rw [List.getElem?_take, if_pos (by omega), List.getElem?_drop] at this
    rw [this]
    simp [bytesV', hi]

theorem place_ok (i k : Nat) (hi : i ≤ 64) (hk : k < 8) (x : Int) (hx : x = (8 * i + k : Nat) - 512) (h : Heap) (n : Nat) : CallK CC 62 [.s (.int .i64 x)] h n fun v h' n' => v = .tup [.s (.int .i64 i), .s (.int .i64 k)] ∧ h' = h ∧ n' = n := by
  refine F62_call fun hlt => ?_
  rw [F62_eq]
  have e1 : wrapF .i64 (x + 512) = (8 * i + k : Nat) := by rw [wrapF_i64 (by omega) (by omega)]; omega
  have e2 : wrapF .i64 (((8 * i + k : Nat) : Int).tdiv 8) = (i : Int) := by
    rw [show ((8 * i + k : Nat) : Int).tdiv 8 = ((8 * i + k) / 8 : Nat) from rfl, wrapF_i64 (by omega) (by omega)]; omega
  have e3 : ((8 * i + k : Nat) : Int).tmod 8 = (k : Int) := by
    rw [show ((8 * i + k : Nat) : Int).tmod 8 = ((8 * i + k) % 8 : Nat) from rfl]; omega
  simp only [bin_add, oK_some, e1]
  rw [bin_quo _ _ _ _ (by decide), bin_rem _ _ _ _ (by decide)]
  simp only [oK_some, e2, e3, and_self]

theorem on_ok (off m : Int) (h1 : -9223372036854775808 ≤ off) (h2 : off ≤ 9223372036854775807) (h : Heap) (n : Nat) : CallK CC 36 [.s (.int .i64 off), .s (.int .i64 m)] h n fun v h' n' =>
    v = .s (.bool (decide (-512 ≤ off ∧ off ≤ 0 ∧ 0 ≤ m ∧ m ≤ -off))) ∧ h' = h ∧ n' = n := by
  refine F36_call fun hlt => ?_
  rw [F36_eq]
  by_cases a1 : -512 ≤ off
  · by_cases a2 : off ≤ 0
    · by_cases a3 : 0 ≤ m
      · have e : wrapF .i64 (-off) = -off := wrapF_i64 (by omega) (by omega)
        simp [a1, a2, a3, e]
      · simp [a1, a2, a3]
    · simp [a1, a2]
  · simp [a1]

/-- A byte laid on the stack. -/
def layS (s : Slot) : Slot := if s.val.kind = 0 then s else .zero
def layB (fr : Frame) (p : Nat) (c : Int) : Frame :=
  fr.setS (p / 8) { layS (fr.slot (p / 8)) with bytes := (layS (fr.slot (p / 8))).bytes.set (p % 8) c, init := bitsI .or .u8 (layS (fr.slot (p / 8))).init (shlI .u8 1 (p % 8 : Nat)) }
def layM (fr : Frame) (p : Nat) : List Int → Frame
  | [] => fr
  | c :: l => layM (layB fr p c) (p + 1) l
theorem layS8 {fr : Frame} (h : fr.Ok) (i : Nat) : (layS (fr.slot i)).bytes.length = 8 := by
  unfold layS
  split
  · exact h.slot8 i
  · rfl
theorem layB_ok {fr : Frame} (h : fr.Ok) (p : Nat) (c : Int) : (layB fr p c).Ok := h.setS _ (by simp [layS8 h])
theorem layM_append : ∀ (l m : List Int) (fr : Frame) (p : Nat), layM fr p (l ++ m) = layM (layM fr p l) (p + l.length) m
  | [], m, fr, p => rfl
  | c :: l, m, fr, p => by
    have := layM_append l m (layB fr p c) (p + 1)
    simp only [List.cons_append, layM, this, List.length_cons]
    rw [show p + 1 + l.length = p + (l.length + 1) by omega]

theorem lay_loop {f b : Nat} {sl : V} {l : List Int} {p : Nat} {fr : Frame} {x : Int} (hx : x = (p : Int) - 512) (hp : p + l.length ≤ 512) {Q : X → St → Prop} {n0 : Nat} {h0 : Heap} (hbf : b ≠ f) (hb : b < n0) (hf : f < n0) (hs : BytesAt h0 b sl l)
    (hQ : ∀ t13 h n s, F37_L100 (.ptr f 0) (.s (.int .i64 x)) sl (.s (.int .i64 l.length)) t13 h n s → n0 ≤ n → FrameAt h f (layM fr p l) → Same n0 [f] h0 h → Q (.exit 0) s) :
    ∀ m s, (∃ i h n, m = l.length - i ∧ i ≤ l.length ∧ F37_L100 (.ptr f 0) (.s (.int .i64 x)) sl (.s (.int .i64 l.length)) (.s (.int .i64 i)) h n s ∧ n0 ≤ n ∧ FrameAt h f (layM fr p (l.take i)) ∧ Same n0 [f] h0 h) →
      LoopK CC none (subC [1, 0, 0] (bodyOf Go.Proofs.Tryz.f37)) s Q := by
  refine loopH CCok _ ?_
  rintro m s ⟨i, h, n, hm, hi, hs', hn, hF, hsame⟩ hlt
  obtain ⟨g, rfl⟩ := hs'
  rw [F37_b100]
  replace hlt : ∀ b o, h.get b = some o → b < n := hlt
  by_cases hi' : i < l.length
  · have hi'' : (i : Int) < (l.length : Int) := by omega
    have hs1 := hs.of (hsame b hb (by simp [hbf]))
    obtain ⟨q, q1, q2⟩ := hs1.ix hi'
    have e1 : wrapF .i64 (x + (i : Int)) = x + i := wrapF_i64 (by omega) (by omega)
    simp [hi', q1, q2, e1]
    have hk : (p + i) % 8 < 8 := Nat.mod_lt _ (by decide)
    refine CallK.monoN ?_ (place_ok ((p + i) / 8) ((p + i) % 8) (by omega) hk (x + i) (by omega) h n)
    rintro v h' n' ⟨rfl, rfl, rfl⟩ hn'
    have hI : (p + i) / 8 < 64 := by omega
    generalize hI' : (p + i) / 8 = I at hI
    generalize hK' : (p + i) % 8 = k at hk
    have hok := hF.2
    have c1 := Frame.slotK hok hI
    have ei : wrapF .i64 ((i : Int) + 1) = ((i + 1 : Nat) : Int) := by rw [wrapF_i64 (by omega) (by omega)]; rfl
    have hk0 : (0 : Int) ≤ (k : Int) := by omega
    have b1 : 36 + I * 12 + 3 + k + 1 ≤ 804 := by omega
    have b2 : 36 + I * 12 + 11 + 1 ≤ 804 := by omega
    have b3 : 36 + I * 12 + 12 ≤ 804 := by omega
    have hnext : layM fr p (l.take (i + 1)) = layB (layM fr p (l.take i)) (p + i) l[i] := by
      rw [List.take_succ_eq_append_getElem hi', layM_append]
      simp [layM, Nat.min_eq_left hi]
    simp [cellsAt, hF.1, asNat_int, blt_dec, hI, c1]
    by_cases hz : ((layM fr p (l.take i)).slot I).val.kind = 0
    · have hok1 := hok.setS I (s := { (layM fr p (l.take i)).slot I with bytes := ((layM fr p (l.take i)).slot I).bytes.set k l[i] }) (by simp [hok.slot8])
      have c2 := Frame.slotSB hok hI hk l[i]
      have c3 := Frame.slotI hok1 hI
      have c4 := Frame.slotSI hok1 hI
      have c5 : ((layM fr p (l.take i)).setS I { (layM fr p (l.take i)).slot I with bytes := ((layM fr p (l.take i)).slot I).bytes.set k l[i] }).slot I = { (layM fr p (l.take i)).slot I with bytes := ((layM fr p (l.take i)).slot I).bytes.set k l[i] } := by
        rw [Frame.slot_setS _ _ _ (by rw [hok.stack]; exact hI), if_pos rfl]
      rw [c5] at c3 c4
      simp [hz, hk, storeCells, cellsOwn, hF.1, put_one, ble_dec, hok.length, hok1.length, b1, b2, c2, c3, c4, bin_shl _ _ _ _ _ hk0, Tree.get_set]
      refine ⟨l.length - (i + 1), _, by omega, fun hok b o hb => ⟨o, hb, hok b o hb⟩, i + 1, rfl, by omega, _, n' + 10, by rw [ei]; exact F37_L100_of, by omega, ⟨?_, ?_⟩, ?_⟩
      · rw [Tree.get_set, if_pos rfl, hnext, layB, hI', hK']
        simp only [layS, hz, if_true]
        congr 3
        simp [Frame.setS]
      · rw [hnext]; exact layB_ok hok _ _
      · intro b' hb' hn'
        simp at hn'
        rw [Tree.get_set, if_neg hn', Tree.get_set, if_neg hn', hsame b' hb' (by simp [hn'])]
    · have hok0 := hok.setS I (s := .zero) rfl
      have z : splice (layM fr p (l.take i)).l (36 + I * 12) [.s (.int .i64 0), .s (.int .u64 0), .s (.int .i64 0), .s (.int .u8 0), .s (.int .u8 0), .s (.int .u8 0), .s (.int .u8 0), .s (.int .u8 0), .s (.int .u8 0), .s (.int .u8 0), .s (.int .u8 0), .s (.int .u8 0)] = ((layM fr p (l.take i)).setS I .zero).l := Frame.slotSW hok hI .zero rfl
      have c0 : ((layM fr p (l.take i)).setS I .zero).slot I = .zero := by rw [Frame.slot_setS _ _ _ (by rw [hok.stack]; exact hI), if_pos rfl]
      have hok1 := hok0.setS I (s := { Slot.zero with bytes := Slot.zero.bytes.set k l[i] }) (by simp [Slot.zero])
      have c2 := Frame.slotSB hok0 hI hk l[i]
      rw [c0] at c2
      have c3 := Frame.slotI hok1 hI
      have c4 := Frame.slotSI hok1 hI
      have c5 : (((layM fr p (l.take i)).setS I .zero).setS I { Slot.zero with bytes := Slot.zero.bytes.set k l[i] }).slot I = { Slot.zero with bytes := Slot.zero.bytes.set k l[i] } := by
        rw [Frame.slot_setS _ _ _ (by rw [hok0.stack]; exact hI), if_pos rfl]
      rw [c5] at c3 c4
      simp [hz, hk, storeCells, cellsOwn, hF.1, put_one, put_lst, ble_dec, hok.length, hok0.length, hok1.length, b1, b2, z, c2, c3, c4, bin_shl _ _ _ _ _ hk0, Tree.get_set]
      refine ⟨l.length - (i + 1), _, by omega, fun hok b o hb => ⟨o, hb, hok b o hb⟩, i + 1, rfl, by omega, _, n' + 10, by rw [ei]; exact F37_L100_of, by omega, ⟨?_, ?_⟩, ?_⟩
      · rw [Tree.get_set, if_pos rfl, hnext, layB, hI', hK']
        simp only [layS, hz, if_false]
        congr 3
        simp [Frame.setS]
      · rw [hnext]; exact layB_ok hok _ _
      · intro b' hb' hn'
        simp at hn'
        simp only [Tree.get_set, if_neg hn']
        rw [hsame b' hb' (by simp [hn'])]
  · have : i = l.length := by omega
    subst this
    simp [roundQ]
    refine hQ _ h n _ F37_L100_of hn ?_ hsame
    simpa using hF

theorem lay_ok {f b : Nat} {sl : V} {l : List Int} {p : Nat} {fr : Frame} {x : Int} (hx : x = (p : Int) - 512) (hp : p + l.length ≤ 512) {h : Heap} {n : Nat} (hbf : b ≠ f) (hb : b < n) (hF : FrameAt h f fr) (hs : BytesAt h b sl l) :
    CallK CC 37 [.ptr f 0, .s (.int .i64 x), sl] h n fun v h' n' => FrameAt h' f (layM fr p l) ∧ Same n [f] h h' := by
  refine F37_call fun hlt => ?_
  rw [F37_eq]
  simp [hs.len]
  refine lay_loop (f := f) (b := b) (l := l) (p := p) (fr := fr) hx hp (n0 := n) (h0 := h) hbf hb (hlt f _ hF.1) hs ?_ _ _ ⟨0, h, n, rfl, by omega, F37_L100_of, Nat.le_refl _, by simpa [layM] using hF, fun _ _ _ => rfl⟩
  rintro t13 h' n' s ⟨g, rfl⟩ hn hF' hs'
  rw [F37_r100_0]
  exact ⟨hF', hs'⟩

theorem fill_ok {f b : Nat} {sl : V} {l : List Int} {fr : Frame} (x : Int) (h1 : -9223372036854775808 ≤ x) (h2 : x ≤ 9223372036854775807) {h : Heap} {n : Nat} (hbf : b ≠ f) (hb : b < n) (hF : FrameAt h f fr) (hs : BytesAt h b sl l) :
    CallK CC 17 [.ptr f 0, .s (.int .i64 x), sl] h n fun v h' n' =>
      (l.length ≤ 64 ∧ -512 ≤ x ∧ x + l.length ≤ 0 → v = .s (.int .i64 0) ∧ FrameAt h' f (layM fr (x + 512).toNat l)) ∧ (¬ (l.length ≤ 64 ∧ -512 ≤ x ∧ x + l.length ≤ 0) → v = .s (.int .i64 22) ∧ FrameAt h' f fr) ∧ Same n [f] h h' := by
  refine F17_call fun hlt => ?_
  rw [F17_eq]
  by_cases hl : l.length ≤ 64
  · have hl' : ¬ (64 : Int) < l.length := by omega
    simp [hs.len, hl']
    refine CallK.monoN ?_ (on_ok x l.length h1 h2 h n)
    rintro v h' n' ⟨rfl, rfl, rfl⟩ _
    by_cases hc : -512 ≤ x ∧ x + l.length ≤ 0
    · have hc' : -512 ≤ x ∧ x ≤ 0 ∧ (0 : Int) ≤ l.length ∧ (l.length : Int) ≤ -x := by omega
      simp [hc']
      refine CallK.monoN ?_ (lay_ok (f := f) (b := b) (l := l) (p := (x + 512).toNat) (fr := fr) (by omega) (by omega) hbf hb hF hs)
      rintro v h' n' ⟨hF', hs'⟩ _
      exact ⟨fun _ _ => hF', by omega, hs'⟩
    · have hc' : ¬ (-512 ≤ x ∧ x ≤ 0 ∧ (0 : Int) ≤ l.length ∧ (l.length : Int) ≤ -x) := by omega
      have hc'' : decide (-512 ≤ x ∧ x ≤ 0 ∧ (0 : Int) ≤ l.length ∧ (l.length : Int) ≤ -x) = false := decide_eq_false hc'
      rw [hc'']
      simp
      exact ⟨fun _ _ => by omega, fun _ => hF, fun _ _ _ => rfl⟩
  · have hl' : (64 : Int) < l.length := by omega
    simp [hs.len, hl', hl]
    exact ⟨hF, fun _ _ _ => rfl⟩

theorem sized_ok (x : Int) (h : Heap) (n : Nat) : CallK CC 38 [.s (.int .i64 x)] h n fun v h' n' => v = .s (.bool (decide (x = 1 ∨ x = 2 ∨ x = 4 ∨ x = 8))) ∧ h' = h ∧ n' = n := by
  refine F38_call fun hlt => ?_
  rw [F38_eq]
  by_cases a1 : x = 1
  · simp [a1]
  · by_cases a2 : x = 2
    · simp [a2]
    · by_cases a3 : x = 4
      · simp [a3]
      · by_cases a4 : x = 8 <;> simp [a1, a2, a3, a4]

theorem BytesAt.row {h : Heap} {b : Nat} {v : V} {l : List Int} (H : BytesAt h b v l) : Row h 1 l.length (bytesV' l) v := SliceAt.row H
/-- slices.Clone of bytes. -/
theorem clone_ok {b : Nat} {sl : V} {l : List Int} {h : Heap} {n : Nat} (hb : b < n) (hs : BytesAt h b sl l) (hl : l.length ≤ 140737488355000) :
    CallK CC 21 [sl] h n fun v h' n' => (∃ a, (sl = .s (.slice none 0 0) ∨ n ≤ a) ∧ a < n' ∧ BytesAt h' a v l) ∧ Same n [] h h' ∧ n ≤ n' := by
  refine F21_call fun hlt => ?_
  rw [F21_eq]
  rcases hs with ⟨rfl, h2, h3⟩ | ⟨o, c, op, A, es, rfl, h2, h3, h4⟩
  · have : l = [] := List.length_eq_zero_iff.1 h2
    subst this
    simp
    exact ⟨⟨b, hb, .inl ⟨rfl, rfl, rfl⟩⟩, fun _ _ _ => rfl⟩
  · have hs : BytesAt (h.set n (.cells (.lst []) 1)) b (.slice b o l.length c op) l := SliceAt.of (.inr ⟨o, c, op, A, es, rfl, h2, h3, h4⟩) (by rw [Tree.get_set, if_neg (by omega)])
    simp
    by_cases hm : l.length = 0
    · have : l = [] := List.length_eq_zero_iff.1 hm
      subst this
      refine append_none (cs := []) (by simpa [bytesV'] using hs.row) (by rw [Tree.get_set, if_pos rfl]) (Nat.le_refl _) fun h' he => ?_
      refine ⟨⟨n, Nat.le_refl _, by omega, .inr ⟨0, 0, false, [], 1, rfl, by simp [cellsAt, he, Tree.get_set], by simp [bytesV'], by simp [bytesV']⟩⟩, fun b' hb' _ => by rw [he, Tree.get_set, if_neg (by omega)], by omega⟩
    · refine append_new (cs := bytesV' l) (old := []) (by omega) hs.row (.row (A := []) (es := 1) (by simp [cellsAt, Tree.get_set]) rfl rfl) (by omega) (by omega) fun h' h5 h6 => ?_
      refine ⟨⟨n + 1, by omega, by omega, .inr ⟨0, 0 + l.length, true, bytesV' l, 1, by simp, by simp [cellsAt, h5], by simp [bytes_take], by simp⟩⟩, fun b' hb' _ => by rw [h6 b' (by omega), Tree.get_set, if_neg (by omega)], by omega⟩

/-! ### The stack, byte by byte -/

/-- A packet: its row, and where it begins. -/
structure PacketAt (h : Heap) (q a : Nat) (all : List Int) (beg : Nat) : Prop where
  cell : ∃ op, h.get q = some (.cells (.lst [.slice a 0 all.length all.length op, .s (.int .i64 beg)]) 2)
  row : h.get a = some (.cells (.lst (bytesV' all)) 1)
  beg : beg ≤ all.length
  ne : a ≠ q
theorem PacketAt.of {h h' : Heap} {q a : Nat} {all : List Int} {beg : Nat} (H : PacketAt h q a all beg) (e1 : h'.get q = h.get q) (e2 : h'.get a = h.get a) : PacketAt h' q a all beg :=
  ⟨by rw [e1]; exact H.cell, by rw [e2]; exact H.row, H.beg, H.ne⟩

theorem bytes_ok {q a : Nat} {all : List Int} {beg : Nat} {h : Heap} {n : Nat} (hP : PacketAt h q a all beg) (hl : all.length ≤ 140737488355000) :
    CallK CC 7 [.ptr q 0] h n fun v h' n' => (∃ a', n ≤ a' ∧ a' < n' ∧ BytesAt h' a' v (all.drop beg)) ∧ Same n [] h h' := by
  refine F7_call fun hlt => ?_
  rw [F7_eq]
  obtain ⟨⟨op, h1⟩, h2, h3, h4⟩ := hP
  have han := hlt a _ h2
  simp [cellsAt, h1, bounds, bound, asNat_int, ble_dec, h3]
  have hs : BytesAt h a (.slice a beg (all.length - beg) (all.length - beg) op) (all.drop beg) := by
    refine .inr ⟨beg, all.length - beg, op, bytesV' all, 1, by simp, by simp [cellsAt, h2], ?_, by simp⟩
    simp [bytesV', List.map_drop]
    rw [List.take_of_length_le (by simp)]
  refine CallK.monoN ?_ (clone_ok (b := a) (by omega) hs (by simp; omega))
  rintro v h' n' ⟨⟨a', g1, g2, g3⟩, g4, g5⟩ _
  rcases g1 with g1 | g1
  · cases g1
  · exact ⟨⟨a', by omega, g2, g3⟩, fun b hb hn => g4 b (by omega) hn⟩


/-! ### Memory whose blocks have kinds -/
/-- A number that is none; a number that is one, and not without bound. -/
def NN (x : Nat) : Prop := (Ieee.double.read x).isNaN = false
def FinF (x : Nat) : Prop := ∃ s m e, Ieee.double.read x = .number s m e
inductive K0 where
  | nums (k : IntKind) (lo hi : Nat)
  | rows (lo m : Nat)
  | cell | cmap | arr | hash | lru | one
abbrev Ty0 := Nat → Option K0
def NumsS (τ : Ty0) (k : IntKind) (v : V) (len : Nat) : Prop := ∃ d o c op lo hi, v = .slice d o len c op ∧ τ d = some (.nums k lo hi) ∧ lo ≤ o ∧ o + len ≤ hi ∧ len ≤ c
def RowsS (τ : Ty0) (v : V) (len : Nat) : Prop := (v = .s (.slice none 0 0) ∧ len = 0) ∨ ∃ d o c op lo m, v = .slice d (lo + 2 * o) len c op ∧ τ d = some (.rows lo m) ∧ o + len ≤ m ∧ len ≤ c
def MapE (τ : Ty0) (e : Ent) : Prop := (∃ x, e.k = .s (.int .i64 x)) ∧ ∃ p, e.v = .ptr p 0 ∧ τ p = some .cell
def ByOk (τ : Ty0) (key mx : Int) (by_ progs : V) : Prop :=
  (by_ = .s .nilIface ∧ NumsS τ .i64 progs mx.toNat) ∨ (∃ a, by_ = .iface 125 (.ptr a 0) ∧ τ a = some .arr ∧ key = 4) ∨ (∃ a, by_ = .iface 127 (.ptr a 0) ∧ τ a = some .hash) ∨ ∃ a, by_ = .iface 129 (.ptr a 0) ∧ τ a = some .lru
/-- What a block of a kind holds. -/
def WT (τ : Ty0) (h : Heap) (b : Nat) : K0 → Prop
  | .nums k lo hi => ∃ A es, h.get b = some (.cells (.lst A) es) ∧ hi ≤ A.length ∧ ∀ i, lo ≤ i → i < hi → ∃ x, A[i]? = some (.s (.int k x))
  | .rows lo m => ∃ A es, h.get b = some (.cells (.lst A) es) ∧ lo + 2 * m ≤ A.length ∧ ∀ i, i < m → ∃ (s : ByteArray) (x : Int), A[lo + 2 * i]? = some (.s (.string s)) ∧ A[lo + 2 * i + 1]? = some (.s (.int .i64 x)) ∧ s.size ≤ 16
  | .cell => ∃ v m wr s1 s2 bw la dr, h.get b = some (.cells (.lst [v, .s (.int .i64 wr), .s (.complex .f64 s1 s2), .s (.int .i64 bw), .s (.int .i64 la), .s (.bool dr)]) 6) ∧ NumsS τ .u8 v m ∧ 1 ≤ m ∧ m ≤ 64 ∧ NN s1 ∧ NN s2
  | .cmap => ∃ es ck, h.get b = some (.map es ck) ∧ ∀ e ∈ es, MapE τ e
  | .arr => ∃ v m, h.get b = some (.cells (.lst [v]) 1) ∧ NumsS τ .i64 v m ∧ m ≤ 64
  | .hash => ∃ key mx n ks st cs P, h.get b = some (.cells (.lst [.s (.int .i64 (key : Nat)), .s (.int .i64 mx), .s (.int .i64 n), ks, st, cs]) 6) ∧ NumsS τ .u8 ks (P * key) ∧ NumsS τ .u8 st P ∧ NumsS τ .i64 cs P ∧ 1 ≤ P ∧ P ≤ 1024 ∧ 1 ≤ key ∧ key ≤ 16
  | .lru => ∃ (key most : Nat) (rows : V) (len : Nat), h.get b = some (.cells (.lst [.s (.int .i64 (key : Nat)), .s (.int .i64 (most : Nat)), rows]) 3) ∧ key ≤ 16 ∧ RowsS τ rows len ∧ len ≤ most ∧ 1 ≤ most ∧ most ≤ 64
  | .one => ∃ kind key val mx by_ progs, h.get b = some (.cells (.lst [.s (.int .i64 kind), .s (.int .i64 key), .s (.int .i64 val), .s (.int .i64 mx), by_, progs]) 6) ∧ ByOk τ key mx by_ progs ∧ 1 ≤ key ∧ key ≤ 16 ∧ 1 ≤ val ∧ val ≤ 64 ∧ 1 ≤ mx ∧ mx ≤ 64
def TInv (τ : Ty0) (h : Heap) (n : Nat) : Prop := ∀ b k, τ b = some k → b < n ∧ WT τ h b k
def TLe (τ τ' : Ty0) : Prop := ∀ b k, τ b = some k → τ' b = some k
structure Keep (τ τ' : Ty0) (n : Nat) (fp : List Nat) (h h' : Heap) : Prop where
  ext : TLe τ τ'
  new : ∀ b k, τ' b = some k → τ b = some k ∨ n ≤ b
  same : ∀ b, b < n → τ b = none → b ∉ fp → h'.get b = h.get b

theorem NumsS.le {τ τ' : Ty0} {k : IntKind} {v : V} {len : Nat} (h : TLe τ τ') (H : NumsS τ k v len) : NumsS τ' k v len := by
  obtain ⟨d, o, c, op, lo, hi, h1, h2, h3, h4, h5⟩ := H
  exact ⟨d, o, c, op, lo, hi, h1, h _ _ h2, h3, h4, h5⟩
theorem RowsS.le {τ τ' : Ty0} {v : V} {len : Nat} (h : TLe τ τ') (H : RowsS τ v len) : RowsS τ' v len := by
  rcases H with H | ⟨d, o, c, op, lo, hi, h1, h2, h3, h4⟩
  · exact .inl H
  · exact .inr ⟨d, o, c, op, lo, hi, h1, h _ _ h2, h3, h4⟩
theorem MapE.le {τ τ' : Ty0} {e : Ent} (h : TLe τ τ') (H : MapE τ e) : MapE τ' e := by
  obtain ⟨a, p, b, c⟩ := H
  exact ⟨a, p, b, h _ _ c⟩
theorem ByOk.le {τ τ' : Ty0} {key mx : Int} {a b : V} (h : TLe τ τ') (H : ByOk τ key mx a b) : ByOk τ' key mx a b := by
  rcases H with ⟨h1, h2⟩ | ⟨x, h1, h2, h3⟩ | ⟨x, h1, h2⟩ | ⟨x, h1, h2⟩
  · exact .inl ⟨h1, h2.le h⟩
  · exact .inr (.inl ⟨x, h1, h _ _ h2, h3⟩)
  · exact .inr (.inr (.inl ⟨x, h1, h _ _ h2⟩))
  · exact .inr (.inr (.inr ⟨x, h1, h _ _ h2⟩))
theorem WT.le {τ τ' : Ty0} {h : Heap} {b : Nat} {k : K0} (l : TLe τ τ') (H : WT τ h b k) : WT τ' h b k := by
  cases k with
  | nums => exact H
  | rows => exact H
  | cell => obtain ⟨v, m, wr, s1, s2, bw, la, dr, h1, h2, h3⟩ := H; exact ⟨v, m, wr, s1, s2, bw, la, dr, h1, h2.le l, h3⟩
  | cmap => obtain ⟨es, ck, h1, h2⟩ := H; exact ⟨es, ck, h1, fun e he => (h2 e he).le l⟩
  | arr => obtain ⟨v, m, h1, h2, h3⟩ := H; exact ⟨v, m, h1, h2.le l, h3⟩
  | hash => obtain ⟨key, mx, n, ks, st, cs, P, h1, h2, h3, h4, h5⟩ := H; exact ⟨key, mx, n, ks, st, cs, P, h1, h2.le l, h3.le l, h4.le l, h5⟩
  | lru => obtain ⟨key, most, rows, len, h1, h0, h2, h3⟩ := H; exact ⟨key, most, rows, len, h1, h0, h2.le l, h3⟩
  | one => obtain ⟨kd, key, val, mx, x, y, h1, h2, h3⟩ := H; exact ⟨kd, key, val, mx, x, y, h1, h2.le l, h3⟩
theorem WT.of {τ : Ty0} {h h' : Heap} {b : Nat} {k : K0} (e : h'.get b = h.get b) (H : WT τ h b k) : WT τ h' b k := by
  cases k <;> simp only [WT, e] <;> exact H
theorem TLe.refl (τ : Ty0) : TLe τ τ := fun _ _ h => h
theorem TLe.trans {a b c : Ty0} (h : TLe a b) (g : TLe b c) : TLe a c := fun x k e => g x k (h x k e)
theorem Keep.refl (τ : Ty0) (n : Nat) (fp : List Nat) (h : Heap) : Keep τ τ n fp h h := ⟨.refl _, fun _ _ e => .inl e, fun _ _ _ _ => rfl⟩
theorem Keep.none {τ τ' : Ty0} {n : Nat} {fp : List Nat} {h h' : Heap} (a : Keep τ τ' n fp h h') {x : Nat} (hx : x < n) (e : τ x = none) : τ' x = none := by
  cases e1 : τ' x with
  | none => rfl
  | some k => rcases a.new x k e1 with e2 | e2
              · rw [e] at e2; cases e2
              · omega
theorem Keep.trans {τ τ' τ'' : Ty0} {n n' : Nat} {fp fp' fp'' : List Nat} {h h' h'' : Heap} (a : Keep τ τ' n fp h h') (hn : n ≤ n') (b : Keep τ' τ'' n' fp' h' h'') (s1 : ∀ x ∈ fp, x ∈ fp'' ∨ n ≤ x) (s2 : ∀ x ∈ fp', x ∈ fp'' ∨ n ≤ x) : Keep τ τ'' n fp'' h h'' := by
  refine ⟨a.ext.trans b.ext, fun x k e => ?_, fun x hx e hf => ?_⟩
  · rcases b.new x k e with e1 | e1
    · exact a.new x k e1
    · exact .inr (by omega)
  · rw [b.same x (by omega) (a.none hx e) (fun h => by rcases s2 x h with h | h; exact hf h; omega), a.same x hx e (fun h => by rcases s1 x h with h | h; exact hf h; omega)]
theorem Keep.sub {τ τ' : Ty0} {n : Nat} {fp fp' : List Nat} {h h' : Heap} (a : Keep τ τ' n fp h h') (s : ∀ x ∈ fp, x ∈ fp' ∨ n ≤ x) : Keep τ τ' n fp' h h' :=
  ⟨a.ext, a.new, fun x hx e hf => a.same x hx e fun h => by rcases s x h with h | h; exact hf h; omega⟩
theorem Keep.trans0 {τ τ' τ'' : Ty0} {n n' : Nat} {h h' h'' : Heap} (a : Keep τ τ' n [] h h') (hn : n ≤ n') (b : Keep τ' τ'' n' [] h' h'') : Keep τ τ'' n [] h h'' :=
  a.trans hn b (by simp) (by simp)
theorem Keep.of_same {τ : Ty0} {n : Nat} {fp : List Nat} {h h' : Heap} (s : Same n fp h h') : Keep τ τ n fp h h' := ⟨.refl _, fun _ _ e => .inl e, fun b hb _ hf => s b hb hf⟩
theorem TInv.same {τ : Ty0} {h h' : Heap} {n n' : Nat} (I : TInv τ h n) (s : Same n [] h h') (hn : n ≤ n') : TInv τ h' n' := fun b k e => by
  obtain ⟨h1, h2⟩ := I b k e
  exact ⟨by omega, h2.of (s b h1 (by simp))⟩
/-- A block is written anew, by its kind. -/
theorem TInv.put {τ : Ty0} {h h' : Heap} {n n' b : Nat} {k : K0} (I : TInv τ h n) (hn : n ≤ n') (hb : τ b = some k) (s : ∀ x, x < n → x ≠ b → h'.get x = h.get x) (w : WT τ h' b k) : TInv τ h' n' := fun x kx e => by
  obtain ⟨h1, h2⟩ := I x kx e
  by_cases hx : x = b
  · subst hx; rw [hb] at e; cases e; exact ⟨by omega, w⟩
  · exact ⟨by omega, h2.of (s x h1 hx)⟩
theorem Keep.put {τ : Ty0} {h h' : Heap} {n b : Nat} {k : K0} (hb : τ b = some k) (s : ∀ x, x < n → x ≠ b → h'.get x = h.get x) {fp : List Nat} : Keep τ τ n fp h h' :=
  ⟨.refl _, fun _ _ e => .inl e, fun x hx e _ => s x hx (by rintro rfl; rw [hb] at e; cases e)⟩
/-- A new block gets a kind. -/
def upT (τ : Ty0) (b : Nat) (k : K0) : Ty0 := fun x => if x = b then some k else τ x
theorem upT_same (τ : Ty0) (b : Nat) (k : K0) : upT τ b k b = some k := if_pos rfl
theorem TInv.none {τ : Ty0} {h : Heap} {n b : Nat} (I : TInv τ h n) (hb : n ≤ b) : τ b = none := by
  cases e : τ b with
  | none => rfl
  | some k => have := (I b k e).1; omega
theorem upT_le {τ : Ty0} {b : Nat} {k : K0} (hb : τ b = none) : TLe τ (upT τ b k) := fun x kx e => by
  unfold upT
  rw [if_neg (by rintro rfl; rw [hb] at e; cases e)]
  exact e
theorem TInv.up {τ : Ty0} {h : Heap} {n n' b : Nat} {k : K0} (I : TInv τ h n) (hb : τ b = .none) (hbn : b < n') (hn : n ≤ n') (w : WT (upT τ b k) h b k) : TInv (upT τ b k) h n' := fun x kx e => by
  by_cases hx : x = b
  · subst hx; rw [upT_same] at e; cases e; exact ⟨hbn, w⟩
  · have e' : τ x = some kx := by unfold upT at e; rwa [if_neg hx] at e
    obtain ⟨h1, h2⟩ := I x kx e'
    exact ⟨by omega, h2.le (upT_le hb)⟩
theorem Keep.up {τ : Ty0} {h h' : Heap} {n b : Nat} {k : K0} {fp : List Nat} (hb : n ≤ b) (h0 : τ b = .none) (s : Same n fp h h') : Keep τ (upT τ b k) n fp h h' :=
  ⟨upT_le h0, fun x kx e => by
    by_cases hx : x = b
    · exact .inr (by omega)
    · unfold upT at e; rw [if_neg hx] at e; exact .inl e, fun x hx _ hf => s x hx hf⟩
theorem TInv.weaken {τ : Ty0} {h : Heap} {n n' : Nat} (I : TInv τ h n) (hn : n ≤ n') : TInv τ h n' := fun b k e => by
  obtain ⟨h1, h2⟩ := I b k e
  exact ⟨by omega, h2⟩
theorem TInv.of {τ : Ty0} {h h' : Heap} {n n' : Nat} (I : TInv τ h n) (hn : n ≤ n') (s : ∀ x, x < n → τ x ≠ .none → h'.get x = h.get x) : TInv τ h' n' := fun b k e => by
  obtain ⟨h1, h2⟩ := I b k e
  exact ⟨by omega, h2.of (s b h1 (by rw [e]; simp))⟩
def Stay (τ : Ty0) (n : Nat) (h h' : Heap) (n' : Nat) : Prop := TInv τ h' n' ∧ Keep τ τ n [] h h'
/-- What is made of memory of kinds. -/
def Goes (τ : Ty0) (n : Nat) (fp : List Nat) (h h' : Heap) (n' : Nat) (P : Ty0 → Prop) : Prop := ∃ τ', TInv τ' h' n' ∧ Keep τ τ' n fp h h' ∧ P τ'

/-! ### Complex numbers -/
@[simp] theorem cells_cpx (k : FloatKind) (a b : Nat) : V.cells (.s (.complex k a b)) = some (.one (.s (.complex k a b))) := of_eq rfl
@[simp] theorem vcl_cpx (k : FloatKind) (a b : Nat) : vcl (.s (.complex k a b)) = some [.s (.complex k a b)] := of_eq rfl
theorem write_nn (d : Ieee.Datum) (h : d.isNaN = false) : NN (Ieee.double.write d) := by
  have key : ∀ (s : Bool) (r : Nat), r ≤ Ieee.double.infRung → NN (Ieee.double.word s r) := by
    intro s r hr
    have e1 : Ieee.double.infRung = 9218868437227405312 := by decide
    have e2 : Ieee.double.signWeight = 9223372036854775808 := by decide
    have e3 : Ieee.double.binade = 4503599627370496 := by decide
    unfold NN Ieee.Format.read
    have hm : Ieee.double.word s r % Ieee.double.signWeight = r := by
      rw [e2]; cases s <;> simp only [Ieee.Format.word, e2, if_true, Bool.false_eq_true, if_false] <;> omega
    simp only [hm]
    split
    · rfl
    · split
      · rfl
      · split
        · rfl
        · omega
  cases d with
  | number s m p =>
    simp only [Ieee.Format.write, Ieee.Format.nearest]
    split
    · exact key s 0 (by decide)
    · exact key s _ (Nat.min_le_right _ _)
  | infinity s => exact key s _ (Nat.le_refl _)
  | nan s t => cases h
theorem add_nn {x y : Nat} (hx : NN x) (hy : FinF y) : ∃ r, Ieee.double.add x y = some r ∧ NN r := by
  obtain ⟨s, m, e, hy⟩ := hy
  unfold NN at hx
  unfold Ieee.Format.add
  cases hd : Ieee.double.read x with
  | nan a b => rw [hd] at hx; cases hx
  | infinity a => exact ⟨_, by rw [hy]; rfl, write_nn _ rfl⟩
  | number a b c => exact ⟨_, by rw [hy]; rfl, write_nn _ rfl⟩
theorem cpx_add (t : TypeId) (cst : Bool) {a b c d : Nat} (ha : NN a) (hb : NN b) (hc : FinF c) (hd : FinF d) :
    ∃ x y, binop CC .add t cst (.s (.complex .f64 a b)) (.s (.complex .f64 c d)) = some (.s (.complex .f64 x y)) ∧ NN x ∧ NN y := by
  obtain ⟨x, hx, nx⟩ := add_nn ha hc
  obtain ⟨y, hy, ny⟩ := add_nn hb hd
  refine ⟨x, y, ?_, nx, ny⟩
  have e1 : FloatKind.format .f64 = Ieee.double := rfl
  have f : ∀ u v r, Ieee.double.add u v = some r → Op.Complex.arith .add .f64 u v = Sem.pure r := by
    intro u v r h
    simp only [Op.Complex.arith, Op.floatArith, e1, h]
    rfl
  have : pure? CC.P (Go.binOp .add t (.complex .f64 a b) (.complex .f64 c d)) = some (.complex .f64 x y) := by
    have g : Go.binOp .add t (.complex .f64 a b) (.complex .f64 c d) = Op.complexOp .add .f64 a b c d := rfl
    rw [g]
    simp only [Op.complexOp, f _ _ _ hx, f _ _ _ hy]
    rfl
  simp [binop, bothNil, flatV, scalarBin, this]

/-! ### Beats -/
def arrowN : Nat → Nat × Nat
  | 0 => (4607182418800017408, 0)
  | 1 => (0, 4607182418800017408)
  | 2 => (13830554455654793216, 0)
  | _ => (9223372036854775808, 13830554455654793216)
theorem arrow_mul (t : TypeId) : ∀ i, i < 3 → binop CC .mul t true (.s (.complex .f64 (arrowN i).1 (arrowN i).2)) (.s (.complex .f64 0 4607182418800017408)) = some (.s (.complex .f64 (arrowN (i + 1)).1 (arrowN (i + 1)).2))
  | 0, _ => by kernel_rfl
  | 1, _ => by kernel_rfl
  | 2, _ => by kernel_rfl
  | i + 3, h => by omega
theorem arrow_fin (i : Nat) : FinF (arrowN i).1 ∧ FinF (arrowN i).2 := by
  have a : FinF 4607182418800017408 := ⟨_, _, _, rfl⟩
  have b : FinF 0 := ⟨_, _, _, rfl⟩
  have c : FinF 13830554455654793216 := ⟨_, _, _, rfl⟩
  have d : FinF 9223372036854775808 := ⟨_, _, _, rfl⟩
  match i with
  | 0 => exact ⟨a, b⟩
  | 1 => exact ⟨b, a⟩
  | 2 => exact ⟨c, b⟩
  | _ + 3 => exact ⟨d, c⟩
theorem and3 (x : Int) : ∃ m : Nat, bitsI .and .i64 x 3 = (m : Int) ∧ m ≤ 3 := by
  refine ⟨(BitVec.ofInt 64 x &&& BitVec.ofInt 64 3).toNat, ?_, ?_⟩
  · have : (BitVec.ofInt 64 x &&& BitVec.ofInt 64 3).toNat ≤ 3 := by rw [BitVec.toNat_and]; exact Nat.le_trans Nat.and_le_right (by decide)
    show wrapF .i64 ((BitVec.ofInt 64 x &&& BitVec.ofInt 64 3).toNat : Int) = _
    rw [wrapF_i64 (by omega) (by omega)]
  · rw [BitVec.toNat_and]; exact Nat.le_trans Nat.and_le_right (by decide)
theorem arrow_loop {N : Nat} (hN : N ≤ 3) {Q : X → St → Prop} {h : Heap}
    (hQ : ∀ n s, F134_L110100 (.s (.complex .f64 (arrowN N).1 (arrowN N).2)) (.s (.int .i64 (N : Nat))) (.s (.int .i64 (N : Nat))) h n s → Q (.exit 0) s) :
    ∀ m s, (∃ i n, m = N - i ∧ i ≤ N ∧ F134_L110100 (.s (.complex .f64 (arrowN i).1 (arrowN i).2)) (.s (.int .i64 (N : Nat))) (.s (.int .i64 (i : Nat))) h n s) →
      LoopK CC none (subC [1, 1, 0, 1, 0, 0] (bodyOf Go.Proofs.Tryz.f134)) s Q := by
  refine loopH CCok _ ?_
  rintro m s ⟨i, n, hm, hi, hs⟩ hlt
  obtain ⟨g, rfl⟩ := hs
  rw [F134_b110100]
  by_cases hi' : i < N
  · have e3 : wrapF .i64 ((i : Int) + 1) = ((i + 1 : Nat) : Int) := by rw [wrapF_i64 (by omega) (by omega)]; rfl
    simp [hi', arrow_mul _ i (by omega)]
    exact ⟨N - (i + 1), h, by omega, fun hok b o hb => ⟨o, hb, hok b o hb⟩, i + 1, rfl, by omega, n, by rw [e3]; exact F134_L110100_of⟩
  · have : i = N := by omega
    subst this
    simp [roundQ]
    exact hQ n _ F134_L110100_of
theorem arrow_ok (now : Int) (h : Heap) (n : Nat) : CallK CC 134 [.s (.int .i64 now)] h n fun v h' n' => (∃ a b, v = .s (.complex .f64 a b) ∧ FinF a ∧ FinF b) ∧ h' = h := by
  refine F134_call fun hlt => ?_
  rw [F134_eq]
  obtain ⟨N, e, hN⟩ := and3 now
  simp only [bin_and, oK_some, e]
  refine arrow_loop hN ?_ _ _ ⟨0, n, rfl, by omega, F134_L110100_of⟩
  intro n' s hs
  obtain ⟨g, rfl⟩ := hs
  rw [F134_r110100_0]
  exact ⟨⟨_, _, rfl, (arrow_fin N).1, (arrow_fin N).2⟩, rfl⟩
theorem beat_ok {a b : Nat} (ha : NN a) (hb : NN b) (w la now : Int) (h : Heap) (n : Nat) :
    CallK CC 108 [.agg (.lst [.s (.complex .f64 a b), .s (.int .i64 w), .s (.int .i64 la)]), .s (.int .i64 now)] h n fun v h' n' =>
      (∃ a' b' w', v = .agg (.lst [.s (.complex .f64 a' b'), .s (.int .i64 w'), .s (.int .i64 now)]) ∧ NN a' ∧ NN b') ∧ Same n [] h h' := by
  refine F108_call fun hlt => ?_
  rw [F108_eq]
  simp [cellsAt, Tree.get_set]
  refine CallK.monoN ?_ (arrow_ok now _ _)
  rintro v h1 n1 ⟨⟨c, d, rfl, hc, hd⟩, rfl⟩ hn1
  obtain ⟨x, y, e, nx, ny⟩ := cpx_add 175 false ha hb hc hd
  simp [e, Tree.get_set, storeCells, cellsOwn, Rope.put, ble_dec]
  refine ⟨⟨x, y, ⟨rfl, rfl⟩, nx, ny⟩, ?_⟩
  intro b hb _
  simp only [Tree.get_set]
  rw [if_neg (by omega), if_neg (by omega), if_neg (by omega)]
theorem newBeat_ok (h : Heap) (n : Nat) : CallK CC 106 [] h n fun v h' n' =>
      v = .agg (.lst [.s (.complex .f64 0 0), .s (.int .i64 0), .s (.int .i64 0)]) ∧ Same n [] h h' := by
  refine F106_call fun hlt => ?_
  rw [F106_eq]
  simp [cellsAt, Tree.get_set, storeCells, cellsOwn, Rope.put, ble_dec]
  intro b hb _
  simp only [Tree.get_set]
  rw [if_neg (by omega), if_neg (by omega)]

/-- slices.Clone of some bytes: a block of its own. -/
theorem cloneN_ok {b : Nat} {sl : V} {l : List Int} {h : Heap} {n : Nat} (hb : b < n) (hs : BytesAt h b sl l) (h1 : 1 ≤ l.length) (hl : l.length ≤ 140737488355000) :
    CallK CC 21 [sl] h n fun v h' n' => ∃ a, v = .slice a 0 l.length l.length true ∧ n ≤ a ∧ a < n' ∧ h'.get a = some (.cells (.lst (bytesV' l)) 1) ∧ Same n [] h h' := by
  refine F21_call fun hlt => ?_
  rw [F21_eq]
  rcases hs with ⟨rfl, h2, h3⟩ | ⟨o, c, op, A, es, rfl, h2, h3, h4⟩
  · omega
  · have hs : BytesAt (h.set n (.cells (.lst []) 1)) b (.slice b o l.length c op) l := SliceAt.of (.inr ⟨o, c, op, A, es, rfl, h2, h3, h4⟩) (by rw [Tree.get_set, if_neg (by omega)])
    simp
    refine append_new (cs := bytesV' l) (old := []) (by omega) hs.row (.row (A := []) (es := 1) (by simp [cellsAt, Tree.get_set]) rfl rfl) (by omega) (by omega) fun h' h5 h6 => ?_
    refine ⟨n + 1, by simp, by omega, by omega, by simpa using h5, fun b' hb' _ => by rw [h6 b' (by omega), Tree.get_set, if_neg (by omega)]⟩
theorem bytes_at {l : List Int} {i : Nat} (hi : i < l.length) : (bytesV' l)[i]? = some (.s (.int .u8 l[i])) := by
  simp [bytesV', hi]

/-! ### Cells -/
@[simp] theorem zvCell : zv CC 173 = .s (.pointer none) := of_eq (by kernel_rfl)
def CellsAt (h : Heap) (c M : Nat) (last : Int) : Prop := h.get c = some (.cells (.lst [.map M, .s (.int .i64 last)]) 2)
theorem findKey_cells {τ : Ty0} (x : Int) : ∀ (es : List Ent) (i : Nat), (∀ e ∈ es, MapE τ e) →
    ∃ r, findKey (.int .i64) (.s (.int .i64 x)) es i = some r ∧ ∀ j v, r = some (j, v) → ∃ p, v = .ptr p 0 ∧ τ p = some .cell
  | [], _, _ => ⟨none, rfl, fun _ _ h => by cases h⟩
  | e :: es, i, H => by
    obtain ⟨⟨y, hy⟩, p, hp, ht⟩ := H e (by simp)
    obtain ⟨r, h1, h2⟩ := findKey_cells (τ := τ) x es (i + 1) fun e he => H e (by simp [he])
    unfold findKey
    rw [hy, keyNow_i, Option.bind_some]
    by_cases hxy : x = y
    · simp only [hxy, decide_true, cond_true]
      exact ⟨_, rfl, fun j v e => by cases e; exact ⟨p, hp, ht⟩⟩
    · simp only [hxy, decide_false, cond_false]
      exact ⟨r, h1, h2⟩
theorem MapE.modify {τ : Ty0} {k v : V} (hk : ∃ x, k = .s (.int .i64 x)) (hv : ∃ p, v = .ptr p 0 ∧ τ p = some .cell) : ∀ (i : Nat) (es : List Ent), (∀ e ∈ es, MapE τ e) → ∀ e ∈ modifyAt k v i es, MapE τ e
  | _, [], _, e, he => by simp [modifyAt] at he
  | 0, a :: es, H, e, he => by
    simp only [modifyAt, List.mem_cons] at he
    rcases he with rfl | he
    · exact ⟨hk, hv⟩
    · exact H e (by simp [he])
  | i + 1, a :: es, H, e, he => by
    simp only [modifyAt, List.mem_cons] at he
    rcases he with rfl | he
    · exact H e (by simp)
    · exact MapE.modify hk hv i es (fun e he => H e (by simp [he])) e he
/-- A cell is looked for. -/
theorem look_ok {τ : Ty0} {h : Heap} {n M : Nat} (I : TInv τ h n) (hM : τ M = some .cmap) (x : Int) :
    (lookupW (.int .i64) (.s (.pointer none)) h (.map M) (.s (.int .i64 x)) true = some (.tup [.s (.pointer none), .s (.bool false)])) ∨
    ∃ p, lookupW (.int .i64) (.s (.pointer none)) h (.map M) (.s (.int .i64 x)) true = some (.tup [.ptr p 0, .s (.bool true)]) ∧ τ p = some .cell := by
  obtain ⟨es, ck, hg, H⟩ := (I M _ hM).2
  obtain ⟨r, h1, h2⟩ := findKey_cells x es 0 H
  have hm : mapAt h (.map M) = some (es, ck) := by simp [mapAt, hg]
  cases r with
  | none => left; simp [lookupW, hm, h1]
  | some q =>
    obtain ⟨p, hv, hp⟩ := h2 q.1 q.2 rfl
    right
    refine ⟨p, ?_, hp⟩
    simp [lookupW, hm, h1, hv]
theorem update_ok {τ : Ty0} {h : Heap} {n M : Nat} (I : TInv τ h n) (hM : τ M = some .cmap) (x : Int) {p : Nat} (hp : τ p = some .cell) :
    ∃ h', mapUpdateW (.int .i64) h M (.s (.int .i64 x)) (.ptr p 0) = some h' ∧ TInv τ h' n ∧ ∀ b, b ≠ M → h'.get b = h.get b := by
  obtain ⟨es, ck, hg, H⟩ := (I M _ hM).2
  obtain ⟨r, h1, h2⟩ := findKey_cells x es 0 H
  have hm : mapOwn h M = some (es, ck) := by simp [mapOwn, hg]
  have fin : ∀ es' ck', (∀ e ∈ es', MapE τ e) → TInv τ (h.set M (.map es' ck')) n ∧ ∀ b, b ≠ M → (h.set M (.map es' ck')).get b = h.get b := by
    intro es' ck' H'
    refine ⟨I.put (Nat.le_refl _) hM (fun b _ hb => by rw [Tree.get_set, if_neg hb]) ⟨es', ck', by rw [Tree.get_set, if_pos rfl], H'⟩, fun b hb => by rw [Tree.get_set, if_neg hb]⟩
  cases r with
  | none =>
    refine ⟨_, by simp only [mapUpdateW, hm, Option.bind_some, h1]; rfl, fin _ _ ?_⟩
    intro e he
    rcases List.mem_append.1 he with he | he
    · exact H e he
    · simp at he; subst he; exact ⟨⟨x, rfl⟩, p, rfl, hp⟩
  | some q =>
    refine ⟨_, by simp only [mapUpdateW, hm, Option.bind_some, h1]; rfl, fin _ _ ?_⟩
    exact MapE.modify ⟨x, rfl⟩ ⟨p, rfl, hp⟩ _ _ H
theorem delete_ok {τ : Ty0} {h : Heap} {n M : Nat} (I : TInv τ h n) (hM : τ M = some .cmap) (x : Int) :
    ∃ h', mapDeleteW (.int .i64) h M (.s (.int .i64 x)) = some h' ∧ TInv τ h' n ∧ ∀ b, b ≠ M → h'.get b = h.get b := by
  obtain ⟨es, ck, hg, H⟩ := (I M _ hM).2
  obtain ⟨r, h1, h2⟩ := findKey_cells x es 0 H
  have hm : mapOwn h M = some (es, ck) := by simp [mapOwn, hg]
  have fin : ∀ es' ck', (∀ e ∈ es', MapE τ e) → TInv τ (h.set M (.map es' ck')) n ∧ ∀ b, b ≠ M → (h.set M (.map es' ck')).get b = h.get b := by
    intro es' ck' H'
    refine ⟨I.put (Nat.le_refl _) hM (fun b _ hb => by rw [Tree.get_set, if_neg hb]) ⟨es', ck', by rw [Tree.get_set, if_pos rfl], H'⟩, fun b hb => by rw [Tree.get_set, if_neg hb]⟩
  cases r with
  | none => exact ⟨_, by simp only [mapDeleteW, hm, Option.bind_some, h1]; rfl, fin _ _ H⟩
  | some q => exact ⟨_, by simp only [mapDeleteW, hm, Option.bind_some, h1]; rfl, fin _ _ fun e he => H e (List.mem_of_mem_eraseIdx he)⟩

theorem newCells_ok {τ : Ty0} {h : Heap} {n : Nat} (I : TInv τ h n) : CallK CC 23 [] h n fun v h' n' => Goes τ n [] h h' n' fun τ' => ∃ c M, v = .ptr c 0 ∧ n ≤ c ∧ c < n' ∧ τ' c = none ∧ τ' M = some .cmap ∧ CellsAt h' c M 0 := by
  refine F23_call fun hlt => ?_
  rw [F23_eq]
  simp
  have hs : Same n [] h ((h.set n (.map [] 0)).set (n + 1) (.cells (.lst [.map n, .s (.int .i64 0)]) 2)) := fun b hb _ => by
    rw [Tree.get_set, if_neg (by omega), Tree.get_set, if_neg (by omega)]
  have hn := I.none (Nat.le_refl n)
  refine ⟨upT τ n .cmap, ?_, Keep.up (Nat.le_refl _) hn hs, ?_, n, upT_same _ _ _, by simp [CellsAt, Tree.get_set]⟩
  · exact (I.same hs (n' := n + 2) (by omega)).up hn (by omega) (by omega) ⟨[], 0, by simp [Tree.get_set], by simp⟩
  · unfold upT; rw [if_neg (by omega)]; exact I.none (by omega)
theorem written_ok {τ : Ty0} {h : Heap} {n p : Nat} (I : TInv τ h n) (hp : τ p = some .cell) (now : Int) :
    CallK CC 81 [.ptr p 0, .s (.int .i64 now)] h n fun v h' n' => Stay τ n h h' n' := by
  refine F81_call fun hlt => ?_
  rw [F81_eq]
  obtain ⟨hpn, v, m, wr, s1, s2, bw, la, dr, hg, hv, m1, m2, n1, n2⟩ := I p _ hp
  simp [cellsAt, hg, storeCells, cellsOwn, Rope.put, ble_dec, Tree.get_set]
  refine CallK.monoN ?_ (beat_ok n1 n2 bw la now _ n)
  rintro _ h1 k1 ⟨⟨a, b, w, rfl, na, nb⟩, hs⟩ hn1
  have hg1 := hs p hpn (by simp)
  rw [Tree.get_set, if_pos rfl] at hg1
  simp [hg1, Rope.put]
  have key : ∀ x, x < n → x ≠ p → (h1.set p (.cells (.lst [v, .s (.int .i64 (wrapF .i64 (wr + 1))), .s (.complex .f64 a b), .s (.int .i64 w), .s (.int .i64 now), .s (.bool dr)]) 6)).get x = h.get x := by
    intro x hx hxp
    rw [Tree.get_set, if_neg hxp, hs x hx (by simp), Tree.get_set, if_neg hxp]
  refine ⟨I.put hn1 hp key ⟨v, m, _, a, b, w, now, dr, by rw [Tree.get_set, if_pos rfl], hv, m1, m2, na, nb⟩, Keep.put hp key⟩

def CapOk (v : V) : Prop := ∀ b o l c p, v = .slice b o l c p → l ≤ c
theorem CellsAt.of {h h' : Heap} {c M : Nat} {la : Int} (H : CellsAt h c M la) (e : h'.get c = h.get c) : CellsAt h' c M la := by unfold CellsAt; rw [e]; exact H
/-- A cell of bytes is made. -/
theorem make_ok {τ : Ty0} {h : Heap} {n c M : Nat} {la : Int} (I : TInv τ h n) (hc : c < n) (hct : τ c = none) (hM : τ M = some .cmap) (H : CellsAt h c M la) (h0 : 0 ≤ la) (h9 : la < 4611686018427387904)
    {b : Nat} {sl : V} {l : List Int} (hb : b < n) (hbc : b ≠ c) (hs : BytesAt h b sl l) (hk : CapOk sl) (hl1 : 1 ≤ l.length) (hl9 : l.length ≤ 140737488355000) :
    CallK CC 76 [.ptr c 0, sl] h n fun v h' n' => Goes τ n [c] h h' n' fun τ' => v = .s (.int .i64 (la + 1)) ∧ CellsAt h' c M (la + 1) ∧ Same n [c, M] h h' := by
  refine F76_call fun hlt => ?_
  rw [F76_eq]
  have hg : h.get c = some (.cells (.lst [.map M, .s (.int .i64 la)]) 2) := H
  have e1 : wrapF .i64 (la + 1) = la + 1 := wrapF_i64 (by omega) (by omega)
  have hs1 : BytesAt (h.set c (.cells (.lst [.map M, .s (.int .i64 (la + 1))]) 2)) b sl l := hs.of (by rw [Tree.get_set, if_neg hbc])
  have hMc : M ≠ c := by rintro rfl; rw [hct] at hM; cases hM
  rcases hs1 with ⟨rfl, h2, h3⟩ | ⟨o, k, op, A, es, rfl, h2, h3, h4⟩
  · omega
  have hm : ∃ m : Nat, minW (l.length : Int) 64 = (m : Int) ∧ 1 ≤ m ∧ m ≤ 64 ∧ m ≤ l.length := by
    unfold minW
    split
    · exact ⟨64, rfl, by omega, by omega, by omega⟩
    · exact ⟨l.length, rfl, by omega, by omega, by omega⟩
  obtain ⟨m, em, m1, m2, m3⟩ := hm
  simp [cellsAt, hg, storeCells, cellsOwn, Rope.put, ble_dec, Tree.get_set, e1, em, bounds, bound]
  have hmk : m ≤ k := by have := hk _ _ _ _ _ rfl; omega
  simp only [if_pos hmk, Option.bind_some, Nat.add_zero, Nat.sub_zero, oK_some]
  have hs2 : BytesAt (h.set c (.cells (.lst [.map M, .s (.int .i64 (la + 1))]) 2)) b (.slice b o m k op) (l.take m) := by
    refine .inr ⟨o, k, op, A, es, by simp [Nat.min_eq_left m3], h2, ?_, by simp [Nat.min_eq_left m3]⟩
    have : (A.drop o).take m = ((A.drop o).take (l.length * 1)).take m := by rw [List.take_take]; congr 1; omega
    rw [show (l.take m).length * 1 = m by simp [Nat.min_eq_left m3], this, h3]
    simp [bytesV', List.map_take]
  refine CallK.monoN ?_ (cloneN_ok (by omega) hs2 (by simp; omega) (by simp; omega))
  rintro _ h1 n1 ⟨a, rfl, ha, ha1, hga, hsm1⟩ hn1
  have hc1 : h1.get c = some (.cells (.lst [.map M, .s (.int .i64 (la + 1))]) 2) := by rw [hsm1 c (by omega) (by simp), Tree.get_set, if_pos rfl]
  simp [hc1]
  refine CallK.monoN ?_ (newBeat_ok h1 n1)
  rintro _ h2' n2 ⟨rfl, hsm2⟩ hn2
  have hc2 : h2'.get c = some (.cells (.lst [.map M, .s (.int .i64 (la + 1))]) 2) := by rw [hsm2 c (by omega) (by simp), hc1]
  simp [hc2]
  have I2 : TInv τ h2' n2 := I.of (by omega) fun x hx ht => by
    have hxc : x ≠ c := by rintro rfl; exact ht hct
    rw [hsm2 x (by omega) (by simp), hsm1 x (by omega) (by simp), Tree.get_set, if_neg hxc]
  have hmm : min m l.length = m := Nat.min_eq_left m3
  rw [hmm]
  generalize hh3 : (Tree.set h2' (n + 16) (.cells (.lst [.slice a 0 m m true, .s (.int .i64 0), .s (.complex .f64 0 0), .s (.int .i64 0), .s (.int .i64 0), .s (.bool false)]) 6)) = h3
  have g3 : ∀ x, x ≠ n + 16 → h3.get x = h2'.get x := fun x hx => by rw [← hh3, Tree.get_set, if_neg hx]
  have g3' : h3.get (n + 16) = some (.cells (.lst [.slice a 0 m m true, .s (.int .i64 0), .s (.complex .f64 0 0), .s (.int .i64 0), .s (.int .i64 0), .s (.bool false)]) 6) := by rw [← hh3, Tree.get_set, if_pos rfl]
  have ta : τ a = none := I.none (by omega)
  have I3 : TInv (upT τ a (.nums .u8 0 m)) h3 n2 := by
    refine TInv.up (I2.of (Nat.le_refl _) fun x hx ht => g3 x (by rintro rfl; exact ht (I.none (by omega)))) ta (by omega) (Nat.le_refl _) ⟨bytesV' (l.take m), 1, ?_, by simp; omega, ?_⟩
    · rw [g3 a (by omega), hsm2 a (by omega) (by simp), hga]
    · intro i _ hi
      exact ⟨_, bytes_at (l := l.take m) (by simp; omega)⟩
  have t16 : (upT τ a (.nums .u8 0 m)) (n + 16) = none := by unfold upT; rw [if_neg (by omega)]; exact I.none (by omega)
  have I4 : TInv (upT (upT τ a (.nums .u8 0 m)) (n + 16) .cell) h3 n2 := by
    refine I3.up t16 (by omega) (Nat.le_refl _) ⟨.slice a 0 m m true, m, 0, 0, 0, 0, 0, false, g3', ⟨a, 0, m, true, 0, m, rfl, ?_, by omega, by omega, by omega⟩, m1, m2, ?_, ?_⟩
    · unfold upT; rw [if_neg (by omega), if_pos rfl]
    · rfl
    · rfl
  have hM4 : (upT (upT τ a (.nums .u8 0 m)) (n + 16) .cell) M = some .cmap := upT_le t16 _ _ (upT_le ta _ _ hM)
  obtain ⟨h5, e5, I5, g5⟩ := update_ok I4 hM4 (la + 1) (upT_same _ _ _)
  have hc5 : h5.get c = some (.cells (.lst [.map M, .s (.int .i64 (la + 1))]) 2) := by rw [g5 c (Ne.symm hMc), g3 c (by omega), hc2]
  simp [e5, hc5]
  refine ⟨_, I5, ⟨(upT_le ta).trans (upT_le t16), ?_, ?_⟩, hc5, ?_⟩
  · intro x k e
    by_cases hx : x < n
    · left; unfold upT at e; rwa [if_neg (by omega), if_neg (by omega)] at e
    · exact .inr (by omega)
  · intro x hx ht hxc
    have : x ≠ M := by rintro rfl; rw [ht] at hM; cases hM
    rw [g5 x this, g3 x (by omega), hsm2 x (by omega) (by simp), hsm1 x (by omega) (by simp), Tree.get_set, if_neg (by simpa using hxc)]
  · intro x hx hf
    simp at hf
    rw [g5 x hf.2, g3 x (by omega), hsm2 x (by omega) (by simp), hsm1 x (by omega) (by simp), Tree.get_set, if_neg hf.1]
/-! ### Numbers are written -/
theorem splice_get {A new : List V} {o i : Nat} (h : o + new.length ≤ A.length) : (splice A o new)[i]? = if o ≤ i ∧ i < o + new.length then new[i - o]? else A[i]? := by
  unfold splice
  by_cases h1 : i < o
  · rw [List.getElem?_append_left (by simp; omega), List.getElem?_append_left (by simp; omega), List.getElem?_take_of_lt h1, if_neg (by omega)]
  · by_cases h2 : i < o + new.length
    · rw [List.getElem?_append_left (by simp; omega), List.getElem?_append_right (by simp; omega), if_pos (by omega)]
      congr 1; simp; omega
    · rw [List.getElem?_append_right (by simp; omega), if_neg (by omega), List.getElem?_drop]
      congr 1; simp; omega
theorem splice_len {A new : List V} {o : Nat} (h : o + new.length ≤ A.length) : (splice A o new).length = A.length := by
  unfold splice; simp; omega
theorem put_nums {τ : Ty0} {h h' : Heap} {n n' d lo hi o es : Nat} {k : IntKind} {A new : List V} (I : TInv τ h n) (hn : n ≤ n') (hd : τ d = some (.nums k lo hi)) (hA : hi ≤ A.length) (hi' : ∀ i, lo ≤ i → i < hi → ∃ x, A[i]? = some (.s (.int k x)))
    (h1 : lo ≤ o) (h2 : o + new.length ≤ hi) (hnew : ∀ y ∈ new, ∃ x, y = .s (.int k x)) (hg : h'.get d = some (.cells (.lst (splice A o new)) es)) (s : ∀ x, x ≠ d → h'.get x = h.get x) : Stay τ n h h' n' := by
  refine ⟨I.put hn hd (fun x _ hx => s x hx) ⟨_, _, hg, by rw [splice_len (by omega)]; exact hA, fun i a b => ?_⟩, Keep.put hd (fun x _ hx => s x hx)⟩
  rw [splice_get (by omega)]
  split
  · rename_i hc
    have hl : i - o < new.length := by omega
    obtain ⟨x, hx⟩ := hnew new[i - o] (List.getElem_mem hl)
    exact ⟨x, by rw [List.getElem?_eq_getElem hl, hx]⟩
  · exact hi' i a b
theorem bytesV_int {l : List Int} : ∀ y ∈ bytesV' l, ∃ x, y = .s (.int .u8 x) := by
  intro y hy
  simp only [bytesV', List.mem_map] at hy
  obtain ⟨x, _, rfl⟩ := hy
  exact ⟨x, rfl⟩
theorem Stay.trans {τ : Ty0} {h h' h'' : Heap} {n n' n'' : Nat} (a : Stay τ n h h' n') (hn : n ≤ n') (b : Stay τ n' h' h'' n'') : Stay τ n h h'' n'' := ⟨b.1, a.2.trans0 hn b.2⟩
/-- All of a cell is written. -/
theorem write_ok {τ : Ty0} {h : Heap} {n c M : Nat} {la : Int} (I : TInv τ h n) (hc : c < n) (hM : τ M = some .cmap) (H : CellsAt h c M la) (x now : Int)
    {b : Nat} {sl : V} {l : List Int} (hs : BytesAt h b sl l) :
    CallK CC 54 [.ptr c 0, .s (.int .i64 x), sl, .s (.int .i64 now)] h n fun v h' n' => Stay τ n h h' n' := by
  refine F54_call fun hlt => ?_
  rw [F54_eq]
  have hg : h.get c = some (.cells (.lst [.map M, .s (.int .i64 la)]) 2) := H
  have hl := hs.len h
  simp [cellsAt, hg]
  rcases look_ok I hM x with e | ⟨p, e, hp⟩
  · simp [e]
    exact ⟨I, Keep.refl _ _ _ _⟩
  · obtain ⟨hpn, v, m, wr, s1, s2, bw, la', dr, hgp, hv, m1, m2, n1, n2⟩ := I p _ hp
    obtain ⟨d, o, cc, op, lo, hi, rfl, hd, h1, h2, h3⟩ := hv
    obtain ⟨hdn, A, es, hgd, hA, hi'⟩ := I d _ hd
    simp [e, hl, cellsAt, hgp]
    by_cases hne : l.length = m
    · simp [hne]
      refine copy_ok (by omega) hgd (by omega) hs.row fun h1' hg1 hs1 => ?_
      have st := put_nums (h' := h1') I (Nat.le_refl n) hd hA hi' h1 (new := (bytesV' l).take (min l.length m * 1)) (by simp; omega) (fun y hy => bytesV_int y (List.mem_of_mem_take hy)) hg1 hs1
      refine CallK.monoN ?_ (written_ok st.1 hp now)
      intro _ h2' n2 st2 hn2
      exact st.trans (Nat.le_refl _) st2
    · have hne' : ¬ (l.length : Int) = (m : Int) := by omega
      simp [hne']
      exact ⟨I, Keep.refl _ _ _ _⟩
/-- A cell is no map's any more. -/
theorem drop_ok {τ : Ty0} {h : Heap} {n c M : Nat} {la : Int} (I : TInv τ h n) (hM : τ M = some .cmap) (H : CellsAt h c M la) (x : Int) :
    CallK CC 58 [.ptr c 0, .s (.int .i64 x)] h n fun v h' n' => Stay τ n h h' n' := by
  refine F58_call fun hlt => ?_
  rw [F58_eq]
  have hg : h.get c = some (.cells (.lst [.map M, .s (.int .i64 la)]) 2) := H
  simp [cellsAt, hg]
  rcases look_ok I hM x with e | ⟨p, e, hp⟩
  · simp [e]
    exact ⟨I, Keep.refl _ _ _ _⟩
  · obtain ⟨hpn, v, m, wr, s1, s2, bw, la', dr, hgp, hv, m1, m2, n1, n2⟩ := I p _ hp
    simp [e, cellsAt, hgp]
    cases dr with
    | true => simp; exact ⟨I, Keep.refl _ _ _ _⟩
    | false =>
      simp [storeCells, cellsOwn, hgp, Rope.put, ble_dec]
      have key : ∀ x, x < n → x ≠ p → (h.set p (.cells (.lst [v, .s (.int .i64 wr), .s (.complex .f64 s1 s2), .s (.int .i64 bw), .s (.int .i64 la'), .s (.bool true)]) 6)).get x = h.get x := fun x _ hx => by rw [Tree.get_set, if_neg hx]
      exact ⟨I.put (Nat.le_refl _) hp key ⟨v, m, wr, s1, s2, bw, la', true, by rw [Tree.get_set, if_pos rfl], hv, m1, m2, n1, n2⟩, Keep.put hp key⟩

def intsV' (l : List Int) : List V := l.map fun x => .s (.int .i64 x)
@[simp] theorem intsV'_length (l : List Int) : (intsV' l).length = l.length := by simp [intsV']
@[simp] theorem intsV'_get (l : List Int) (i : Nat) (h : i < (intsV' l).length) : (intsV' l)[i]'h = .s (.int .i64 (l[i]'(by simpa using h))) := by simp [intsV']
theorem index_loop {d : Nat} {l : List Int} (x : Int) {h : Heap} (hg : h.get d = some (.cells (.lst (intsV' l)) 1)) (hl : l.length ≤ 1000000) {Q : X → St → Prop}
    (hQ0 : ∀ n s, F138_L10100 (.slice d 0 l.length l.length false) (.s (.int .i64 x)) (.s (.int .i64 l.length)) (.s (.int .i64 l.length)) h n s → Q (.exit 0) s)
    (hQ1 : ∀ n (L : List V) (k : Nat), x ∈ l → L[4]? = some (.s (.int .i64 k)) → Q .ret ⟨mkTm L, h, n, []⟩) :
    ∀ m s, (∃ i n, m = l.length - i ∧ i ≤ l.length ∧ F138_L10100 (.slice d 0 l.length l.length false) (.s (.int .i64 x)) (.s (.int .i64 l.length)) (.s (.int .i64 i)) h n s) →
      LoopK CC none (subC [1, 0, 1, 0, 0] (bodyOf Go.Proofs.Tryz.f138)) s Q := by
  refine loopH CCok _ ?_
  rintro m s ⟨i, n, hm, hi, hs⟩ hlt
  obtain ⟨g, rfl⟩ := hs
  rw [F138_b10100]
  by_cases hi' : i < l.length
  · have e3 : wrapF .i64 ((i : Int) + 1) = ((i + 1 : Nat) : Int) := by rw [wrapF_i64 (by omega) (by omega)]; rfl
    simp [hi', cellsAt, hg, blt_dec]
    by_cases hx : x = l[i]
    · have hm : x ∈ l := by rw [hx]; exact List.getElem_mem hi'
      simp [← hx, roundQ]
      exact hQ1 _ _ i hm rfl
    · simp [hx]
      exact ⟨l.length - (i + 1), h, by omega, fun hok b o hb => ⟨o, hb, hok b o hb⟩, i + 1, rfl, by omega, _, by rw [e3]; exact F138_L10100_of⟩
  · have : i = l.length := by omega
    subst this
    simp [roundQ]
    exact hQ0 _ _ F138_L10100_of
theorem index_ok {d : Nat} {l : List Int} (x : Int) {h : Heap} {n : Nat} (hg : h.get d = some (.cells (.lst (intsV' l)) 1)) (hl : l.length ≤ 1000000) :
    CallK CC 138 [.slice d 0 l.length l.length false, .s (.int .i64 x)] h n fun v h' n' => (∃ k : Int, v = .s (.int .i64 k) ∧ (0 ≤ k → x ∈ l)) ∧ h' = h := by
  refine F138_call fun hlt => ?_
  rw [F138_eq]
  simp
  refine index_loop x hg hl ?_ ?_ _ _ ⟨0, n, rfl, by omega, F138_L10100_of⟩
  · intro n' s hs
    obtain ⟨g, rfl⟩ := hs
    rw [F138_r10100_0]
    exact ⟨⟨-1, rfl, fun h => by omega⟩, rfl⟩
  · intro n' L k hx hL
    simp [resume, retW, dropDefs, hL]
    exact hx
theorem contains_ok {d : Nat} {l : List Int} (x : Int) {h : Heap} {n : Nat} (hg : h.get d = some (.cells (.lst (intsV' l)) 1)) (hl : l.length ≤ 1000000) :
    CallK CC 114 [.slice d 0 l.length l.length false, .s (.int .i64 x)] h n fun v h' n' => (∃ k : Bool, v = .s (.bool k) ∧ (k = true → x ∈ l)) ∧ h' = h := by
  refine F114_call fun hlt => ?_
  rw [F114_eq]
  refine CallK.monoN ?_ (index_ok x hg hl)
  rintro _ h1 n1 ⟨⟨k, rfl, hk⟩, rfl⟩ hn1
  simp
  exact hk
/-- The bytes of a number in a cell. -/
def PartP (τ : Ty0) (v : V) : Prop := v = .tup [.s (.pointer none), .s (.slice none 0 0), .s (.bool false)] ∨
  ∃ p d o sz c op lo hi, v = .tup [.ptr p 0, .slice d o sz c op, .s (.bool true)] ∧ τ p = some .cell ∧ τ d = some (.nums .u8 lo hi) ∧ lo ≤ o ∧ o + sz ≤ hi ∧ sz ≤ c ∧ sz ≤ 8
theorem part_ok {τ : Ty0} {h : Heap} {n c M : Nat} {la : Int} (I : TInv τ h n) (hM : τ M = some .cmap) (H : CellsAt h c M la) (hc : c < n) (x off size : Int) :
    CallK CC 85 [.ptr c 0, .s (.int .i64 x), .s (.int .i64 off), .s (.int .i64 size)] h n fun v h' n' => PartP τ v ∧ Same n [] h h' := by
  refine F85_call fun hlt => ?_
  rw [F85_eq]
  have hg : h.get c = some (.cells (.lst [.map M, .s (.int .i64 la)]) 2) := H
  simp [cellsAt, hg]
  rcases look_ok I hM x with e | ⟨p, e, hp⟩
  · simp [e]
    exact ⟨.inl rfl, Same.refl _ _ _⟩
  · obtain ⟨hpn, v, m, wr, s1, s2, bw, la', dr, hgp, hv, m1, m2, n1, n2⟩ := I p _ hp
    obtain ⟨d, o, cc, op, lo, hi, rfl, hd, h1, h2, h3⟩ := hv
    simp [e]
    refine CallK.monoN ?_ (contains_ok (l := [1, 2, 4, 8]) size (by simp [Tree.get_set, intsV']) (by decide))
    rintro _ h1' k1 ⟨⟨b, rfl, hb⟩, rfl⟩ hn1
    have hsm : Same n [] h (h.set n (.cells (.lst [.s (.int .i64 1), .s (.int .i64 2), .s (.int .i64 4), .s (.int .i64 8)]) 1)) := Same.new _ _ _ _
    cases b with
    | false => simp; exact ⟨.inl rfl, hsm⟩
    | true =>
      have hsz := hb rfl
      simp
      by_cases ho : off < 0
      · simp [ho]; exact ⟨.inl rfl, hsm⟩
      · obtain ⟨a, rfl⟩ : ∃ a : Nat, off = a := ⟨off.toNat, by omega⟩
        have hpn' : p ≠ n := by omega
        have ha : ¬ ((a : Int) < 0) := by omega
        obtain ⟨z, rfl, z1, z8⟩ : ∃ z : Nat, size = z ∧ 1 ≤ z ∧ z ≤ 8 := by
          simp at hsz
          rcases hsz with rfl | rfl | rfl | rfl
          · exact ⟨1, rfl, by omega, by omega⟩
          · exact ⟨2, rfl, by omega, by omega⟩
          · exact ⟨4, rfl, by omega, by omega⟩
          · exact ⟨8, rfl, by omega, by omega⟩
        simp [ha, cellsAt, Tree.get_set, hpn', hgp]
        by_cases am : m < a
        · simp [am]; exact ⟨.inl rfl, hsm⟩
        · have es : wrapF .i64 ((m : Int) - (a : Int)) = ((m - a : Nat) : Int) := by rw [wrapF_i64 (by omega) (by omega)]; omega
          simp [am, cellsAt, Tree.get_set, hpn', hgp, es]
          by_cases zm : m - a < z
          · simp [zm]; exact ⟨.inl rfl, hsm⟩
          · obtain ⟨y, hy⟩ : ∃ y : Nat, y = a + z := ⟨_, rfl⟩
            have e2 : wrapF .i64 ((a : Int) + (z : Int)) = (y : Int) := by rw [wrapF_i64 (by omega) (by omega)]; omega
            simp [zm, e2, bounds, bound, ble_dec, show y ≤ cc by omega, show a ≤ y by omega]
            exact ⟨.inr ⟨p, d, o + a, z, cc - a, op, lo, hi, by rw [show y - a = z by omega], hp, hd, by omega, by omega, by omega, z8⟩, hsm⟩
theorem store_loop {τ : Ty0} {d o sz c : Nat} {op : Bool} {lo hi : Nat} (hd : τ d = some (.nums .u8 lo hi)) (h1 : lo ≤ o) (h2 : o + sz ≤ hi) (h8 : sz ≤ 8) (v : Int) {t5 t13 : V} {Q : X → St → Prop} {n0 : Nat} {h0 : Heap}
    (hQ : ∀ h n s, F60_L1110100 (.s (.int .u64 v)) t5 t13 (.slice d o sz c op) (.s (.int .i64 sz)) (.s (.int .i64 sz)) h n s → n0 ≤ n → Stay τ n0 h0 h n → Q (.exit 0) s) :
    ∀ m s, (∃ i h n, m = sz - i ∧ i ≤ sz ∧ F60_L1110100 (.s (.int .u64 v)) t5 t13 (.slice d o sz c op) (.s (.int .i64 sz)) (.s (.int .i64 i)) h n s ∧ n0 ≤ n ∧ Stay τ n0 h0 h n) →
      LoopK CC none (subC [1, 1, 1, 0, 1, 0, 0] (bodyOf Go.Proofs.Tryz.f60)) s Q := by
  refine loopH CCok _ ?_
  rintro m s ⟨i, h, n, hm, hi, hs, hn, hst⟩ hlt
  obtain ⟨g, rfl⟩ := hs
  rw [F60_b1110100]
  by_cases hi' : i < sz
  · have e3 : wrapF .i64 ((i : Int) + 1) = ((i + 1 : Nat) : Int) := by rw [wrapF_i64 (by omega) (by omega)]; rfl
    have e4 : wrapF .i64 (8 * (i : Int)) = ((8 * i : Nat) : Int) := by rw [wrapF_i64 (by omega) (by omega)]; rfl
    obtain ⟨hdn, A, es, hgd, hA, hi2⟩ := hst.1 d _ hd
    have e5 := bin_shr (C := CC) 25 false .u64 .i64 v (b := ((8 * i : Nat) : Int)) (by omega)
    simp [hi', e4]
    rw [show (8 * (i : Int)) = ((8 * i : Nat) : Int) by simp]
    simp only [e5, oK_some]
    generalize hw : (V.s (Value.int IntKind.u8 (wrapF IntKind.u8 (shrI IntKind.u64 v ((8 * i : Nat) : Int))))) = w
    have e6 : storeCells h d (o + i) (.one w) = some (h.set d (.cells (.lst (splice A (o + i) [w])) es)) := storeCells_lst hgd (by show o + i + 1 ≤ A.length; omega)
    have st := put_nums (h' := h.set d (.cells (.lst (splice A (o + i) [w])) es)) hst.1 (Nat.le_refl n) hd hA hi2 (o := o + i) (new := [w]) (by omega) (by simp; omega) (by simp [← hw]) (by rw [Tree.get_set, if_pos rfl]) (fun x hx => by rw [Tree.get_set, if_neg hx])
    simp [hi', blt_dec]
    rw [show (8 * (i : Int)) = ((8 * i : Nat) : Int) by simp, hw, e6]
    simp [roundQ]
    exact ⟨sz - (i + 1), by omega, h.set d (.cells (.lst (splice A (o + i) [w])) es), fun hok b o hb => ⟨o, hb, hok b o hb⟩, i + 1, rfl, by omega, _, n, by rw [e3]; exact F60_L1110100_of, hn, hst.trans hn st⟩
  · have : i = sz := by omega
    subst this
    simp [roundQ]
    exact hQ h n _ F60_L1110100_of hn hst
/-- A number is written into a cell. -/
theorem storeC_ok {τ : Ty0} {h : Heap} {n c M : Nat} {la : Int} (I : TInv τ h n) (hM : τ M = some .cmap) (H : CellsAt h c M la) (hc : c < n) (x off size v now : Int) :
    CallK CC 60 [.ptr c 0, .s (.int .i64 x), .s (.int .i64 off), .s (.int .i64 size), .s (.int .u64 v), .s (.int .i64 now)] h n fun r h' n' => (∃ b, r = .s (.bool b)) ∧ Stay τ n h h' n' := by
  refine F60_call fun hlt => ?_
  rw [F60_eq]
  refine CallK.monoN ?_ (part_ok I hM H hc x off size)
  rintro w h1 n1 ⟨hp, hs1⟩ hn1
  have st1 : Stay τ n h h1 n1 := ⟨I.same hs1 hn1, Keep.of_same hs1⟩
  rcases hp with rfl | ⟨p, d, o, sz, k, op, lo, hi, rfl, hp, hd, a1, a2, a3, a4⟩
  · simp; exact st1
  · simp
    refine store_loop (n0 := n1) (h0 := h1) hd a1 a2 a4 v ?_ _ _ ⟨0, h1, n1, rfl, by omega, F60_L1110100_of, by omega, st1.1, Keep.refl _ _ _ _⟩
    intro h2 n2 s hs hn2 st2
    obtain ⟨g, rfl⟩ := hs
    rw [F60_r1110100_0]
    refine CallK.monoN ?_ (written_ok st2.1 hp now)
    intro _ h3 n3 st3 hn3
    exact ⟨.inr rfl, st1.trans hn1 (st2.trans hn2 st3)⟩

/-! ### Cells that are no map's are taken away -/
theorem gone_loop {τ : Ty0} {c M : Nat} {la : Int} (hM : τ M = some .cmap) (hct : τ c = none) (h0' : 0 ≤ la) (h9 : la ≤ 8796093022208) {Q : X → St → Prop} {n0 : Nat} {h0 : Heap} (hc : c < n0) (I0 : TInv τ h0 n0) (H0 : CellsAt h0 c M la)
    (hQ : ∀ (t3 t4 : V) (h : Heap) (n : Nat) (s : St) (l : List Int) (a : Nat), F86_L110100 (.ptr c 0) t3 t4 h n s → n0 ≤ n → n0 ≤ a → GrowAt h a t3 1 l.length (intsV' l) → (t3 = .s (.slice none 0 0) ∧ l = [] ∨ a < n) → l.length ≤ la → Same n0 [] h0 h → Q (.exit 0) s) :
    ∀ m s, (∃ (i : Nat) (h : Heap) (n : Nat) (t3 : V) (l : List Int) (a : Nat), m = la.toNat + 1 - i ∧ 1 ≤ i ∧ (i : Int) ≤ la + 1 ∧ F86_L110100 (.ptr c 0) t3 (.s (.int .i64 i)) h n s ∧ n0 ≤ n ∧ n0 ≤ a ∧ a ≤ n ∧ GrowAt h a t3 1 l.length (intsV' l) ∧ l.length + 1 ≤ i ∧ Same n0 [] h0 h) →
      LoopK CC none (subC [1, 1, 0, 1, 0, 0] (bodyOf Go.Proofs.Tryz.f86)) s Q := by
  refine loopH CCok _ ?_
  rintro m s ⟨i, h, n, t3, l, a, hm, h1, hi, hs, hn, ha, han, hG, hl, hsame⟩ hlt
  obtain ⟨g, rfl⟩ := hs
  rw [F86_b110100]
  replace hlt : ∀ b o, h.get b = some o → b < n := hlt
  have I : TInv τ h n := I0.same hsame hn
  have hg : h.get c = some (.cells (.lst [.map M, .s (.int .i64 la)]) 2) := H0.of (hsame c hc (by simp))
  by_cases hi' : (i : Int) ≤ la
  · have e3 : wrapF .i64 ((i : Int) + 1) = ((i + 1 : Nat) : Int) := by rw [wrapF_i64 (by omega) (by omega)]; rfl
    simp [cellsAt, hg, hi']
    rcases look_ok I hM i with e | ⟨p, e, hp⟩
    · simp [e, roundQ]
      exact ⟨la.toNat + 1 - (i + 1), by omega, h, fun hok b o hb => ⟨o, hb, hok b o hb⟩, i + 1, rfl, by omega, by omega, h, n, t3, by rw [e3]; exact F86_L110100_of, hn, l, a, ha, han, hG, by omega, hsame⟩
    · obtain ⟨hpn, v, m', wr, s1, s2, bw, la', dr, hgp, hv, m1, m2, n1, n2⟩ := I p _ hp
      simp [e, cellsAt, hgp]
      cases dr with
      | false =>
        simp [roundQ]
        exact ⟨la.toNat + 1 - (i + 1), by omega, h, fun hok b o hb => ⟨o, hb, hok b o hb⟩, i + 1, rfl, by omega, by omega, h, n, t3, by rw [e3]; exact F86_L110100_of, hn, l, a, ha, han, hG, by omega, hsame⟩
      | true =>
        simp
        have hs1 : Same n0 [] h0 (h.set n (.cells (.lst [.s (.int .i64 i)]) 1)) := fun b hb _ => by rw [Tree.get_set, if_neg (by omega), hsame b hb (by simp)]
        have hlt' : ∀ b o, (h.set n (.cells (.lst [.s (.int .i64 i)]) 1)).get b = some o → b < n + 1 := fun b o hb => by
          rw [Tree.get_set] at hb
          split at hb
          · omega
          · have := hlt b o hb; omega
        obtain ⟨a2, b1, b2, hG'⟩ : ∃ a2, n0 ≤ a2 ∧ a2 ≤ n ∧ GrowAt (h.set n (.cells (.lst [.s (.int .i64 i)]) 1)) a2 t3 1 l.length (intsV' l) := by
          rcases hG with H | ⟨o, k, op, A, k1, k2, k3, k4⟩
          · exact ⟨a, ha, han, .inl H⟩
          · have := hlt _ _ k3
            exact ⟨a, ha, han, .inr ⟨o, k, op, A, k1, k2, by rw [Tree.get_set, if_neg (by omega)]; exact k3, k4⟩⟩
        refine grow_ok (m := 1) (new := [.s (.int .i64 i)]) (by omega) hG' (.row (A := [.s (.int .i64 i)]) (es := 1) (by simp [cellsAt, Tree.get_set]) rfl rfl) (by omega) (by omega) ?_
        intro v' a' h2 n2' ha' han' hn2 hG2 hs2
        simp [roundQ]
        have hG3 : GrowAt h2 a' v' 1 (l ++ [(i : Int)]).length (intsV' (l ++ [(i : Int)])) := by simpa [intsV'] using hG2
        exact ⟨la.toNat + 1 - (i + 1), by omega, h2, fun hok b o hb => ⟨o, hb, hok b o hb⟩, i + 1, rfl, by omega, by omega, h2, n2', v', by rw [e3]; exact F86_L110100_of, by omega, l ++ [(i : Int)], a', by omega, by omega, hG3, by simp; omega, fun b hb _ => by rw [hs2 b (by omega) (by omega), hs1 b hb (by simp)]⟩
  · simp [cellsAt, hg, hi', roundQ]
    have hor : t3 = .s (.slice none 0 0) ∧ l = [] ∨ a < n := by
      rcases hG with ⟨q1, q2, q3⟩ | ⟨o, k, op, A, k1, k2, k3, k4⟩
      · exact .inl ⟨q1, List.length_eq_zero_iff.1 q2⟩
      · exact .inr (hlt _ _ k3)
    exact hQ _ _ h n _ l a F86_L110100_of hn ha hG hor (by omega) hsame
theorem gone_ok {τ : Ty0} {c M : Nat} {la : Int} {h : Heap} {n : Nat} (I : TInv τ h n) (hM : τ M = some .cmap) (hct : τ c = none) (hc : c < n) (H : CellsAt h c M la) (h0 : 0 ≤ la) (h9 : la ≤ 8796093022208) :
    CallK CC 86 [.ptr c 0] h n fun v h' n' => (∃ (l : List Int) (a : Nat), n ≤ a ∧ GrowAt h' a v 1 l.length (intsV' l) ∧ (v = .s (.slice none 0 0) ∧ l = [] ∨ a < n') ∧ l.length ≤ la) ∧ Same n [] h h' := by
  refine F86_call fun hlt => ?_
  rw [F86_eq]
  refine gone_loop hM hct h0 h9 (n0 := n) (h0 := h) hc I H ?_ _ _ ⟨1, h, n, _, [], n, rfl, by omega, by omega, F86_L110100_of, by omega, by omega, by omega, GrowAt.nil _ _ _, by simp, Same.refl _ _ _⟩
  intro t3 t4 h' n' s l a hs hn ha hG hor hl hsame
  obtain ⟨g, rfl⟩ := hs
  rw [F86_r110100_0]
  exact ⟨⟨l, a, ha, hG, hor, hl⟩, hsame⟩
theorem intsV_at {h : Heap} {a : Nat} {v : V} {l : List Int} (H : SliceAt h a v 1 l.length (intsV' l)) {i : Nat} (hi : i < l.length) :
    ∃ p A es, indexAddr CC 122 v (.s (.int .i64 i)) = some (.ptr a p) ∧ cellsAt h a = some (.lst A, es) ∧ A[p]? = some (.s (.int .i64 l[i])) := by
  rcases H with ⟨rfl, h2, h3⟩ | ⟨o, c, op, A, es, rfl, h2, h3, h4⟩
  · omega
  · refine ⟨o + i, A, es, by simp [hi, blt_dec], h2, ?_⟩
    have : ((A.drop o).take (l.length * 1))[i]? = some (.s (.int .i64 l[i])) := by rw [h3]; simp [hi]
    rw [List.getElem?_take_of_lt (by omega), List.getElem?_drop] at this
    exact this
theorem intsV_len {h h' : Heap} {a : Nat} {v : V} {l : List Int} (H : SliceAt h a v 1 l.length (intsV' l)) : lenV CC h' 122 v = some (.s (.int .i64 l.length)) := by
  rcases H with ⟨rfl, h2, h3⟩ | ⟨o, c, op, A, es, rfl, h2, h3, h4⟩
  · simp [h2]
  · simp
theorem sweep_loop {τ : Ty0} {c M a : Nat} {la : Int} {v : V} {l : List Int} (hl : l.length ≤ 1000000000000000) (hM : τ M = some .cmap) (hct : τ c = none) {Q : X → St → Prop} {n0 : Nat} {h0 : Heap} (hc : c < n0) (H0 : CellsAt h0 c M la)
    (ha : a < n0) (hta : τ a = none) (hv : SliceAt h0 a v 1 l.length (intsV' l))
    (hQ : ∀ t10 h n s, F61_L110100 (.ptr c 0) v v (.s (.int .i64 l.length)) t10 h n s → n0 ≤ n → Stay τ n0 h0 h n → Q (.exit 0) s) :
    ∀ m s, (∃ i h n, m = l.length - i ∧ i ≤ l.length ∧ F61_L110100 (.ptr c 0) v v (.s (.int .i64 l.length)) (.s (.int .i64 i)) h n s ∧ n0 ≤ n ∧ Stay τ n0 h0 h n) →
      LoopK CC none (subC [1, 1, 0, 1, 0, 0] (bodyOf Go.Proofs.Tryz.f61)) s Q := by
  refine loopH CCok _ ?_
  rintro m s ⟨i, h, n, hm, hi, hs, hn, hst⟩ hlt
  obtain ⟨g, rfl⟩ := hs
  rw [F61_b110100]
  by_cases hi' : i < l.length
  · have e3 : wrapF .i64 ((i : Int) + 1) = ((i + 1 : Nat) : Int) := by rw [wrapF_i64 (by omega) (by omega)]; rfl
    have hg : h.get c = some (.cells (.lst [.map M, .s (.int .i64 la)]) 2) := H0.of (hst.2.same c hc hct (by simp))
    obtain ⟨p, A, es, p1, p2, p3⟩ := intsV_at (hv.of (hst.2.same a ha hta (by simp))) hi'
    obtain ⟨h2, d1, I2, d2⟩ := delete_ok hst.1 hM l[i]
    unfold cellsAt at p2
    simp [hi', p1, p2, p3, cellsAt, hg, d1, roundQ]
    have st : Stay τ n h h2 n := ⟨I2, Keep.put hM fun x _ hx => d2 x hx⟩
    exact ⟨l.length - (i + 1), by omega, h2, fun hok b o hb => ⟨o, hb, hok b o hb⟩, i + 1, rfl, by omega, _, _, by rw [e3]; exact F61_L110100_of, hn, hst.trans hn st⟩
  · have : i = l.length := by omega
    subst this
    simp [roundQ]
    exact hQ _ h n _ F61_L110100_of hn hst
theorem sweepC_ok {τ : Ty0} {c M : Nat} {la : Int} {h : Heap} {n : Nat} (I : TInv τ h n) (hM : τ M = some .cmap) (hct : τ c = none) (hc : c < n) (H : CellsAt h c M la) (h0 : 0 ≤ la) (h9 : la ≤ 8796093022208) :
    CallK CC 61 [.ptr c 0] h n fun v h' n' => (∃ k : Int, v = .s (.int .i64 k)) ∧ Stay τ n h h' n' := by
  refine F61_call fun hlt => ?_
  rw [F61_eq]
  refine CallK.monoN ?_ (gone_ok I hM hct hc H h0 h9)
  rintro v h1 n1 ⟨⟨l, a, ha, hG, hor, hl⟩, hs1⟩ hn1
  have st1 : Stay τ n h h1 n1 := ⟨I.same hs1 hn1, Keep.of_same hs1⟩
  have hH1 : CellsAt h1 c M la := H.of (hs1 c hc (by simp))
  have hv : ∃ a, a < n1 ∧ τ a = none ∧ SliceAt h1 a v 1 l.length (intsV' l) := by
    rcases hor with ⟨rfl, rfl⟩ | hor
    · exact ⟨c, by omega, hct, .inl ⟨rfl, rfl, rfl⟩⟩
    · exact ⟨a, hor, I.none ha, hG.at⟩
  obtain ⟨a, ha1, hta, hv⟩ := hv
  have hlen := intsV_len hv (h' := h1)
  simp [hlen]
  refine sweep_loop (by omega) hM hct (n0 := n1) (h0 := h1) (by omega) hH1 ha1 hta hv ?_ _ _ ⟨0, h1, n1, rfl, by omega, F61_L110100_of, by omega, st1.1, Keep.refl _ _ _ _⟩
  intro t10 h2 n2 s hs hn2 st2
  obtain ⟨g, rfl⟩ := hs
  have hlen2 := intsV_len hv (h' := h2)
  rw [F61_r110100_0, hlen2]
  exact ⟨⟨_, rfl⟩, st1.trans hn1 st2⟩

theorem min64 {m : Nat} (h : m ≤ 64) : minW (m : Int) 64 = m := by unfold minW; split <;> omega
theorem max1 {m : Nat} (h : 1 ≤ m) : maxW 1 (m : Int) = m := by unfold maxW; split <;> omega
theorem rep_at {m i : Nat} {x : V} (h : i < m) : (List.replicate m x)[i]? = some x := by simp [h]
theorem arrayNew_loop {τ : Ty0} {c M d a b m sz : Nat} {la : Int} (hm64 : m ≤ 64) (hsz : 1 ≤ sz) (hsz9 : sz ≤ 64) (hM : τ M = some .cmap) (hct : τ c = none) (hbt : τ b = none) (hbc : b ≠ c) (h0' : 0 ≤ la) (h9 : la ≤ 4611686018427380000) (hd : τ d = some (.nums .i64 0 m)) (ha : τ a = some .arr) {Q : X → St → Prop} {n0 : Nat} {h0 : Heap}
    (I0 : TInv τ h0 n0) (hc : c < n0) (hb : b < n0) (H0 : CellsAt h0 c M la) (hga : h0.get a = some (.cells (.lst [.slice d 0 m m false]) 1)) (hgb : h0.get b = some (.cells (.lst (bytesV' (List.replicate sz 0))) 1))
    (hQ : ∀ τ' h n s t24 t25, F49_L1110100 (.ptr c 0) (.ptr a 0) (.slice b 0 sz sz false) t24 t25 h n s → n0 ≤ n → TInv τ' h n → Keep τ τ' n0 [c] h0 h → CellsAt h c M (la + m) → Q (.exit 0) s) :
    ∀ k s, (∃ i τ' h n, k = m - i ∧ i ≤ m ∧ F49_L1110100 (.ptr c 0) (.ptr a 0) (.slice b 0 sz sz false) (.s (.int .i64 (m : Nat))) (.s (.int .i64 (i : Nat))) h n s ∧ n0 ≤ n ∧ TInv τ' h n ∧ Keep τ τ' n0 [c] h0 h ∧ CellsAt h c M (la + i) ∧ h.get a = some (.cells (.lst [.slice d 0 m m false]) 1)) →
      LoopK CC none (subC [1, 1, 1, 0, 1, 0, 0] (bodyOf Go.Proofs.Tryz.f49)) s Q := by
  refine loopH CCok _ ?_
  rintro k s ⟨i, τ', h, n, hk, hi, hs, hn, I, K, H, hga1⟩ hlt
  obtain ⟨g, rfl⟩ := hs
  rw [F49_b1110100]
  by_cases hi' : i < m
  · have e3 : wrapF .i64 ((i : Int) + 1) = ((i + 1 : Nat) : Int) := by rw [wrapF_i64 (by omega) (by omega)]; rfl
    simp [hi', cellsAt, hga1]
    have hgb1 : h.get b = some (.cells (.lst (bytesV' (List.replicate sz 0))) 1) := by rw [K.same b hb hbt (by simpa using hbc)]; exact hgb
    have hbs : BytesAt h b (.slice b 0 sz sz false) (List.replicate sz 0) := .inr ⟨0, sz, false, _, 1, by simp, by simp [cellsAt, hgb1]; rfl, by simpa using List.take_of_length_le (by simp), by simp⟩
    refine CallK.monoN ?_ (make_ok (I.weaken (show n ≤ n + 10 by omega)) (by omega) (K.none hc hct) (K.ext _ _ hM) H (by omega) (by omega) (by omega) hbc hbs (by intro b o l c p e; cases e; omega) (by simp; omega) (by simp; omega))
    rintro v h1 n1 ⟨τ2, I2, K2, rfl, H2, sm⟩ hn1
    have hac : a ≠ c := by rintro rfl; rw [hct] at ha; cases ha
    have haM : a ≠ M := by rintro rfl; rw [hM] at ha; cases ha
    have han : a < n0 := (I0 a _ ha).1
    have hga2 : h1.get a = some (.cells (.lst [.slice d 0 m m false]) 1) := by rw [sm a (by omega) (by simp [hac, haM]), hga1]
    have hd2 := K2.ext _ _ (K.ext _ _ hd)
    have had : a ≠ d := by rintro rfl; rw [hd] at ha; cases ha
    have hcd : c ≠ d := by rintro rfl; rw [hct] at hd; cases hd
    obtain ⟨hdn, A, es, hgd, hA, hi2⟩ := I2 d _ hd2
    generalize hw : (V.s (Value.int IntKind.i64 (la + (i : Int) + 1))) = w
    have e6 : storeCells h1 d i (.one w) = some (h1.set d (.cells (.lst (splice A i [w])) es)) := storeCells_lst hgd (by show i + 1 ≤ A.length; omega)
    have st := put_nums (h' := h1.set d (.cells (.lst (splice A i [w])) es)) I2 (Nat.le_refl _) hd2 hA hi2 (o := i) (new := [w]) (by omega) (by simp; omega) (by simp [← hw]) (by rw [Tree.get_set, if_pos rfl]) (fun x hx => by rw [Tree.get_set, if_neg hx])
    have K2' : Keep τ τ2 n0 [c] h0 h1 := K.trans (by omega) K2 (by simp) (by simp)
    have K3 : Keep τ τ2 n0 [c] h0 (h1.set d (.cells (.lst (splice A i [w])) es)) := K2'.trans (by omega : n0 ≤ n1) st.2 (by simp) (by simp)
    have hw1 : w.cells = some (.one w) := by rw [← hw]; rfl
    have H3 : CellsAt (h1.set d (.cells (.lst (splice A i [w])) es)) c M (la + (i + 1 : Nat)) := by
      have : la + ((i + 1 : Nat) : Int) = la + i + 1 := by omega
      rw [this]
      exact H2.of (by rw [Tree.get_set, if_neg hcd])
    simp [hga2, hi', blt_dec, hw1, e6, roundQ]
    exact ⟨m - (i + 1), by omega, h1.set d (.cells (.lst (splice A i [w])) es), fun hok b o hb => ⟨o, hb, hok b o hb⟩, i + 1, rfl, by omega, τ2, _, _, by rw [e3]; exact F49_L1110100_of, by omega, st.1, K3, H3, by rw [Tree.get_set, if_neg had, hga2]⟩
  · have : i = m := by omega
    subst this
    simp [roundQ]
    exact hQ τ' h n _ _ _ F49_L1110100_of hn I K H
/-- A map by places is made. -/
theorem arrayNew_ok {τ : Ty0} {h : Heap} {n c M m sz : Nat} {la : Int} (I : TInv τ h n) (hm1 : 1 ≤ m) (hm64 : m ≤ 64) (hsz : 1 ≤ sz) (hsz9 : sz ≤ 64) (hM : τ M = some .cmap) (hct : τ c = none) (hc : c < n) (H : CellsAt h c M la) (h0 : 0 ≤ la) (h9 : la ≤ 4611686018427380000) :
    CallK CC 49 [.ptr c 0, .s (.int .i64 (m : Nat)), .s (.int .i64 (sz : Nat))] h n fun v h' n' => Goes τ n [c] h h' n' fun τ' => (∃ a, v = .ptr a 0 ∧ τ' a = some .arr) ∧ CellsAt h' c M (la + m) := by
  refine F49_call fun hlt => ?_
  rw [F49_eq]
  simp [min64 hm64, max1 hm1, min64 hsz9, max1 hsz, ble_dec, blt_dec, show 8 * m ≤ 281474976710656 by omega, show m < 9223372036854775808 by omega, show sz ≤ 281474976710656 by omega, show sz < 9223372036854775808 by omega, cellsAt, Tree.get_set]
  generalize hh : (((h.set n (.cells (.lst (List.replicate m (.s (.int .i64 0)))) 1)).set (n + 1) (.cells (.lst [.slice n 0 m m false]) 1)).set (n + 1 + 1) (.cells (.lst (List.replicate sz (.s (.int .u8 0)))) 1)) = h1
  have hs1 : Same n [] h h1 := fun b hb _ => by rw [← hh, Tree.get_set, if_neg (by omega), Tree.get_set, if_neg (by omega), Tree.get_set, if_neg (by omega)]
  have g0 : h1.get n = some (.cells (.lst (List.replicate m (.s (.int .i64 0)))) 1) := by rw [← hh, Tree.get_set, if_neg (by omega), Tree.get_set, if_neg (by omega), Tree.get_set, if_pos rfl]
  have g1 : h1.get (n + 1) = some (.cells (.lst [.slice n 0 m m false]) 1) := by rw [← hh, Tree.get_set, if_neg (by omega), Tree.get_set, if_pos rfl]
  have g2 : h1.get (n + 2) = some (.cells (.lst (List.replicate sz (.s (.int .u8 0)))) 1) := by rw [← hh, Tree.get_set, if_pos rfl]
  have t0 := I.none (Nat.le_refl n)
  have I1 : TInv (upT τ n (.nums .i64 0 m)) h1 (n + 3) := (I.same hs1 (n' := n + 3) (by omega)).up t0 (by omega) (by omega) ⟨_, 1, g0, by simp, fun i _ hi => ⟨0, rep_at hi⟩⟩
  have t1 : upT τ n (.nums .i64 0 m) (n + 1) = none := by unfold upT; rw [if_neg (by omega)]; exact I.none (by omega)
  have I2 : TInv (upT (upT τ n (.nums .i64 0 m)) (n + 1) .arr) h1 (n + 3) := I1.up t1 (by omega) (by omega) ⟨_, m, g1, ⟨n, 0, m, false, 0, m, rfl, by unfold upT; rw [if_neg (by omega), if_pos rfl], by omega, by omega, by omega⟩, hm64⟩
  have L2 : TLe τ (upT (upT τ n (.nums .i64 0 m)) (n + 1) .arr) := (upT_le t0).trans (upT_le t1)
  have N2 : ∀ x, x ≠ n → x ≠ n + 1 → upT (upT τ n (.nums .i64 0 m)) (n + 1) .arr x = τ x := fun x h1 h2 => by unfold upT; rw [if_neg h2, if_neg h1]
  have K2 : Keep τ (upT (upT τ n (.nums .i64 0 m)) (n + 1) .arr) n [c] h h1 := ⟨L2, fun x k e => by
    by_cases hx : x < n
    · left; rw [N2 x (by omega) (by omega)] at e; exact e
    · exact .inr (by omega), fun x hx _ _ => hs1 x hx (by simp)⟩
  refine arrayNew_loop (τ := upT (upT τ n (.nums .i64 0 m)) (n + 1) .arr) (d := n) (a := n + 1) (b := n + 2) hm64 hsz hsz9 (L2 _ _ hM) (by rw [N2 c (by omega) (by omega)]; exact hct) (by rw [N2 _ (by omega) (by omega)]; exact I.none (by omega)) (by omega) h0 h9
    (by unfold upT; rw [if_neg (by omega), if_pos rfl]) (upT_same _ _ _) (n0 := n + 3) (h0 := h1) I2 (by omega) (by omega) (H.of (hs1 c hc (by simp))) g1 (by rw [g2]; simp [bytesV']) ?_ _ _ ⟨0, _, h1, n + 3, rfl, by omega, F49_L1110100_of, by omega, I2, Keep.refl _ _ _ _, by simpa using H.of (hs1 c hc (by simp)), g1⟩
  intro τ' h2 n2 s t24 t25 hs hn I3 K3 H3
  obtain ⟨g, rfl⟩ := hs
  rw [F49_r1110100_0]
  exact ⟨τ', I3, K2.trans (by omega) K3 (by simp) (by simp), ⟨n + 1, rfl, K3.ext _ _ (upT_same _ _ _)⟩, H3⟩
/-- The cell of a place. -/
theorem arrayCell_ok {τ : Ty0} {h : Heap} {n a : Nat} (I : TInv τ h n) (ha : τ a = some .arr) (i : Int) :
    CallK CC 78 [.ptr a 0, .s (.int .i64 i)] h n fun v h' n' => (∃ (x : Int) (b : Bool), v = .tup [.s (.int .i64 x), .s (.bool b)]) ∧ h' = h := by
  refine F78_call fun hlt => ?_
  rw [F78_eq]
  obtain ⟨han, v, m, hga, ⟨d, o, c, op, lo, hi, rfl, hd, h1, h2, h3⟩, hm⟩ := I a _ ha
  obtain ⟨hdn, A, es, hgd, hA, hi2⟩ := I d _ hd
  by_cases hi0 : i < 0
  · simp [hi0]
  · obtain ⟨k, rfl⟩ : ∃ k : Nat, i = k := ⟨i.toNat, by omega⟩
    by_cases hk : k < m
    · obtain ⟨x, hx⟩ := hi2 (o + k) (by omega) (by omega)
      simp [hi0, cellsAt, hga, hk, blt_dec, hgd, hx, show ¬ (m ≤ k) by omega]
    · simp [hi0, cellsAt, hga, show m ≤ k by omega]
end Go.Ev
