import Derived.Test.YtkliejijdjbbkaaGreatHC1
namespace Go.Ev
set_option maxRecDepth 20000

/-! ### What was laid is read -/
def Frame.Inits (fr : Frame) : Prop := ∀ i, ∃ m : Nat, m < 256 ∧ (fr.slot i).init = m
theorem shr_nat (X j : Nat) (hj : j < 8) : shrI .u8 (X : Int) (j : Int) = ((X >>> j : Nat) : Int) := by
  unfold shrI
  have h : min ((j : Int)).toNat (IntKind.u8).bits = j := by
    have : (IntKind.u8).bits = 8 := rfl
    rw [this, Int.toNat_natCast]; omega
  rw [h, Int.fdiv_eq_ediv_of_nonneg _ (by have := Int.pow_pos (n := 2) (m := j) (by decide); omega), Nat.shiftRight_eq_div_pow]
  simp
theorem bitU {X j : Nat} (hX : X < 256) (hj : j < 8) : (bitsI .and .u8 (shrI .u8 (X : Int) (j : Int)) 1 = 0) ↔ X.testBit j = false := by
  rw [shr_nat X j hj]
  have h1 : X >>> j < p2 .u8 := by
    rw [Nat.shiftRight_eq_div_pow]
    exact Nat.lt_of_le_of_lt (Nat.div_le_self _ _) hX
  have := bitsI_and (k := .u8) rfl h1 (show 1 < p2 .u8 by decide)
  rw [show ((1 : Nat) : Int) = 1 from rfl] at this
  rw [this]
  unfold Nat.testBit
  rw [Nat.and_comm]
  generalize 1 &&& X >>> j = y
  cases y with
  | zero => simp
  | succ y => simp; omega
theorem shl_one : ∀ k : Nat, k < 8 → shlI .u8 1 (k : Int) = ((2 ^ k : Nat) : Int) := by decide
theorem or_pow {m k : Nat} (hm : m < 256) (hk : k < 8) : bitsI .or .u8 (m : Int) (shlI .u8 1 (k : Int)) = ((m ||| 2 ^ k : Nat) : Int) ∧ (m ||| 2 ^ k) < 256 := by
  have h2 : 2 ^ k < 2 ^ 8 := Nat.pow_lt_pow_right (by decide) hk
  rw [shl_one k hk]
  exact ⟨bitsI_or (k := .u8) rfl hm h2, Nat.or_lt_two_pow (n := 8) hm h2⟩
theorem layS_init {fr : Frame} (hI : fr.Inits) (i : Nat) : ∃ m : Nat, m < 256 ∧ (layS (fr.slot i)).init = m := by
  unfold layS
  split
  · exact hI i
  · exact ⟨0, by decide, rfl⟩
theorem layS_kind (s : Slot) : (layS s).val.kind = 0 := by
  unfold layS
  split
  · assumption
  · rfl
theorem slot_layB {fr : Frame} (h : fr.Ok) (p : Nat) (hp : p < 512) (c : Int) (i : Nat) : (layB fr p c).slot i = if i = p / 8 then { layS (fr.slot (p / 8)) with bytes := (layS (fr.slot (p / 8))).bytes.set (p % 8) c, init := bitsI .or .u8 (layS (fr.slot (p / 8))).init (shlI .u8 1 (p % 8 : Nat)) } else fr.slot i := by
  unfold layB
  rw [Frame.slot_setS _ _ _ (by rw [h.stack]; omega)]
  by_cases e : i = p / 8
  · rw [if_pos e, if_pos e.symm]
  · rw [if_neg e, if_neg (fun h => e h.symm)]
theorem layB_inits {fr : Frame} (h : fr.Ok) (hI : fr.Inits) {p : Nat} (hp : p < 512) (c : Int) : (layB fr p c).Inits := by
  intro i
  rw [slot_layB h p hp]
  split
  · obtain ⟨m, hm, e⟩ := layS_init hI (p / 8)
    obtain ⟨e2, l2⟩ := or_pow hm (Nat.mod_lt p (show 0 < 8 by decide))
    exact ⟨_, l2, by simp only; rw [e, e2]⟩
  · exact hI i
theorem rdB_lay_same {fr : Frame} (h : fr.Ok) (hI : fr.Inits) {p : Nat} (hp : p < 512) (c : Int) : rdB (layB fr p c) p = some c := by
  have hk : p % 8 < 8 := Nat.mod_lt p (by decide)
  obtain ⟨m, hm, e⟩ := layS_init hI (p / 8)
  obtain ⟨e2, l2⟩ := or_pow hm hk
  unfold rdB
  rw [slot_layB h p hp, if_pos rfl]
  simp only
  rw [layS_kind, e, e2, if_neg]
  · rw [List.getElem?_set_self (by rw [layS8 h]; exact hk)]; rfl
  · rintro (h1 | h1)
    · exact h1 rfl
    · rw [bitU l2 hk, Nat.testBit_or, Nat.testBit_two_pow_self] at h1
      simp at h1
theorem rdB_lay_ne {fr : Frame} (h : fr.Ok) (hI : fr.Inits) {p p' : Nat} (hp : p < 512) (hne : p' ≠ p) (c : Int) : rdB (layB fr p c) p' = rdB fr p' := by
  have hk : p % 8 < 8 := Nat.mod_lt p (by decide)
  have hk' : p' % 8 < 8 := Nat.mod_lt p' (by decide)
  unfold rdB
  rw [slot_layB h p hp]
  by_cases hs : p' / 8 = p / 8
  · have hkk : p % 8 ≠ p' % 8 := by omega
    rw [if_pos hs, hs]
    obtain ⟨m, hm, e⟩ := layS_init hI (p / 8)
    obtain ⟨e2, l2⟩ := or_pow hm hk
    simp only
    rw [layS_kind, e, e2]
    have hb : (bitsI .and .u8 (shrI .u8 ((m ||| 2 ^ (p % 8) : Nat) : Int) ((p' % 8 : Nat) : Int)) 1 = 0) ↔ m.testBit (p' % 8) = false := by
      rw [bitU l2 hk', Nat.testBit_or, Nat.testBit_two_pow_of_ne hkk, Bool.or_false]
    by_cases hz : (fr.slot (p / 8)).val.kind = 0
    · have el : layS (fr.slot (p / 8)) = fr.slot (p / 8) := by unfold layS; rw [if_pos hz]
      rw [el] at e ⊢
      have hb2 : (bitsI .and .u8 (shrI .u8 (fr.slot (p / 8)).init ((p' % 8 : Nat) : Int)) 1 = 0) ↔ m.testBit (p' % 8) = false := by
        rw [e]; exact bitU hm hk'
      rw [List.getElem?_set_ne hkk]
      by_cases ht : m.testBit (p' % 8) = false
      · rw [if_pos (.inr (hb.2 ht)), if_pos (.inr (hb2.2 ht))]
      · rw [if_neg, if_neg]
        · rintro (h1 | h1)
          · exact h1 hz
          · exact ht (hb2.1 h1)
        · rintro (h1 | h1)
          · exact h1 rfl
          · exact ht (hb.1 h1)
    · have el : layS (fr.slot (p / 8)) = .zero := by unfold layS; rw [if_neg hz]
      rw [el] at e
      have hm0 : m = 0 := by simp [Slot.zero] at e; omega
      subst hm0
      rw [if_pos (.inr (hb.2 (by simp))), if_pos (.inl hz)]
  · rw [if_neg hs]
theorem layM_inits : ∀ {l : List Int} {fr : Frame} {p : Nat}, fr.Ok → fr.Inits → p + l.length ≤ 512 → (layM fr p l).Inits
  | [], _, _, _, hI, _ => hI
  | c :: l, fr, p, h, hI, hp => by
    simp at hp
    exact layM_inits (l := l) (layB_ok h p c) (layB_inits h hI (by omega) c) (by omega)
theorem rdB_layM_out : ∀ {l : List Int} {fr : Frame} {p p' : Nat}, fr.Ok → fr.Inits → p + l.length ≤ 512 → (p' < p ∨ p + l.length ≤ p') → rdB (layM fr p l) p' = rdB fr p'
  | [], _, _, _, _, _, _, _ => rfl
  | c :: l, fr, p, p', h, hI, hp, ho => by
    simp at hp ho
    rw [layM, rdB_layM_out (l := l) (layB_ok h p c) (layB_inits h hI (by omega) c) (by omega) (by omega), rdB_lay_ne h hI (by omega) (by omega)]
theorem rdB_layM_in : ∀ {l : List Int} {fr : Frame} {p i : Nat}, fr.Ok → fr.Inits → p + l.length ≤ 512 → (hi : i < l.length) → rdB (layM fr p l) (p + i) = some l[i]
  | [], _, _, _, _, _, _, hi => by simp at hi
  | c :: l, fr, p, 0, h, hI, hp, hi => by
    simp at hp
    rw [layM, rdB_layM_out (l := l) (layB_ok h p c) (layB_inits h hI (by omega) c) (by omega) (by omega), Nat.add_zero, rdB_lay_same h hI (by omega)]
    rfl
  | c :: l, fr, p, i + 1, h, hI, hp, hi => by
    simp at hp hi
    rw [layM, show p + (i + 1) = p + 1 + i by omega, rdB_layM_in (l := l) (layB_ok h p c) (layB_inits h hI (by omega) c) (by omega) hi]
    rfl
theorem rdM_of : ∀ {l : List Int} {fr : Frame} {p : Nat}, (∀ i (hi : i < l.length), rdB fr (p + i) = some l[i]) → rdM fr p l.length = some l
  | [], _, _, _ => rfl
  | c :: l, fr, p, H => by
    have h0 := H 0 (by simp)
    rw [Nat.add_zero] at h0
    have h1 : rdM fr (p + 1) l.length = some l := rdM_of fun i hi => by
      have := H (i + 1) (by simpa using hi)
      rw [show p + 1 + i = p + (i + 1) by omega, this]; rfl
    rw [List.length_cons, rdM, h0, Option.bind_some, h1]; rfl
theorem rdM_layM {l : List Int} {fr : Frame} {p : Nat} (h : fr.Ok) (hI : fr.Inits) (hp : p + l.length ≤ 512) : rdM (layM fr p l) p l.length = some l :=
  rdM_of fun _ hi => rdB_layM_in h hI hp hi
theorem rdB_told (fr : Frame) (v : Val) (p : Nat) : rdB (fr.told v) p = rdB fr p := rfl
theorem rdM_told (fr : Frame) (v : Val) : ∀ (n p : Nat), rdM (fr.told v) p n = rdM fr p n
  | 0, _ => rfl
  | n + 1, p => by rw [rdM, rdM, rdB_told, rdM_told fr v n]
theorem rdM_one (fr : Frame) (p : Nat) : rdM fr p 1 = (rdB fr p).map fun c => [c] := by
  rw [rdM]
  cases rdB fr p <;> rfl

theorem hsub_of {h h' : Heap} {n : Nat} (hlt : ∀ b o, h.get b = some o → b < n) (hok : HOk h') (he : ∀ b, b < n → h'.get b = h.get b) : HSub h h' := by
  intro b o hb
  have hb' := hlt b o hb
  rw [← he b hb'] at hb
  exact ⟨o, hb, hok b o hb⟩

theorem memNew_ok {b : Nat} {sl : V} {l : List Int} {h : Heap} {n : Nat} (hs : BytesAt h b sl l) (hb : b < n) (hl : l.length ≤ 65535) :
    CallK CC 36 [sl] h n fun v h' n' => (∃ q a, v = .tup [.ptr q 0, .s (.int .i64 0)] ∧ PacketAt h' q a (List.replicate 64 0 ++ l) 64 ∧ n ≤ q ∧ n ≤ a ∧ q < n' ∧ a < n') ∧ Same n [] h h' := by
  refine F36_call fun hlt => ?_
  rw [F36_eq]
  have hl' : ¬ (65535 : Int) < l.length := by omega
  have e1 : wrapF .i64 (64 + (l.length : Int)) = ((64 + l.length : Nat) : Int) := by rw [wrapF_i64 (by omega) (by omega)]; omega
  have n1 : (0 : Int) ≤ 64 + (l.length : Int) := by omega
  have n2 : (64 + (l.length : Int)).toNat = 64 + l.length := by omega
  have n3 : 64 + l.length ≤ 281474976710656 ∧ 64 + l.length < 9223372036854775808 := by omega
  have n4 : 64 + l.length - 64 = l.length := by omega
  simp [hs.len, hl', e1, asNat_int, ble_dec, blt_dec, n1, n2, n3, n4, bounds, bound, -List.reduceReplicate]
  have hs' : BytesAt (h.set n (.cells (.lst (List.replicate (64 + l.length) (.s (.int .u8 0)))) 1)) b sl l := hs.of (by rw [Tree.get_set, if_neg (by omega)])
  refine copy_ok (b := n) (o := 64) (len := l.length) (c := l.length) (es := 1) (op := false) (by decide) (by rw [Tree.get_set, if_pos rfl]) (by simp) hs'.row fun h2 g2 s2 => ?_
  have hm : min l.length l.length * 1 = l.length := by omega
  rw [hm, bytes_take] at g2
  have e : splice (List.replicate (64 + l.length) (V.s (.int .u8 0))) 64 (bytesV' l) = bytesV' (List.replicate 64 0 ++ l) := by
    simp only [splice, bytesV'_length]
    rw [List.take_replicate, List.drop_replicate, show min 64 (64 + l.length) = 64 by omega, show 64 + l.length - (64 + l.length) = 0 by omega]
    simp [bytesV', -List.reduceReplicate]
  rw [e] at g2
  refine ⟨⟨n, ⟨⟨false, ?_⟩, ?_, ?_, by omega⟩, by omega, by omega⟩, ?_⟩
  · rw [Tree.get_set, if_pos rfl]; simp [-List.reduceReplicate]
  · rw [Tree.get_set, if_neg (by omega)]; exact g2
  · simp
  · intro b' hb' _
    rw [Tree.get_set, if_neg (by omega), s2 b' (by omega), Tree.get_set, if_neg (by omega)]
/-- The frame with which a program begins. -/
def Frame.start (p t : Int) : Frame := ⟨p, 0, t, [.zero, ⟨5, 0, 0⟩, .zero, .zero, .zero, .zero, .zero, .zero, .zero, .zero, ⟨4, 0, 0⟩], List.replicate 64 .zero⟩
theorem Frame.start_ok (p t : Int) : (Frame.start p t).Ok := ⟨rfl, rfl, fun s hs => by rw [List.eq_of_mem_replicate hs]; rfl⟩
theorem Frame.start_inits (p t : Int) : (Frame.start p t).Inits := by
  intro i
  refine ⟨0, by decide, ?_⟩
  unfold Frame.slot Frame.start
  simp only
  rw [List.getElem?_replicate]
  split <;> rfl
theorem frameStart (p t : Int) (h : Heap) (n : Nat) : CallK CC 39 [.s (.int .i64 p), .s (.int .i64 t)] h n fun v h' n' => v = .agg (.lst (Frame.start p t).l) ∧ Same n [] h h' := by
  refine F39_call fun hlt => ?_
  rw [F39_eq]
  simp
  rw [storeCells_lst (by rw [Tree.get_set_same]) (by simp)]
  simp [cellsAt, Tree.get_set_same]
  refine ⟨by kernel_rfl, fun b hb _ => ?_⟩
  simp only [Tree.get_set]
  rw [if_neg (by omega), if_neg (by omega)]

theorem BytesAt.vcl {h : Heap} {b : Nat} {sl : V} {l : List Int} (H : BytesAt h b sl l) : vcl sl = some [sl] ∧ normV sl = sl ∧ V.cells sl = some (.one sl) := by
  rcases H with ⟨rfl, _⟩ | ⟨o, c, op, A, es, rfl, _⟩
  · simp
  · simp
/-- A world with a packet and a stack. -/
def worldC (pk st : V) : List V := [.s (.slice none 0 0), pk, .s (.slice none 0 0), .s (.int .i64 0), st, .s (.int .i64 0), .s (.int .u64 0), .s (.int .i64 0)]

theorem long12_nil (h : Heap) (n : Nat) : CallK CC 18 [.s (.slice none 0 0)] h n fun v h' n' => v = .s (.bool false) ∧ h' = h ∧ n' = n := by
  refine F18_call fun hlt => ?_
  rw [F18_eq]
  simp
  refine loop_once CCok ?_
  rw [F18_b110100]
  simp [roundQ]
  rw [F18_r110100_0]
  simp
theorem long16 {b c : Nat} {pk st : V} {P S : List Int} {h : Heap} {n : Nat} (hp : BytesAt h b pk P) (hs : BytesAt h c st S) (hS : S.length ≤ 64) : CallK CC 9 [.agg (.lst (worldC pk st)), .s (.slice none 0 0)] h n fun v h' n' => v = .s (.bool (decide ((4096 : Int) < P.length))) ∧ h' = h ∧ n ≤ n' := by
  refine (CallK.hkeep (K := fun v h' n' => v = .s (.bool (decide ((4096 : Int) < P.length))) ∧ h' = h.set n (.cells (.lst (worldC pk st)) 8)) ?_ ?_)
  · refine F9_call fun hlt => ?_
    rw [F9_eq]
    simp [cellsAt, Tree.get_set, worldC]
    refine CallK.mono' ?_ (long12_nil _ _)
    rintro v h' n' ⟨rfl, rfl, rfl⟩
    have hS' : ¬ (64 : Int) < S.length := by omega
    simp [cellsAt, Tree.get_set, worldC, hp.len, hs.len, hp.vcl, hs.vcl]
    by_cases hm : (4096 : Int) < P.length
    · simp [hm, cellsAt, Tree.get_set, worldC, hp.len, hs.len, hp.vcl, hs.vcl, hS']
    · simp [hm, cellsAt, Tree.get_set, worldC, hp.len, hs.len, hp.vcl, hs.vcl, hS']
      refine loop_once CCok ?_
      rw [F9_b110100]
      simp [roundQ]
      rw [F9_r110100_0]
      simp
  · rintro hlt v h' n' ⟨rfl, rfl⟩ hn hok
    refine ⟨h, fun b o hb => ⟨o, ?_, ?_⟩, rfl, rfl, hn⟩
    · rw [Tree.get_set_ne _ _ (by have := hlt b o hb; omega)]; exact hb
    · exact hok b o (by rw [Tree.get_set_ne _ _ (by have := hlt b o hb; omega)]; exact hb)

theorem cellsNew (h : Heap) (n : Nat) : CallK CC 56 [] h n fun v h' n' => ∃ p, n ≤ p ∧ p < n' ∧ v = .ptr p 0 ∧ ∀ b, b < n → h'.get b = h.get b := by
  refine F56_call fun hlt => ?_
  rw [F56_eq]
  simp [Tree.get_set]
  refine ⟨n + 1, by omega, by omega, rfl, fun b hb => ?_⟩
  rw [if_neg (by omega), if_neg (by omega)]
theorem mapsNew (h : Heap) (n : Nat) : CallK CC 20 [] h n fun v h' n' => ∃ p, n ≤ p ∧ p < n' ∧ v = .ptr p 0 ∧ h' = h := by
  refine (CallK.hkeep (K := fun v h' n' => ∃ p, n ≤ p ∧ p < n' ∧ v = .ptr p 0 ∧ ∀ b, b < n → h'.get b = h.get b) ?_ ?_)
  · refine F20_call fun hlt => ?_
    rw [F20_eq]
    refine CallK.mono' ?_ (cellsNew _ _)
    rintro v h' n' ⟨p, h1, h2, rfl, he⟩
    simp [Tree.get_set]
    refine ⟨n', by omega, by omega, rfl, fun b hb => ?_⟩
    rw [if_neg (by omega), he b hb]
  · rintro hlt v h' n' ⟨p, h1, h2, rfl, he⟩ hn hok
    exact ⟨h, hsub_of hlt hok he, p, h1, h2, rfl, rfl⟩
theorem newDraws (h : Heap) (n : Nat) : CallK CC 37 [] h n fun v h' n' => v = .ptr n 0 ∧ h' = h.set n (.cells (.lst [.s (.slice none 0 0)]) 1) ∧ n' = n + 1 := by
  refine F37_call fun hlt => ?_
  rw [F37_eq]
  simp

/-- Bytes that rise by five. -/
def rowL (n : Nat) : List Int := (List.range n).map fun (i : Nat) => wrapF .u8 (3 + 5 * (i : Int))
theorem rowL_succ (n : Nat) : rowL (n + 1) = rowL n ++ [wrapF .u8 (3 + 5 * (n : Int))] := by simp [rowL, List.range_succ]
theorem rowL_length (n : Nat) : (rowL n).length = n := by simp [rowL]
theorem row_loop {N : Nat} (hN : N ≤ 1000) {Q : X → St → Prop} {n0 : Nat} {h0 : Heap}
    (hQ : ∀ t3 t4 a h n s, F8_L110100 (.s (.int .i64 N)) t3 t4 h n s → n0 ≤ n → BytesAt h a t3 (rowL N) → n0 ≤ a → a ≤ n → (N ≠ 0 → a < n) → Same n0 [] h0 h → Q (.exit 0) s) :
    ∀ m s, (∃ i h n t3 a, m = N - i ∧ i ≤ N ∧ F8_L110100 (.s (.int .i64 N)) t3 (.s (.int .i64 i)) h n s ∧ n0 ≤ n ∧ GrowAt h a t3 1 i (bytesV' (rowL i)) ∧ n0 ≤ a ∧ a ≤ n ∧ (i ≠ 0 → a < n) ∧ Same n0 [] h0 h) →
      LoopK CC none (subC [1, 1, 0, 1, 0, 0] (bodyOf Go.Proofs.Tryz.f8)) s Q := by
  refine loopH CCok _ ?_
  rintro m s ⟨i, h, n, t3, a, hm, hi, hs', hn, hG, ha0, han, ha, hsame⟩ hlt
  obtain ⟨g, rfl⟩ := hs'
  rw [F8_b110100]
  replace hlt : ∀ b o, h.get b = some o → b < n := hlt
  by_cases hi' : i < N
  · have e1 : wrapF .i64 (5 * (i : Int)) = 5 * i := wrapF_i64 (by omega) (by omega)
    have e2 : wrapF .i64 (3 + 5 * (i : Int)) = 3 + 5 * i := wrapF_i64 (by omega) (by omega)
    have e3 : wrapF .i64 ((i : Int) + 1) = ((i + 1 : Nat) : Int) := by rw [wrapF_i64 (by omega) (by omega)]; rfl
    simp [hi', e1, e2]
    have hG' : GrowAt (h.set n (.cells (.lst [V.s (.int .u8 (wrapF .u8 (3 + 5 * (i : Int))))]) 1)) a t3 1 i (bytesV' (rowL i)) := by
      rcases hG with H | ⟨o, c, op, A, k1, k2, k3, k4⟩
      · exact .inl H
      · have := hlt _ _ k3
        exact .inr ⟨o, c, op, A, k1, k2, by rw [Tree.get_set, if_neg (by omega)]; exact k3, k4⟩
    refine grow_ok (m := 1) (new := [V.s (.int .u8 (wrapF .u8 (3 + 5 * (i : Int))))]) (by omega) hG' (.row (A := [V.s (.int .u8 (wrapF .u8 (3 + 5 * (i : Int))))]) (es := 1) (by simp [cellsAt, Tree.get_set]) (by simp) (by simp)) (by omega) (by omega) ?_
    intro v' a' h2 n2 ha' han' hn2 hG2 hs2
    refine ⟨N - (i + 1), h2, by omega, fun hok b o hb => ⟨o, hb, hok b o hb⟩, i + 1, rfl, by omega, h2, n2, v', by rw [e3]; exact F8_L110100_of, by omega, a', ?_, by omega, by omega, by omega, ?_⟩
    · rw [rowL_succ]
      simpa [bytesV'] using hG2
    · intro b' hb' hn'
      rw [hs2 b' (by omega) (by omega), Tree.get_set, if_neg (by omega), hsame b' hb' hn']
  · have : i = N := by omega
    subst this
    simp [roundQ]
    refine hQ t3 _ a h n _ F8_L110100_of hn ?_ ha0 han ha hsame
    have := hG.at
    unfold BytesAt
    rw [rowL_length]
    exact this
theorem row_ok {N : Nat} (hN : N ≤ 1000) (h0 : N ≠ 0) (h : Heap) (n : Nat) : CallK CC 8 [.s (.int .i64 N)] h n fun v h' n' => ∃ a, n ≤ a ∧ a < n' ∧ BytesAt h' a v (rowL N) ∧ Same n [] h h' := by
  refine F8_call fun hlt => ?_
  rw [F8_eq]
  refine row_loop (N := N) hN (n0 := n) (h0 := h) ?_ _ _ ⟨0, h, n, _, n, rfl, by omega, F8_L110100_of, by omega, GrowAt.nil _ _ _, by omega, by omega, by omega, Same.refl _ _ _⟩
  intro t3 t4 a h' n' s hs hn hB ha han ha' hsame
  obtain ⟨g, rfl⟩ := hs
  rw [F8_r110100_0]
  exact ⟨a, ha, ha' h0, hB, hsame⟩

def BeginP (P S : List Int) (n : Nat) (h : Heap) (v : V) (h' : Heap) (n' : Nat) : Prop := ∃ w f q a q1 q3 q4, v = .tup [.ptr w 0, .ptr f 0] ∧ h'.get w = some (.cells (.lst [q1, .ptr q 0, q3, q4]) 4) ∧
  FrameAt h' f (layM (Frame.start 1 0) 448 S) ∧ PacketAt h' q a (List.replicate 64 0 ++ P) 64 ∧ (w ≠ f ∧ q ≠ f ∧ a ≠ f ∧ w ≠ q ∧ w ≠ a ∧ n ≤ w ∧ n ≤ f ∧ n ≤ q ∧ n ≤ a ∧ w < n' ∧ f < n' ∧ q < n' ∧ a < n') ∧ Same n [] h h'
theorem begin_ok {b c : Nat} {pk st : V} {P S : List Int} {h : Heap} {n : Nat} (hp : BytesAt h b pk P) (hs : BytesAt h c st S) (hb : b < n) (hc : c < n) (hP : P.length ≤ 4096) (hS : S.length ≤ 64) :
    CallK CC 11 [.agg (.lst (worldC pk st))] h n (BeginP P S n h) := by
  refine F11_call fun hlt => ?_
  rw [F11_eq]
  simp [cellsAt, Tree.get_set, worldC, hp.vcl, hs.vcl]
  refine CallK.monoN ?_ (memNew_ok (b := b) (l := P) (hp.of (by rw [Tree.get_set, if_neg (by omega)])) (by omega) (by omega))
  rintro v h1 n1 ⟨⟨q, a, rfl, hq, hqn, han, hqn', han'⟩, hs1⟩ hn1
  simp
  refine CallK.monoN ?_ (mapsNew _ _)
  rintro v h' n2 ⟨p', hp1', hp2', rfl, rfl⟩ hn2
  simp
  refine CallK.monoN ?_ (newDraws _ _)
  rintro v h' n3 ⟨rfl, rfl, rfl⟩ _
  have hw0 : h'.get n = some (.cells (.lst (worldC pk st)) 8) := by
    rw [hs1 n (by omega) (by simp), Tree.get_set, if_pos rfl]; rfl
  simp
  refine loop_once CCok ?_
  rw [F11_b111110100]
  simp [roundQ, cellsAt, Tree.get_set, hw0, worldC, show ¬ n = n2 by omega]
  rw [F11_r111110100_0]
  refine loop_once CCok ?_
  rw [F11_b1111110100]
  simp [roundQ, cellsAt, Tree.get_set, hw0, worldC, show ¬ n = n2 by omega]
  rw [F11_r1111110100_2]
  simp [cellsAt, Tree.get_set, hw0, worldC, show ¬ n = n2 by omega]
  refine CallK.monoN ?_ (frameStart _ _ _ _)
  rintro v h2 n4 ⟨rfl, hs2⟩ hn4
  have hw2 : h2.get n = some (.cells (.lst (worldC pk st)) 8) := by
    rw [hs2 n (by omega) (by simp), Tree.get_set, if_neg (by omega), hw0]
  have hok := Frame.start_ok 1 0
  have hin := Frame.start_inits 1 0
  obtain ⟨fs, hfs⟩ : ∃ fs, fs = Frame.start 1 0 := ⟨_, rfl⟩
  rw [← hfs] at hok hin ⊢
  have e1 : Nat.beq (Rope.lst fs.l).size 804 = true := by rw [Rope.size_lst, hok.length]; rfl
  simp only [show V.cells (V.agg (Rope.lst fs.l)) = some (.lst fs.l) from rfl, Option.bind_some, e1, cond_true]
  rw [storeCells_lst (by rw [Tree.get_set_same]) (by simp [hok.length])]
  rw [oK_some, show ∀ l : List V, List.take 0 l ++ (Rope.lst fs.l).toList ++ List.drop (0 + (Rope.lst fs.l).size) l = fs.l ++ l.drop 804 from fun l => by rw [Rope.size_lst, hok.length]; simp]
  obtain ⟨h3, hh3⟩ : ∃ h3, h3 = (Tree.set h2 n4 (O.cells (Rope.lst (zr CC 43).toList) 804)).set n4 (O.cells (Rope.lst (fs.l ++ List.drop 804 (zr CC 43).toList)) 804) := ⟨_, rfl⟩
  rw [← hh3]
  have f3 : h3.get n4 = some (.cells (.lst fs.l) 804) := by
    have : List.drop 804 (zr CC 43).toList = [] := by simp
    rw [hh3, Tree.get_set, if_pos rfl, this, List.append_nil]
  have old3 : ∀ b, b ≠ n4 → h3.get b = h2.get b := fun b hb => by rw [hh3, Tree.get_set, if_neg hb, Tree.get_set, if_neg hb]
  have old4 : ∀ b, b < n → h3.get b = h.get b := fun b hb => by
    rw [old3 b (by omega), hs2 b (by omega) (by simp), Tree.get_set, if_neg (by omega), hs1 b (by omega) (by simp), Tree.get_set, if_neg (by omega)]
  have w3 : h3.get n = some (.cells (.lst (worldC pk st)) 8) := by rw [old3 n (by omega), hw2]
  have old5 : ∀ b, b < n1 → h3.get b = h'.get b := fun b hb => by
    rw [old3 b (by omega), hs2 b (by omega) (by simp), Tree.get_set, if_neg (by omega)]
  have hq3 := hq.of (old5 q hqn') (old5 a han')
  simp [cellsAt, w3, worldC, hs.vcl]
  refine CallK.monoN ?_ (fill_ok (f := n4) (b := c) (l := S) (fr := fs) (-64) (by decide) (by decide) (by omega) (by omega) ⟨f3, hok⟩ (hs.of (old4 c hc)))
  rintro v h4 n5 ⟨k1, _, hs4⟩ hn5
  obtain ⟨rfl, hF⟩ := k1 ⟨hS, by decide, by omega⟩
  replace hF : FrameAt h4 n4 (layM (Frame.start 1 0) 448 S) := by rw [hfs] at hF; exact hF
  have w4 : h4.get n = some (.cells (.lst (worldC pk st)) 8) := by rw [hs4 n (by omega) (by simp; omega), w3]
  simp [cellsAt, w4, worldC]
  refine ⟨n5, n4, q, a, _, _, _, rfl, by rw [Tree.get_set, if_pos rfl], ⟨by rw [Tree.get_set, if_neg (by omega)]; exact hF.1, hF.2⟩, ?_, ?_, ?_⟩
  · exact hq3.of (by rw [Tree.get_set, if_neg (by omega), hs4 q (by omega) (by simp; omega)]) (by rw [Tree.get_set, if_neg (by omega), hs4 a (by omega) (by simp; omega)])
  · refine ⟨by omega, by omega, by omega, by omega, by omega, by omega, by omega, by omega, by omega, by omega, by omega, by omega, by omega⟩
  · intro b' hb' _
    rw [Tree.get_set, if_neg (by omega), hs4 b' (by omega) (by simp; omega), old4 b' hb']

theorem frame_eq (cst : Bool) {fr : Frame} (h : fr.Ok) : binop CC .eql 43 cst (.agg (.lst fr.l)) (.agg (.lst fr.l)) = some (.s (.bool true)) := by
  have hq : ((ty CC 43).bind fun i => some (i.guard, i.agg, i.size)) = some (false, true, 804) := by kernel_rfl
  cases hi : ty CC 43 with
  | none => rw [hi] at hq; cases hq
  | some i =>
    rw [hi] at hq
    simp at hq
    exact (binop_plain hi (by kernel_rfl) hq.1 hq.2.1 cst (by rw [hq.2.2]; exact h.length) fr.l_ints).1

theorem hread_ok {f : Nat} {fr : Frame} (e : V) (N id m : Int) {h : Heap} {n : Nat} (hF : FrameAt h f fr) (hm : 0 ≤ m ∧ m ≤ 64) (hb : -512 ≤ wrapF .i64 N ∧ wrapF .i64 N + m ≤ 0) :
    CallK CC 15 [e, .ptr f 0, .agg (.lst [.s (.int .i64 4), .s (.int .u64 N), .s (.int .i64 id)]), .s (.int .i64 m)] h n (ReadP fr (wrapF .i64 N + 512).toNat m.toNat n h) := by
  refine F15_call fun hlt => ?_
  rw [F15_eq]
  have hfn := hlt f _ hF.1
  have m1 : ¬ m < 0 := by omega
  have m2 : ¬ 64 < m := by omega
  simp [cellsAt, Tree.get_set, m1, m2]
  refine CallK.monoN ?_ (stackBytes_ok (f := f) (fr := fr) (wrapF .i64 N) m (wrap_i64r _).1 (wrap_i64r _).2 ⟨by rw [Tree.get_set, if_neg (by omega)]; exact hF.1, hF.2⟩)
  rintro v h' n' ⟨k1, _⟩ hn'
  have k := k1 ⟨hm.1, hm.2, hb.1, hb.2⟩
  rcases k with ⟨l, a, sl, g1, rfl, g2, g3, g4, g5⟩ | ⟨g1, rfl, g2⟩
  · simp [g4.vcl]
    exact .inl ⟨l, a, sl, g1, rfl, by omega, g3, g4, fun b hb' _ => by rw [g5 b (by omega) (by simp), Tree.get_set, if_neg (by omega)]⟩
  · simp
    exact .inr ⟨g1, rfl, fun b hb' _ => by rw [g2 b (by omega) (by simp), Tree.get_set, if_neg (by omega)]⟩

theorem lawnum_ok (x : Int) (h : Heap) (n : Nat) : CallK CC 13 [.s (.int .i64 x)] h n fun v h' n' => v = .agg (.lst [.s (.int .i64 1), .s (.int .u64 (wrapF .u64 x)), .s (.int .i64 0)]) ∧ Same n [] h h' := by
  refine F13_call fun hlt => ?_
  rw [F13_eq]
  simp [cellsAt, Tree.get_set, storeCells, cellsOwn, Rope.put, ble_dec]
  intro b hb _
  simp only [Tree.get_set]
  rw [if_neg (by omega), if_neg (by omega)]
theorem lawat_ok (x : Int) (h : Heap) (n : Nat) : CallK CC 12 [.s (.int .i64 x)] h n fun v h' n' => v = .agg (.lst [.s (.int .i64 4), .s (.int .u64 (wrapF .u64 x)), .s (.int .i64 0)]) ∧ Same n [] h h' := by
  refine F12_call fun hlt => ?_
  rw [F12_eq]
  simp [cellsAt, Tree.get_set, storeCells, cellsOwn, Rope.put, ble_dec]
  intro b hb _
  simp only [Tree.get_set]
  rw [if_neg (by omega), if_neg (by omega)]

/-- Two lists of the same bytes. -/
theorem same_loop {a b : Nat} {x y : V} {l : List Int} {Q : X → St → Prop} {h0 : Heap} (hx : BytesAt h0 a x l) (hy : BytesAt h0 b y l) (hl : l.length ≤ 1000000)
    (hQ : ∀ t5 n s, F16_L110100 x y t5 h0 n s → Q (.exit 0) s) :
    ∀ m s, (∃ i n, m = l.length - i ∧ i ≤ l.length ∧ F16_L110100 x y (.s (.int .i64 i)) h0 n s) →
      LoopK CC none (subC [1, 1, 0, 1, 0, 0] (bodyOf Go.Proofs.Tryz.f16)) s Q := by
  refine loopH CCok _ ?_
  rintro m s ⟨i, n, hm, hi, hs⟩ hlt
  obtain ⟨g, rfl⟩ := hs
  rw [F16_b110100]
  by_cases hi' : i < l.length
  · have e3 : wrapF .i64 ((i : Int) + 1) = ((i + 1 : Nat) : Int) := by rw [wrapF_i64 (by omega) (by omega)]; rfl
    obtain ⟨p, p1, p2⟩ := hx.ix hi'
    obtain ⟨q, q1, q2⟩ := hy.ix hi'
    simp [hx.len, hi', p1, p2, q1, q2]
    exact ⟨l.length - (i + 1), h0, by omega, fun hok b o hb => ⟨o, hb, hok b o hb⟩, i + 1, rfl, by omega, _, by rw [e3]; exact F16_L110100_of⟩
  · have : i = l.length := by omega
    subst this
    simp [hx.len, roundQ]
    exact hQ _ n _ F16_L110100_of
theorem same_ok {a b : Nat} {x y : V} {l : List Int} {h : Heap} {n : Nat} (hx : BytesAt h a x l) (hy : BytesAt h b y l) (hl : l.length ≤ 1000000) :
    CallK CC 16 [x, y] h n fun v h' n' => v = .s (.bool true) ∧ h' = h := by
  refine F16_call fun hlt => ?_
  rw [F16_eq]
  simp [hx.len, hy.len]
  refine same_loop hx hy hl ?_ _ _ ⟨0, n, rfl, by omega, F16_L110100_of⟩
  intro t5 n' s hs
  obtain ⟨g, rfl⟩ := hs
  rw [F16_r110100_0]
  exact ⟨rfl, rfl⟩

theorem wrap_iu (k : Int) : wrapF .i64 (wrapF .u64 k) = wrapF .i64 k := by
  have e : wrapF .u64 k = k.emod 18446744073709551616 := rfl
  have e2 : (k.emod 18446744073709551616).emod (Int.ofNat 18446744073709551616) = k.emod (Int.ofNat 18446744073709551616) := Int.emod_emod_of_dvd k (Int.dvd_refl _)
  rw [e]
  unfold wrapF
  simp only [p2]
  rw [e2]

theorem copies_a {bp bb : Nat} {sl t16 t10 t11 t12 : V} {P C : List Int} {fm to : Int} {N : Nat} {Q : X → St → Prop} {h0 : Heap} {n0 : Nat} (hN : N ≤ 64) (hC : C.length = N) (hP : P.length ≤ 4096) (hfm : 0 ≤ fm)
    (hp : BytesAt h0 bp sl P) (hb : BytesAt h0 bb t16 C) (hcb : C = copyB P fm N) {th : Bool} (hth : th = true ↔ (fm ≤ P.length ∧ (N : Int) ≤ P.length - fm))
    (hQ : ∀ t18 n s, F3_L1111111111111110100 sl (.s (.int .u64 fm)) (.s (.int .i64 to)) (.s (.int .i64 N)) t10 t11 t12 (.s (.bool th)) t16 t18 h0 n s → n0 ≤ n → Q (.exit 0) s) :
    ∀ m s, (∃ i n, m = N - i ∧ i ≤ N ∧ F3_L1111111111111110100 sl (.s (.int .u64 fm)) (.s (.int .i64 to)) (.s (.int .i64 N)) t10 t11 t12 (.s (.bool th)) t16 (.s (.int .i64 i)) h0 n s ∧ n0 ≤ n) →
      LoopK CC none (subC [1, 1, 1, 1, 1, 1, 1, 1, 1, 1, 1, 1, 1, 1, 1, 0, 1, 0, 0] (bodyOf Go.Proofs.Tryz.f3)) s Q := by
  refine loopH CCok _ ?_
  rintro m s ⟨i, n, hm, hi, hs, hn⟩ hlt
  obtain ⟨g, rfl⟩ := hs
  rw [F3_b1111111111111110100]
  by_cases hi' : i < N
  · have e3 : wrapF .i64 ((i : Int) + 1) = ((i + 1 : Nat) : Int) := by rw [wrapF_i64 (by omega) (by omega)]; rfl
    obtain ⟨q, q1, q2⟩ := hb.ix (i := i) (by omega)
    cases th with
    | true =>
      have hth := hth.1 rfl
      obtain ⟨J, hJ⟩ : ∃ J : Nat, J = fm.toNat + i := ⟨_, rfl⟩
      have e1 : wrapF .i64 fm = fm := wrapF_i64 (by omega) (by omega)
      have e2 : wrapF .i64 (fm + (i : Int)) = (J : Int) := by rw [wrapF_i64 (by omega) (by omega)]; omega
      have hlt' : J < P.length := by omega
      obtain ⟨p, p1, p2⟩ := hp.ix hlt'
      have hv : C[i]'(by omega) = P[J] := by
        subst hJ
        have : C = (P.drop fm.toNat).take N := by rw [hcb]; simp only [copyB, if_pos hth, Int.toNat_natCast]
        simp [this]
      simp [hi', e1, e2, p1, p2, q1, q2, hv]
      exact ⟨N - (i + 1), h0, by omega, fun hok b o hb => ⟨o, hb, hok b o hb⟩, i + 1, rfl, by omega, _, by rw [e3]; exact F3_L1111111111111110100_of, by omega⟩
    | false =>
      have hth : ¬ (fm ≤ P.length ∧ (N : Int) ≤ P.length - fm) := fun h => by have := hth.2 h; cases this
      have hv : C[i]'(by omega) = 0 := by
        have : C = List.replicate N 0 := by rw [hcb]; simp only [copyB, if_neg hth, Int.toNat_natCast]
        simp [this]
      simp [hi', q1, q2, hv]
      exact ⟨N - (i + 1), h0, by omega, fun hok b o hb => ⟨o, hb, hok b o hb⟩, i + 1, rfl, by omega, _, by rw [e3]; exact F3_L1111111111111110100_of, by omega⟩
  · have : i = N := by omega
    subst this
    simp [roundQ]
    exact hQ _ n _ F3_L1111111111111110100_of hn

theorem copies_b {to : Int} {N : Nat} {w f g : Nat} {fr fr0 : Frame} {Q : X → St → Prop} {h0 : Heap} {n0 : Nat} (hN : N ≤ 64) (hto : -512 ≤ to ∧ to + N ≤ 0)
    (hF : FrameAt h0 f fr) (hG : FrameAt h0 g fr0) (hf : f < n0) (hg : g < n0) (hsame : ∀ p : Nat, p < 512 → (p < (to + 512).toNat ∨ (to + 512).toNat + N ≤ p) → rdB fr p = rdB fr0 p)
    (hQ : ∀ t20 h n s, F3_L11111111111111110100 (.s (.int .i64 to)) (.s (.int .i64 N)) (.ptr w 0) (.ptr f 0) (.ptr g 0) t20 h n s → Q (.exit 2) s) :
    ∀ m s, (∃ (i : Nat) (h : Heap) (n : Nat), m = 64 - i ∧ i ≤ 64 ∧ F3_L11111111111111110100 (.s (.int .i64 to)) (.s (.int .i64 N)) (.ptr w 0) (.ptr f 0) (.ptr g 0) (.s (.int .i64 ((i : Int) - 64))) h n s ∧ n0 ≤ n ∧ Same n0 [] h0 h) →
      LoopK CC none (subC [1, 1, 1, 1, 1, 1, 1, 1, 1, 1, 1, 1, 1, 1, 1, 1, 0, 1, 0, 0] (bodyOf Go.Proofs.Tryz.f3)) s Q := by
  refine loopH CCok _ ?_
  rintro m s ⟨i, h, n, hm, hi, hs, hn, hsm⟩ hlt
  obtain ⟨g', rfl⟩ := hs
  rw [F3_b11111111111111110100]
  replace hlt : ∀ b o, h.get b = some o → b < n := hlt
  obtain ⟨k, hk⟩ : ∃ k : Int, k = (i : Int) - 64 := ⟨_, rfl⟩
  rw [← hk]
  by_cases hi' : i < 64
  · have e3 : wrapF .i64 (k + 1) = ((i + 1 : Nat) : Int) - 64 := by rw [wrapF_i64 (by omega) (by omega)]; omega
    have eu : wrapF .i64 (wrapF .u64 k) = k := by rw [wrap_iu, wrapF_i64 (by omega) (by omega)]
    have k0 : k < 0 := by omega
    have et : wrapF .i64 (to + (N : Int)) = to + N := wrapF_i64 (by omega) (by omega)
    have hF1 : FrameAt h f fr := ⟨by rw [hsm f hf (by simp)]; exact hF.1, hF.2⟩
    have hG1 : FrameAt h g fr0 := ⟨by rw [hsm g hg (by simp)]; exact hG.1, hG.2⟩
    obtain ⟨p, hp⟩ : ∃ p : Nat, p = (k + 512).toNat := ⟨_, rfl⟩
    have mlt : 64 - (i + 1) < m := by omega
    have p1 : p < 512 := by omega
    have pin : (k < to ∨ to + N ≤ k) → (p < (to + 512).toNat ∨ (to + 512).toNat + N ≤ p) := by intro h; omega
    simp [k0]
    refine CallK.monoN ?_ (lawat_ok _ _ _)
    rintro v h1 n1 ⟨rfl, hs1⟩ hn1
    refine CallK.monoN ?_ (hread_ok (f := g) (fr := fr0) _ _ _ 1 ⟨by rw [hs1 g (by omega) (by simp)]; exact hG1.1, hG1.2⟩ (by decide) (by rw [eu]; omega))
    rw [eu, ← hp]
    rintro v2 h2 n2 hr2 hn2
    have r2 : ∃ x c, v2 = .tup [x, c] ∧ normV x = x ∧ normV c = c ∧ ((∃ l a, rdM fr0 p 1 = some l ∧ c = .s (.int .i64 0) ∧ a < n2 ∧ BytesAt h2 a x l ∧ l.length = 1) ∨ (rdM fr0 p 1 = none ∧ c = .s (.int .i64 26) ∧ x = .s (.slice none 0 0))) ∧ Same n1 [] h1 h2 := by
      rcases hr2 with ⟨l, a, sl, g1, rfl, g2, g3, g4, g5⟩ | ⟨g1, rfl, g2⟩
      · exact ⟨sl, _, rfl, g4.vcl.2.1, rfl, .inl ⟨l, a, g1, rfl, g3, g4, rdM_length g1⟩, g5⟩
      · exact ⟨_, _, rfl, rfl, rfl, .inr ⟨g1, rfl, rfl⟩, g2⟩
    obtain ⟨x2, c2, rfl, nx2, nc2, r2, hs2⟩ := r2
    simp [nx2, nc2]
    refine CallK.monoN ?_ (lawat_ok _ _ _)
    rintro v h3 n3 ⟨rfl, hs3⟩ hn3
    refine CallK.monoN ?_ (hread_ok (f := f) (fr := fr) _ _ _ 1 ⟨by rw [hs3 f (by omega) (by simp), hs2 f (by omega) (by simp), hs1 f (by omega) (by simp)]; exact hF1.1, hF1.2⟩ (by decide) (by rw [eu]; omega))
    rw [eu, ← hp]
    rintro v4 h4 n4 hr4 hn4
    have r4 : ∃ x c, v4 = .tup [x, c] ∧ normV x = x ∧ normV c = c ∧ ((∃ l a, rdM fr p 1 = some l ∧ c = .s (.int .i64 0) ∧ a < n4 ∧ BytesAt h4 a x l ∧ l.length = 1) ∨ (rdM fr p 1 = none ∧ c = .s (.int .i64 26) ∧ x = .s (.slice none 0 0))) ∧ Same n3 [] h3 h4 := by
      rcases hr4 with ⟨l, a, sl, g1, rfl, g2, g3, g4, g5⟩ | ⟨g1, rfl, g2⟩
      · exact ⟨sl, _, rfl, g4.vcl.2.1, rfl, .inl ⟨l, a, g1, rfl, g3, g4, rdM_length g1⟩, g5⟩
      · exact ⟨_, _, rfl, rfl, rfl, .inr ⟨g1, rfl, rfl⟩, g2⟩
    obtain ⟨x4, c4, rfl, nx4, nc4, r4, hs4⟩ := r4
    have all : Same n [] h h4 := fun b hb _ => by rw [hs4 b (by omega) (by simp), hs3 b (by omega) (by simp), hs2 b (by omega) (by simp), hs1 b (by omega) (by simp)]
    have sm : Same n0 [] h0 h4 := fun b hb _ => by rw [all b (by omega) (by simp), hsm b hb (by simp)]
    by_cases hin : k < to ∨ to + N ≤ k
    · have hB : rdM fr p 1 = rdM fr0 p 1 := by
        rw [rdM_one, rdM_one, hsame p p1 (pin hin)]
      rw [hB] at r4
      have hc : ∃ l a b, BytesAt h4 a x2 l ∧ BytesAt h4 b x4 l ∧ l.length ≤ 1 ∧ ((c2 = .s (.int .i64 0) ∧ c4 = .s (.int .i64 0)) ∨ (c2 = .s (.int .i64 26) ∧ c4 = .s (.int .i64 26))) := by
        rcases r2 with ⟨l, a, g1, g2, ga, g3, g4⟩ | ⟨g1, g2, g3⟩ <;> rcases r4 with ⟨l', a', k1, k2, ka, k3, k4⟩ | ⟨k1, k2, k3⟩
        · rw [g1] at k1
          cases k1
          exact ⟨l, a, a', g3.of (by rw [hs4 a (by omega) (by simp), hs3 a (by omega) (by simp)]), k3, by omega, .inl ⟨g2, k2⟩⟩
        · rw [g1] at k1; cases k1
        · rw [g1] at k1; cases k1
        · exact ⟨[], 0, 0, .inl ⟨g3, rfl, rfl⟩, .inl ⟨k3, rfl, rfl⟩, by simp, .inr ⟨g2, k2⟩⟩
      obtain ⟨l, a, b, B2, B4, hl1, hc⟩ := hc
      have fin := same_ok (n := n4) B2 B4 (by omega)
      by_cases hin1 : k < to
      · rcases hc with ⟨rfl, rfl⟩ | ⟨rfl, rfl⟩
        · simp [nx4, nc4, hin1, B2.vcl]
          refine CallK.monoN ?_ fin
          rintro v h5 n5 ⟨rfl, rfl⟩ hn5
          simp
          exact ⟨64 - (i + 1), h5, mlt, fun hok b o hb => ⟨o, hb, hok b o hb⟩, i + 1, rfl, by omega, h5, n5, by rw [← e3]; exact F3_L11111111111111110100_of, by omega, sm⟩
        · simp [nx4, nc4, hin1, B2.vcl]
          refine CallK.monoN ?_ fin
          rintro v h5 n5 ⟨rfl, rfl⟩ hn5
          simp
          exact ⟨64 - (i + 1), h5, mlt, fun hok b o hb => ⟨o, hb, hok b o hb⟩, i + 1, rfl, by omega, h5, n5, by rw [← e3]; exact F3_L11111111111111110100_of, by omega, sm⟩
      · have hin2 : to + N ≤ k := by omega
        rcases hc with ⟨rfl, rfl⟩ | ⟨rfl, rfl⟩
        · simp [nx4, nc4, hin1, hin2, B2.vcl, et]
          refine CallK.monoN ?_ fin
          rintro v h5 n5 ⟨rfl, rfl⟩ hn5
          simp
          exact ⟨64 - (i + 1), h5, mlt, fun hok b o hb => ⟨o, hb, hok b o hb⟩, i + 1, rfl, by omega, h5, n5, by rw [← e3]; exact F3_L11111111111111110100_of, by omega, sm⟩
        · simp [nx4, nc4, hin1, hin2, B2.vcl, et]
          refine CallK.monoN ?_ fin
          rintro v h5 n5 ⟨rfl, rfl⟩ hn5
          simp
          exact ⟨64 - (i + 1), h5, mlt, fun hok b o hb => ⟨o, hb, hok b o hb⟩, i + 1, rfl, by omega, h5, n5, by rw [← e3]; exact F3_L11111111111111110100_of, by omega, sm⟩
    · have hin1 : ¬ k < to := by omega
      have hin2 : ¬ to + N ≤ k := by omega
      simp [nx4, nc4, hin1, hin2, et]
      exact ⟨64 - (i + 1), h4, mlt, fun hok b o hb => ⟨o, hb, hok b o hb⟩, i + 1, rfl, by omega, h4, n4, by rw [← e3]; exact F3_L11111111111111110100_of, by omega, sm⟩
  · have : i = 64 := by omega
    subst this
    have : ¬ k < 0 := by omega
    simp [roundQ, this]
    exact hQ _ h n _ F3_L11111111111111110100_of

theorem eqNum (x y : Int) : binop CC .eql 28 false (.agg (.lst [.s (.int .i64 1), .s (.int .u64 x), .s (.int .i64 0)])) (.agg (.lst [.s (.int .i64 1), .s (.int .u64 y), .s (.int .i64 0)])) = some (.s (.bool (decide (x = y)))) := by
  have : binop CC .eql 28 false (.agg (.lst [.s (.int .i64 1), .s (.int .u64 x), .s (.int .i64 0)])) (.agg (.lst [.s (.int .i64 1), .s (.int .u64 y), .s (.int .i64 0)])) = eqOp .eql (bif intEq x y then some true else some false) := by
    kernel_rfl
  rw [this, intEq_dec]
  by_cases h : x = y <;> simp [h, eqOp]
theorem boolNe (a b : Bool) : binop CC .neq 4 false (.s (.bool a)) (.s (.bool b)) = some (.s (.bool (a != b))) := by
  cases a <;> cases b <;> kernel_rfl
theorem z22n : decide (wrapF .u64 (-22) = wrapF .u64 0) = false := by decide
theorem helperCopies {b : Nat} {sl : V} {P : List Int} {fm to m : Int} (hfm : 0 ≤ fm ∧ fm < 18446744073709551616) (hto : -9223372036854775808 ≤ to ∧ to ≤ 9223372036854775807) (hm : -9223372036854775808 ≤ m ∧ m ≤ 9223372036854775807)
    (hw : ∀ h n, CallK CC 10 [] h n fun v h' n' => v = .s (.bool true)) {h : Heap} {n : Nat} (ha : BytesAt h b sl P) (hb : b < n) :
    CallK CC 3 [sl, .s (.int .u64 fm), .s (.int .i64 to), .s (.int .i64 m)] h n fun v h' n' => v = .s (.bool true) := by
  refine F3_call fun hlt => ?_
  rw [F3_eq]
  refine CallK.monoN ?_ (row_ok (N := 64) (by decide) (by decide) h n)
  rintro st h1 n1 ⟨c, hc, hc', hS, hs1⟩ hn1
  have ha1 : BytesAt h1 b sl P := ha.of (hs1 b hb (by simp))
  simp [ha.vcl, hS.vcl, cellsAt, Tree.get_set, storeCells, cellsOwn, Rope.put, ble_dec]
  obtain ⟨h2, hh2⟩ : ∃ h2, h2 = (Tree.set h1 n1 (.cells (.lst (worldC (.s (.slice none 0 0)) (.s (.slice none 0 0)))) 8)).set n1 (.cells (.lst (worldC sl st)) 8) := ⟨_, rfl⟩
  have old2 : ∀ b, b < n1 → h2.get b = h1.get b := fun b hb => by rw [hh2, Tree.get_set, if_neg (by omega), Tree.get_set, if_neg (by omega)]
  have ha2 := ha1.of (old2 b (by omega))
  have hS2 := hS.of (old2 c (by omega))
  have w2 : h2.get n1 = some (.cells (.lst (worldC sl st)) 8) := by rw [hh2, Tree.get_set, if_pos rfl]
  unfold worldC at hh2
  rw [← hh2]
  refine CallK.monoN ?_ (long16 (h := h2) (n := n1 + 1) ha2 hS2 (by rw [rowL_length]; decide))
  rintro v h' n2 ⟨rfl, rfl, hn2⟩ _
  have w2' := w2
  unfold worldC at w2'
  by_cases hl : (4096 : Int) < P.length
  · simp [hl]
    refine CallK.mono' ?_ (hw _ _)
    rintro v h n rfl
    simp
  have hl' : P.length ≤ 4096 := by omega
  simp [hl, w2']
  refine CallK.monoN ?_ (begin_ok (h := h') (n := n2) ha2 hS2 (by omega) (by omega) hl' (by rw [rowL_length]; decide))
  rintro v h3 n3 ⟨w, f, q, a, q1, q3, q4, rfl, hW, hF, hQ, ⟨d1, d2, d3, d4, d5, d6, d7, d8, d9, d10, d11, d12, d13⟩, hs3⟩ hn3
  obtain ⟨fr0, hfr0⟩ : ∃ fr, fr = layM (Frame.start 1 0) 448 (rowL 64) := ⟨_, rfl⟩
  rw [← hfr0] at hF
  have hI0 : fr0.Inits := by rw [hfr0]; exact layM_inits (Frame.start_ok _ _) (Frame.start_inits _ _) (by rw [rowL_length]; decide)
  have hR1 : fr0.reg 1 = ⟨5, 0, 0⟩ := by
    have : ∀ (l : List Int) (fr : Frame) (p : Nat), (layM fr p l).reg 1 = fr.reg 1 := by
      intro l
      induction l with
      | nil => intro fr p; rfl
      | cons c l ih => intro fr p; rw [layM, ih]; rfl
    rw [hfr0, this]; rfl
  have ok0 := hF.2
  have ok1 : (fr0.setR 2 ⟨1, fm, 0⟩).Ok := ok0.setR _ _
  have ok2 : ((fr0.setR 2 ⟨1, fm, 0⟩).setR 3 ⟨4, wrapF .u64 to, 0⟩).Ok := ok1.setR _ _
  have ok3 : (((fr0.setR 2 ⟨1, fm, 0⟩).setR 3 ⟨4, wrapF .u64 to, 0⟩).setR 4 ⟨1, wrapF .u64 m, 0⟩).Ok := ok2.setR _ _
  have s1 := Frame.regS2 ok0 1 fm 0
  have s2 := Frame.regS3 ok1 4 (wrapF .u64 to) 0
  have s3 := Frame.regS4 ok2 1 (wrapF .u64 m) 0
  have l0 := ok0.length
  have l1 := ok1.length
  have l2 := ok2.length
  have l3 := ok3.length
  have f3 := hF.1
  simp [f3, asNat_int, blt_dec, ble_dec, l0, put_lst, s1]
  refine CallK.monoN ?_ (lawat_ok _ _ _)
  rintro v h4 n4 ⟨rfl, hs4⟩ hn4
  have f4 := hs4 f (by omega) (by simp)
  rw [Tree.get_set, if_pos rfl] at f4
  simp [f4, asNat_int, blt_dec, ble_dec, l1, put_lst, s2]
  refine CallK.monoN ?_ (lawnum_ok _ _ _)
  rintro v h5 n5 ⟨rfl, hs5⟩ hn5
  have f5 := hs5 f (by omega) (by simp)
  rw [Tree.get_set, if_pos rfl] at f5
  obtain ⟨fr3, hfr3⟩ : ∃ fr, fr = ((fr0.setR 2 ⟨1, fm, 0⟩).setR 3 ⟨4, wrapF .u64 to, 0⟩).setR 4 ⟨1, wrapF .u64 m, 0⟩ := ⟨_, rfl⟩
  rw [← hfr3] at ok3 s3 l3
  have g1 : fr3.reg 1 = ⟨5, 0, 0⟩ := by
    rw [hfr3, Frame.reg_setR _ _ _ (by rw [ok2.regs]; decide), if_neg (by decide), Frame.reg_setR _ _ _ (by rw [ok1.regs]; decide), if_neg (by decide), Frame.reg_setR _ _ _ (by rw [ok0.regs]; decide), if_neg (by decide), hR1]
  have g2 : fr3.reg 2 = ⟨1, fm, 0⟩ := by
    rw [hfr3, Frame.reg_setR _ _ _ (by rw [ok2.regs]; decide), if_neg (by decide), Frame.reg_setR _ _ _ (by rw [ok1.regs]; decide), if_neg (by decide), Frame.reg_setR _ _ _ (by rw [ok0.regs]; decide), if_pos rfl]
  have g3 : fr3.reg 3 = ⟨4, wrapF .u64 to, 0⟩ := by
    rw [hfr3, Frame.reg_setR _ _ _ (by rw [ok2.regs]; decide), if_neg (by decide), Frame.reg_setR _ _ _ (by rw [ok1.regs]; decide), if_pos rfl]
  have g4 : fr3.reg 4 = ⟨1, wrapF .u64 m, 0⟩ := by
    rw [hfr3, Frame.reg_setR _ _ _ (by rw [ok2.regs]; decide), if_pos rfl]
  have hI3 : fr3.Inits := by rw [hfr3]; exact hI0
  have hTm : takesM fr3 0 [2, 3, 5, 4] = if 1 ≤ wrapF .u64 m ∧ wrapF .u64 m ≤ 64 then 0 else 25 := by
    simp [takesM, isM, g1, g2, g3, g4]
  simp [f5, asNat_int, blt_dec, ble_dec, l2, put_lst, s3, Tree.get_set]
  have lz : List.drop 804 (zr CC 43).toList = [] := by simp
  have etk : List.take 804 fr3.l = fr3.l := List.take_of_length_le (by rw [l3]; exact Nat.le_refl _)
  simp [cellsAt, Tree.get_set, l3, beq_dec, etk]
  obtain ⟨h6, hh6⟩ : ∃ h6, h6 = ((Tree.set h5 f (.cells (.lst fr3.l) 804)).set n5 (.cells (.lst (zr CC 43).toList) 804)).set n5 (.cells (.lst (fr3.l ++ List.drop 804 (zr CC 43).toList)) 804) := ⟨_, rfl⟩
  rw [← hh6]
  have g6 : h6.get n5 = some (.cells (.lst fr3.l) 804) := by rw [hh6, Tree.get_set, if_pos rfl, lz, List.append_nil]
  have f6 : h6.get f = some (.cells (.lst fr3.l) 804) := by rw [hh6, Tree.get_set, if_neg (by omega), Tree.get_set, if_neg (by omega), Tree.get_set, if_pos rfl]
  have old6 : ∀ b, b < n3 → b ≠ f → h6.get b = h3.get b := fun b hb hbf => by
    rw [hh6, Tree.get_set, if_neg (by omega), Tree.get_set, if_neg (by omega), Tree.get_set, if_neg hbf, hs5 b (by omega) (by simp), Tree.get_set, if_neg hbf, hs4 b (by omega) (by simp), Tree.get_set, if_neg hbf]
  have w6 : h6.get w = some (.cells (.lst [q1, .ptr q 0, q3, q4]) 4) := by rw [old6 w d10 d1, hW]
  have Q6 := hQ.of (old6 q d12 d2) (old6 a d13 d3)
  refine CallK.monoN ?_ (call_seven (fr := fr3) (beg := 64) w6 ⟨f6, ok3⟩ Q6 (by simp; omega) ⟨d1, d2, d3⟩ (by rw [g2]; exact hfm))
  rintro v h7 n7 ⟨hC, hs7⟩ hn7
  have hdrop : (List.replicate 64 (0 : Int) ++ P).drop 64 = P := by rw [List.drop_append]; simp
  rw [hdrop] at hC
  unfold CopiedP at hC
  rw [hTm, g2, g3, g4] at hC
  simp only at hC
  have et : wrapF .i64 (wrapF .u64 to) = to := by rw [wrap_iu, wrapF_i64 hto.1 hto.2]
  rw [et] at hC
  have um : (1 ≤ m ∧ m ≤ 64) ↔ (1 ≤ wrapF .u64 m ∧ wrapF .u64 m ≤ 64) := by
    rw [show wrapF .u64 m = m % 18446744073709551616 from rfl]; omega
  have g7 : h7.get n5 = some (.cells (.lst fr3.l) 804) := by rw [hs7 n5 (by omega) (by simp; omega), g6]
  have eqf := fun cst => frame_eq cst ok3
  have endw : ∀ h n, CallK CC 10 [] h n fun v h' n' => v = .s (.bool true) := hw
  by_cases hmm : 1 ≤ m ∧ m ≤ 64
  · rw [if_pos (um.1 hmm)] at hC
    have hmv : wrapF .u64 m = m := wrapF_u64 (by omega) (by omega)
    rw [hmv] at hC
    have m1 : ¬ m < 1 := by omega
    have m2 : ¬ 64 < m := by omega
    rcases hC with ⟨h, _⟩ | ⟨_, hb, rfl, hF7⟩ | ⟨_, hb, rfl, hF7⟩
    · exact absurd rfl h
    · have f7 := hF7.1
      have nm : wrapF .i64 (-m) = -m := wrapF_i64 (by omega) (by omega)
      by_cases t1 : to < -512
      · simp [m1, m2, nm, t1, f7, g7, l3, cellsAt, etk, eqf, ble_dec]
        refine CallK.mono' ?_ (hw _ _)
        rintro v h n rfl
        simp
      · have t2 : -m < to := by omega
        simp [m1, m2, nm, t1, t2, f7, g7, l3, cellsAt, etk, eqf, ble_dec]
        refine CallK.mono' ?_ (hw _ _)
        rintro v h n rfl
        simp
    · obtain ⟨N, rfl⟩ : ∃ N : Nat, m = N := ⟨m.toNat, by omega⟩
      have nm : wrapF .i64 (-(N : Int)) = -N := wrapF_i64 (by omega) (by omega)
      have t1 : ¬ to < -512 := by omega
      have t2 : ¬ -(N : Int) < to := by omega
      obtain ⟨C, hC⟩ : ∃ C, C = copyB P fm N := ⟨_, rfl⟩
      obtain ⟨E, hE⟩ : ∃ E, E = copyE P fm N := ⟨_, rfl⟩
      rw [← hC, ← hE] at hF7
      have hCl : C.length = N := by
        rw [hC, copyB]
        split
        · simp; omega
        · simp
      obtain ⟨p, hp⟩ : ∃ p, p = (to + 512).toNat := ⟨_, rfl⟩
      rw [← hp] at hF7
      have hp1 : p + N ≤ 512 := by omega
      obtain ⟨fr7, hfr7⟩ : ∃ fr, fr = (layM fr3 p C).told ⟨1, wrapF .u64 (-E), 0⟩ := ⟨_, rfl⟩
      rw [← hfr7] at hF7
      have hrd : rdM fr7 p N = some C := by
        have := rdM_layM (l := C) (p := p) ok3 hI3 (by omega)
        rw [hCl] at this
        rw [hfr7, rdM_told, this]
      have hr0 : fr7.reg 0 = ⟨1, wrapF .u64 (-E), 0⟩ := by
        rw [hfr7, Frame.told, Frame.reg_setR _ _ _ (by rw [(Frame.clear_ok (layM_ok ok3)).regs]; decide), if_pos rfl]
      have ha3 : BytesAt h3 b sl P := (ha1.of (old2 b (by omega))).of (hs3 b (by omega) (by simp))
      have ha7 : BytesAt h7 b sl P := ha3.of (by rw [hs7 b (by omega) (by simp; omega), old6 b (by omega) (by omega)])
      have eL : wrapF .u64 ((P.length : Nat) : Int) = P.length := wrapF_u64 (by omega) (by omega)
      simp [m1, m2, nm, t1, t2, ha7.len, hmv, eL]
      by_cases c1 : fm ≤ P.length
      · have eS : wrapF .u64 ((P.length : Int) - fm) = (P.length : Int) - fm := wrapF_u64 (by omega) (by omega)
        by_cases c2 : (N : Int) ≤ P.length - fm
        · simp [c1, c2, ha7.len, hmv, eL, eS]
          refine CallK.monoN ?_ (lawat_ok _ _ _)
          rintro v h8 n8 ⟨rfl, hs8⟩ hn8
          refine CallK.monoN ?_ (hread_ok (f := f) (fr := fr7) _ _ _ N ⟨by rw [hs8 f (by omega) (by simp)]; exact hF7.1, hF7.2⟩ (by omega) (by rw [et]; omega))
          rw [et, ← hp, Int.toNat_natCast]
          rintro v h9 n9 hr hn9
          rcases hr with ⟨l, a9, x9, k1, rfl, k2, k3, k4, hs9⟩ | ⟨k1, _⟩
          rotate_left
          · rw [hrd] at k1; cases k1
          rw [hrd] at k1
          cases k1
          have f9 : h9.get f = some (.cells (.lst fr7.l) 804) := by rw [hs9 f (by omega) (by simp), hs8 f (by omega) (by simp)]; exact hF7.1
          have w7 := Frame.regW0 hF7.2
          have lf7 := hF7.2.length
          have hE : E = 0 := by rw [hE]; simp only [copyE, if_pos (show fm ≤ P.length ∧ (N : Int) ≤ P.length - fm from ⟨c1, c2⟩)]
          rw [hr0, hE] at w7
          simp [k4.vcl, k4.len, hCl, cellsAt, f9, asNat_int, blt_dec, ble_dec, lf7, w7]
          refine CallK.monoN ?_ (lawnum_ok _ _ _)
          rintro v h10 n10 ⟨rfl, hs10⟩ hn10
          have f10 : h10.get f = some (.cells (.lst fr7.l) 804) := by rw [hs10 f (by omega) (by simp), f9]
          simp [cellsAt, f10, lf7, ble_dec, w7, eqNum]
          simp [boolNe, z22n]
          have ba : BytesAt h10 b sl P := ha7.of (by rw [hs10 b (by omega) (by simp), hs9 b (by omega) (by simp), hs8 b (by omega) (by simp)])
          have bc : BytesAt h10 a9 x9 C := k4.of (by rw [hs10 a9 (by omega) (by simp)])
          have g10 : h10.get n5 = some (.cells (.lst fr3.l) 804) := by rw [hs10 n5 (by omega) (by simp), hs9 n5 (by omega) (by simp), hs8 n5 (by omega) (by simp), g7]
          refine copies_a (P := P) (C := C) (N := N) (th := true) (by omega) hCl hl' hfm.1 ba bc hC ⟨fun _ => ⟨c1, c2⟩, fun _ => rfl⟩ ?_ _ _ ⟨0, n10, rfl, by omega, F3_L1111111111111110100_of, Nat.le_refl _⟩
          intro t18 n' s hs hn'
          obtain ⟨g', rfl⟩ := hs
          rw [F3_r1111111111111110100_0]
          refine copies_b (N := N) (fr := fr7) (fr0 := fr3) (n0 := n10) (h0 := h10) (by omega) (by omega) ⟨f10, hF7.2⟩ ⟨g10, ok3⟩ (by omega) (by omega) ?_ ?_ _ _ ⟨0, h10, n', rfl, by omega, F3_L11111111111111110100_of, ?_, Same.refl _ _ _⟩
          · intro p' hp' ho
            rw [hfr7, rdB_told, rdB_layM_out ok3 hI3 (by omega) (by rw [hCl]; omega)]
          · intro t20 h' n'' s hs
            obtain ⟨g'', rfl⟩ := hs
            rw [F3_r11111111111111110100_2]
            refine CallK.mono' ?_ (hw _ _)
            rintro v h n rfl
            simp
          · exact hn'
        · simp [c1, c2, ha7.len, hmv, eL, eS]
          refine CallK.monoN ?_ (lawat_ok _ _ _)
          rintro v h8 n8 ⟨rfl, hs8⟩ hn8
          refine CallK.monoN ?_ (hread_ok (f := f) (fr := fr7) _ _ _ N ⟨by rw [hs8 f (by omega) (by simp)]; exact hF7.1, hF7.2⟩ (by omega) (by rw [et]; omega))
          rw [et, ← hp, Int.toNat_natCast]
          rintro v h9 n9 hr hn9
          rcases hr with ⟨l, a9, x9, k1, rfl, k2, k3, k4, hs9⟩ | ⟨k1, _⟩
          rotate_left
          · rw [hrd] at k1; cases k1
          rw [hrd] at k1
          cases k1
          have f9 : h9.get f = some (.cells (.lst fr7.l) 804) := by rw [hs9 f (by omega) (by simp), hs8 f (by omega) (by simp)]; exact hF7.1
          have w7 := Frame.regW0 hF7.2
          have lf7 := hF7.2.length
          have hE : E = 22 := by rw [hE]; simp only [copyE, if_neg (show ¬ (fm ≤ P.length ∧ (N : Int) ≤ P.length - fm) from fun h => c2 h.2)]
          rw [hr0, hE] at w7
          simp [k4.vcl, k4.len, hCl, cellsAt, f9, asNat_int, blt_dec, ble_dec, lf7, w7]
          refine CallK.monoN ?_ (lawnum_ok _ _ _)
          rintro v h10 n10 ⟨rfl, hs10⟩ hn10
          have f10 : h10.get f = some (.cells (.lst fr7.l) 804) := by rw [hs10 f (by omega) (by simp), f9]
          simp [cellsAt, f10, lf7, ble_dec, w7, eqNum]
          simp [boolNe, z22n]
          have ba : BytesAt h10 b sl P := ha7.of (by rw [hs10 b (by omega) (by simp), hs9 b (by omega) (by simp), hs8 b (by omega) (by simp)])
          have bc : BytesAt h10 a9 x9 C := k4.of (by rw [hs10 a9 (by omega) (by simp)])
          have g10 : h10.get n5 = some (.cells (.lst fr3.l) 804) := by rw [hs10 n5 (by omega) (by simp), hs9 n5 (by omega) (by simp), hs8 n5 (by omega) (by simp), g7]
          refine copies_a (P := P) (C := C) (N := N) (th := false) (by omega) hCl hl' hfm.1 ba bc hC ⟨fun h => (by cases h), fun h => absurd h.2 c2⟩ ?_ _ _ ⟨0, n10, rfl, by omega, F3_L1111111111111110100_of, Nat.le_refl _⟩
          intro t18 n' s hs hn'
          obtain ⟨g', rfl⟩ := hs
          rw [F3_r1111111111111110100_0]
          refine copies_b (N := N) (fr := fr7) (fr0 := fr3) (n0 := n10) (h0 := h10) (by omega) (by omega) ⟨f10, hF7.2⟩ ⟨g10, ok3⟩ (by omega) (by omega) ?_ ?_ _ _ ⟨0, h10, n', rfl, by omega, F3_L11111111111111110100_of, ?_, Same.refl _ _ _⟩
          · intro p' hp' ho
            rw [hfr7, rdB_told, rdB_layM_out ok3 hI3 (by omega) (by rw [hCl]; omega)]
          · intro t20 h' n'' s hs
            obtain ⟨g'', rfl⟩ := hs
            rw [F3_r11111111111111110100_2]
            refine CallK.mono' ?_ (hw _ _)
            rintro v h n rfl
            simp
          · exact hn'
      · simp [c1, ha7.len, hmv, eL]
        refine CallK.monoN ?_ (lawat_ok _ _ _)
        rintro v h8 n8 ⟨rfl, hs8⟩ hn8
        refine CallK.monoN ?_ (hread_ok (f := f) (fr := fr7) _ _ _ N ⟨by rw [hs8 f (by omega) (by simp)]; exact hF7.1, hF7.2⟩ (by omega) (by rw [et]; omega))
        rw [et, ← hp, Int.toNat_natCast]
        rintro v h9 n9 hr hn9
        rcases hr with ⟨l, a9, x9, k1, rfl, k2, k3, k4, hs9⟩ | ⟨k1, _⟩
        rotate_left
        · rw [hrd] at k1; cases k1
        rw [hrd] at k1
        cases k1
        have f9 : h9.get f = some (.cells (.lst fr7.l) 804) := by rw [hs9 f (by omega) (by simp), hs8 f (by omega) (by simp)]; exact hF7.1
        have w7 := Frame.regW0 hF7.2
        have lf7 := hF7.2.length
        have hE : E = 22 := by rw [hE]; simp only [copyE, if_neg (show ¬ (fm ≤ P.length ∧ (N : Int) ≤ P.length - fm) from fun h => c1 h.1)]
        rw [hr0, hE] at w7
        simp [k4.vcl, k4.len, hCl, cellsAt, f9, asNat_int, blt_dec, ble_dec, lf7, w7]
        refine CallK.monoN ?_ (lawnum_ok _ _ _)
        rintro v h10 n10 ⟨rfl, hs10⟩ hn10
        have f10 : h10.get f = some (.cells (.lst fr7.l) 804) := by rw [hs10 f (by omega) (by simp), f9]
        simp [cellsAt, f10, lf7, ble_dec, w7, eqNum]
        simp [boolNe, z22n]
        have ba : BytesAt h10 b sl P := ha7.of (by rw [hs10 b (by omega) (by simp), hs9 b (by omega) (by simp), hs8 b (by omega) (by simp)])
        have bc : BytesAt h10 a9 x9 C := k4.of (by rw [hs10 a9 (by omega) (by simp)])
        have g10 : h10.get n5 = some (.cells (.lst fr3.l) 804) := by rw [hs10 n5 (by omega) (by simp), hs9 n5 (by omega) (by simp), hs8 n5 (by omega) (by simp), g7]
        refine copies_a (P := P) (C := C) (N := N) (th := false) (by omega) hCl hl' hfm.1 ba bc hC ⟨fun h => (by cases h), fun h => absurd h.1 c1⟩ ?_ _ _ ⟨0, n10, rfl, by omega, F3_L1111111111111110100_of, Nat.le_refl _⟩
        intro t18 n' s hs hn'
        obtain ⟨g', rfl⟩ := hs
        rw [F3_r1111111111111110100_0]
        refine copies_b (N := N) (fr := fr7) (fr0 := fr3) (n0 := n10) (h0 := h10) (by omega) (by omega) ⟨f10, hF7.2⟩ ⟨g10, ok3⟩ (by omega) (by omega) ?_ ?_ _ _ ⟨0, h10, n', rfl, by omega, F3_L11111111111111110100_of, ?_, Same.refl _ _ _⟩
        · intro p' hp' ho
          rw [hfr7, rdB_told, rdB_layM_out ok3 hI3 (by omega) (by rw [hCl]; omega)]
        · intro t20 h' n'' s hs
          obtain ⟨g'', rfl⟩ := hs
          rw [F3_r11111111111111110100_2]
          refine CallK.mono' ?_ (hw _ _)
          rintro v h n rfl
          simp
        · exact hn'
  · rw [if_neg (fun h => hmm (um.2 h))] at hC
    rcases hC with ⟨_, rfl, hF7⟩ | ⟨h, _⟩ | ⟨h, _⟩
    · have f7 := hF7.1
      by_cases m1 : m < 1
      · simp [m1, f7, g7, l3, cellsAt, etk, eqf, ble_dec]
        refine CallK.mono' ?_ (hw _ _)
        rintro v h n rfl
        simp
      · have m2 : 64 < m := by omega
        simp [m1, m2, f7, g7, l3, cellsAt, etk, eqf, ble_dec]
        refine CallK.mono' ?_ (hw _ _)
        rintro v h n rfl
        simp
    · cases h
    · cases h
end Go.Ev
