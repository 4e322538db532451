import Derived.Test.YthmhagelflolfaaGreatIM1
namespace Go.Ev
set_option maxRecDepth 20000

section
variable {x : Insn} {u : Use} {o : Int} {h : Heap} {n n8 n12 : Nat} {K : V → Heap → Nat → Prop}
def M5 (x : Insn) : Int := if x.op = 24 ∧ (1 < x.src ∨ (x.src = 1 ∧ (x.imm < 1 ∨ 8 < x.imm))) then 6 else 0
def M4 (x : Insn) : Int := if (x.op = 212 ∨ x.op = 220) ∧ x.imm ≠ 16 ∧ x.imm ≠ 32 ∧ x.imm ≠ 64 then 6 else M5 x
def B1 (u : Use) (x : Insn) : Prop := u.dst = false ∧ x.dst ≠ 0
def B2 (u : Use) (x : Insn) : Prop := u.src = false ∧ x.src ≠ 0
def B3 (u : Use) (x : Insn) : Prop := u.off = false ∧ x.off ≠ 0
def B4 (u : Use) (x : Insn) : Prop := u.imm = false ∧ x.imm ≠ 0
instance : Decidable (B1 u x) := inferInstanceAs (Decidable (_ ∧ _))
instance : Decidable (B2 u x) := inferInstanceAs (Decidable (_ ∧ _))
instance : Decidable (B3 u x) := inferInstanceAs (Decidable (_ ∧ _))
instance : Decidable (B4 u x) := inferInstanceAs (Decidable (_ ∧ _))
def M3 (u : Use) (x : Insn) : Int := if B1 u x ∨ B2 u x ∨ B3 u x ∨ B4 u x then 6 else M4 x
def M2 (u : Use) (x : Insn) : Int := if x.off < -32768 ∨ 32767 < x.off ∨ (x.op ≠ 24 ∧ (x.imm < -2147483648 ∨ 2147483647 < x.imm)) then 15 else M3 u x
def M1 (u : Use) (x : Insn) : Int := if x.dst < 0 ∨ 10 < x.dst ∨ x.src < 0 ∨ 10 < x.src ∨ (u.writes = true ∧ x.dst = 10) then 5 else M2 u x
theorem checkM_M1 (hu : useOf x.op = some u) : checkM x = M1 u x := by
  unfold checkM; rw [hu]; rfl
def useV (o : Int) (u : Use) : List V := [.s (.int .i64 o), .s (.bool u.dst), .s (.bool u.src), .s (.bool u.off), .s (.bool u.imm), .s (.bool u.writes)]

theorem k117 (hx : h.get n = some (.cells (.lst x.l) 5)) (H : K (.s (.int .i64 (M5 x))) h n12) : F20_k117 n h n12 K := by
  unfold F20_k117
  unfold M5 at H
  by_cases c : x.op = 24
  · by_cases s1 : 1 < x.src
    · rw [if_pos ⟨c, .inl s1⟩] at H
      simp [cellsAt, hx, Insn.l, c, s1]; exact H
    · by_cases s2 : x.src = 1
      · by_cases i1 : x.imm < 1
        · rw [if_pos ⟨c, .inr ⟨s2, .inl i1⟩⟩] at H
          simp [cellsAt, hx, Insn.l, c, s2, i1]; exact H
        · by_cases i8 : 8 < x.imm
          · rw [if_pos ⟨c, .inr ⟨s2, .inr i8⟩⟩] at H
            simp [cellsAt, hx, Insn.l, c, s2, i1, i8]; exact H
          · rw [if_neg (by omega)] at H
            simp [cellsAt, hx, Insn.l, c, s2, i1, i8]; exact H
      · rw [if_neg (by omega)] at H
        simp [cellsAt, hx, Insn.l, c, s1, s2]; exact H
  · rw [if_neg (by omega)] at H
    simp [cellsAt, hx, Insn.l, c]; exact H
theorem k112 {b : Bool} (hx : h.get n = some (.cells (.lst x.l) 5)) (H : K (.s (.int .i64 (if b = true ∧ x.imm ≠ 64 then 6 else M5 x))) h n12) : F20_k112 (.s (.bool b)) n h n12 K := by
  unfold F20_k112
  have fin : K (.s (.int .i64 (M5 x))) h n12 → F20_k117 n h n12 K := k117 hx
  generalize F20_k117 = R at fin ⊢
  cases b with
  | false =>
    have k := fin (by simpa using H)
    simp; exact k
  | true =>
    by_cases z : x.imm = 64
    · have k := fin (by simpa [z] using H)
      simp [cellsAt, hx, Insn.l, z]; exact k
    · have k : K (.s (.int .i64 6)) h n12 := by simpa [z] using H
      simp [cellsAt, hx, Insn.l, z]; exact k
theorem k108 {b : Bool} (hx : h.get n = some (.cells (.lst x.l) 5)) (H : K (.s (.int .i64 (if b = true ∧ x.imm ≠ 32 ∧ x.imm ≠ 64 then 6 else M5 x))) h n12) : F20_k108 (.s (.bool b)) n h n12 K := by
  unfold F20_k108
  have fin : ∀ c : Bool, (c = true ↔ b = true ∧ x.imm ≠ 32) → F20_k112 (.s (.bool c)) n h n12 K := fun c hc => k112 hx (by simp only [hc, and_assoc]; exact H)
  generalize F20_k112 = R at fin ⊢
  cases b with
  | false =>
    have k := fin false (by simp)
    simp; exact k
  | true =>
    by_cases z : x.imm = 32
    · have k := fin false (by simp [z])
      simp [cellsAt, hx, Insn.l, z]; exact k
    · have k := fin true (by simp [z])
      simp [cellsAt, hx, Insn.l, z]; exact k
theorem k104 {b : Bool} (hx : h.get n = some (.cells (.lst x.l) 5)) (H : K (.s (.int .i64 (if b = true ∧ x.imm ≠ 16 ∧ x.imm ≠ 32 ∧ x.imm ≠ 64 then 6 else M5 x))) h n12) : F20_k104 (.s (.bool b)) n h n12 K := by
  unfold F20_k104
  have fin : ∀ c : Bool, (c = true ↔ b = true ∧ x.imm ≠ 16) → F20_k108 (.s (.bool c)) n h n12 K := fun c hc => k108 hx (by simp only [hc, and_assoc]; exact H)
  generalize F20_k108 = R at fin ⊢
  cases b with
  | false =>
    have k := fin false (by simp)
    simp; exact k
  | true =>
    by_cases z : x.imm = 16
    · have k := fin false (by simp [z])
      simp [cellsAt, hx, Insn.l, z]; exact k
    · have k := fin true (by simp [z])
      simp [cellsAt, hx, Insn.l, z]; exact k
theorem k97 (hx : h.get n = some (.cells (.lst x.l) 5)) (H : K (.s (.int .i64 (M4 x))) h n12) : F20_k97 n h n12 K := by
  unfold F20_k97
  unfold M4 at H
  have fin : ∀ c : Bool, (c = true ↔ x.op = 212 ∨ x.op = 220) → F20_k104 (.s (.bool c)) n h n12 K := fun c hc => k104 hx (by simp only [hc]; exact H)
  generalize F20_k104 = R at fin ⊢
  by_cases c1 : x.op = 212
  · have k := fin true (by simp [c1])
    simp [cellsAt, hx, Insn.l, c1]; exact k
  · by_cases c2 : x.op = 220
    · have k := fin true (by simp [c2])
      simp [cellsAt, hx, Insn.l, c2]; exact k
    · have k := fin false (by simp [c1, c2])
      simp [cellsAt, hx, Insn.l, c1, c2]; exact k
theorem k87 {b : Bool} (hx : h.get n = some (.cells (.lst x.l) 5)) (hu : h.get n8 = some (.cells (.lst (useV o u)) 6)) (H : K (.s (.int .i64 (if b = true ∨ B4 u x then 6 else M4 x))) h n12) : F20_k87 (.s (.bool b)) n8 h n n12 K := by
  unfold F20_k87
  have fin : K (.s (.int .i64 (M4 x))) h n12 → F20_k97 n h n12 K := k97 hx
  generalize F20_k97 = R at fin ⊢
  cases b with
  | true =>
    have k : K (.s (.int .i64 6)) h n12 := by simpa using H
    simp; exact k
  | false =>
    cases d : u.imm with
    | true =>
      rw [if_neg (by rintro (e | e); cases e; rw [B4, d] at e; cases e.1)] at H
      have k := fin H
      simp [cellsAt, hx, hu, useV, Insn.l, d]; exact k
    | false =>
      by_cases z : x.imm = 0
      · rw [if_neg (by rintro (e | e); cases e; exact e.2 z)] at H
        have k := fin H
        simp [cellsAt, hx, hu, useV, Insn.l, d, z]; exact k
      · rw [if_pos (.inr ⟨d, z⟩)] at H
        simp [cellsAt, hx, hu, useV, Insn.l, d, z]; exact H
theorem k78 {b : Bool} (hx : h.get n = some (.cells (.lst x.l) 5)) (hu : h.get n8 = some (.cells (.lst (useV o u)) 6)) (H : K (.s (.int .i64 (if b = true ∨ B3 u x ∨ B4 u x then 6 else M4 x))) h n12) : F20_k78 (.s (.bool b)) n8 h n n12 K := by
  unfold F20_k78
  have fin : ∀ c : Bool, (c = true ↔ (b = true ∨ B3 u x)) → F20_k87 (.s (.bool c)) n8 h n n12 K := fun c hc => k87 hx hu (by
    have : (b = true ∨ B3 u x ∨ B4 u x) ↔ (c = true ∨ B4 u x) := by rw [hc, or_assoc]
    simp only [this] at H; exact H)
  generalize F20_k87 = R at fin ⊢
  cases b with
  | true =>
    have k := fin true (by simp)
    simp; exact k
  | false =>
    cases d : u.off with
    | true =>
      have k := fin false (by simp [B3, d])
      simp [cellsAt, hx, hu, useV, Insn.l, d]; exact k
    | false =>
      by_cases z : x.off = 0
      · have k := fin false (by simp [B3, z])
        simp [cellsAt, hx, hu, useV, Insn.l, d, z]; exact k
      · have k := fin true (by simp [B3, d, z])
        simp [cellsAt, hx, hu, useV, Insn.l, d, z]; exact k
theorem k69 {b : Bool} (hx : h.get n = some (.cells (.lst x.l) 5)) (hu : h.get n8 = some (.cells (.lst (useV o u)) 6)) (H : K (.s (.int .i64 (if b = true ∨ B2 u x ∨ B3 u x ∨ B4 u x then 6 else M4 x))) h n12) : F20_k69 (.s (.bool b)) n8 h n n12 K := by
  unfold F20_k69
  have fin : ∀ c : Bool, (c = true ↔ (b = true ∨ B2 u x)) → F20_k78 (.s (.bool c)) n8 h n n12 K := fun c hc => k78 hx hu (by
    have : (b = true ∨ B2 u x ∨ B3 u x ∨ B4 u x) ↔ (c = true ∨ B3 u x ∨ B4 u x) := by rw [hc, or_assoc]
    simp only [this] at H; exact H)
  generalize F20_k78 = R at fin ⊢
  cases b with
  | true =>
    have k := fin true (by simp)
    simp; exact k
  | false =>
    cases d : u.src with
    | true =>
      have k := fin false (by simp [B2, d])
      simp [cellsAt, hx, hu, useV, Insn.l, d]; exact k
    | false =>
      by_cases z : x.src = 0
      · have k := fin false (by simp [B2, z])
        simp [cellsAt, hx, hu, useV, Insn.l, d, z]; exact k
      · have k := fin true (by simp [B2, d, z])
        simp [cellsAt, hx, hu, useV, Insn.l, d, z]; exact k
theorem k62 (hx : h.get n = some (.cells (.lst x.l) 5)) (hu : h.get n8 = some (.cells (.lst (useV o u)) 6)) (H : K (.s (.int .i64 (M3 u x))) h n12) : F20_k62 n8 h n n12 K := by
  unfold F20_k62
  unfold M3 at H
  have fin : ∀ c : Bool, (c = true ↔ B1 u x) → F20_k69 (.s (.bool c)) n8 h n n12 K := fun c hc => k69 hx hu (by
    simp only [← hc] at H; exact H)
  generalize F20_k69 = R at fin ⊢
  cases d : u.dst with
  | true =>
    have k := fin false (by simp [B1, d])
    simp [cellsAt, hx, hu, useV, Insn.l, d]; exact k
  | false =>
    by_cases z : x.dst = 0
    · have k := fin false (by simp [B1, z])
      simp [cellsAt, hx, hu, useV, Insn.l, d, z]; exact k
    · have k := fin true (by simp [B1, d, z])
      simp [cellsAt, hx, hu, useV, Insn.l, d, z]; exact k
theorem k47 {b : Bool} (hx : h.get n = some (.cells (.lst x.l) 5)) (hu : h.get n8 = some (.cells (.lst (useV o u)) 6)) (H : K (.s (.int .i64 (if b = true ∨ (x.op ≠ 24 ∧ (x.imm < -2147483648 ∨ 2147483647 < x.imm)) then 15 else M3 u x))) h n12) : F20_k47 (.s (.bool b)) n h n12 n8 K := by
  unfold F20_k47
  have fin : K (.s (.int .i64 (M3 u x))) h n12 → F20_k62 n8 h n n12 K := k62 hx hu
  generalize F20_k62 = R at fin ⊢
  cases b with
  | true =>
    have k : K (.s (.int .i64 15)) h n12 := by simpa using H
    simp; exact k
  | false =>
    by_cases a3 : x.op = 24
    · have k := fin (by simpa [a3] using H)
      simp [cellsAt, hx, Insn.l, a3]; exact k
    · by_cases a4 : x.imm < -2147483648
      · have k : K (.s (.int .i64 15)) h n12 := by simpa [a3, a4] using H
        simp [cellsAt, hx, Insn.l, a3, a4]; exact k
      · by_cases a5 : 2147483647 < x.imm
        · have k : K (.s (.int .i64 15)) h n12 := by simpa [a3, a5] using H
          simp [cellsAt, hx, Insn.l, a3, a4, a5]; exact k
        · have k := fin (by rw [if_neg] at H; exact H; rintro (e | e); cases e; omega)
          simp [cellsAt, hx, Insn.l, a3, a4, a5]; exact k
theorem k40 (hx : h.get n = some (.cells (.lst x.l) 5)) (hu : h.get n8 = some (.cells (.lst (useV o u)) 6)) (H : K (.s (.int .i64 (M2 u x))) h n12) : F20_k40 n h n12 n8 K := by
  unfold F20_k40
  unfold M2 at H
  have fin : ∀ c : Bool, (c = true ↔ x.off < -32768 ∨ 32767 < x.off) → F20_k47 (.s (.bool c)) n h n12 n8 K := fun c hc => k47 hx hu (by simp only [hc, or_assoc]; exact H)
  generalize F20_k47 = R at fin ⊢
  by_cases a1 : x.off < -32768
  · have k := fin true (by simp [a1])
    simp [cellsAt, hx, Insn.l, a1]; exact k
  · by_cases a2 : 32767 < x.off
    · have k := fin true (by simp [a2])
      simp [cellsAt, hx, Insn.l, a1, a2]; exact k
    · have k := fin false (by simp [a1, a2])
      simp [cellsAt, hx, Insn.l, a1, a2]; exact k
theorem k16 (hx : h.get n = some (.cells (.lst x.l) 5)) (hu : h.get n8 = some (.cells (.lst (useV o u)) 6)) (H : K (.s (.int .i64 (M1 u x))) h n12) : F20_k16 n h n8 n12 K := by
  unfold F20_k16
  unfold M1 at H
  have fin : K (.s (.int .i64 (M2 u x))) h n12 → F20_k40 n h n12 n8 K := k40 hx hu
  generalize F20_k40 = R at fin ⊢
  by_cases a1 : x.dst < 0
  · rw [if_pos (.inl a1)] at H
    simp [cellsAt, hx, Insn.l, a1]; exact H
  · by_cases a2 : 10 < x.dst
    · rw [if_pos (.inr (.inl a2))] at H
      simp [cellsAt, hx, Insn.l, a1, a2]; exact H
    · by_cases a3 : x.src < 0
      · rw [if_pos (.inr (.inr (.inl a3)))] at H
        simp [cellsAt, hx, Insn.l, a1, a2, a3]; exact H
      · by_cases a4 : 10 < x.src
        · rw [if_pos (.inr (.inr (.inr (.inl a4))))] at H
          simp [cellsAt, hx, Insn.l, a1, a2, a3, a4]; exact H
        · cases d : u.writes with
          | false =>
            rw [if_neg (by rintro (e | e | e | e | e) <;> first | omega | (rw [d] at e; cases e.1))] at H
            have k := fin H
            simp [cellsAt, hx, hu, useV, Insn.l, a1, a2, a3, a4, d]; exact k
          | true =>
            by_cases a5 : x.dst = 10
            · rw [if_pos (.inr (.inr (.inr (.inr ⟨d, a5⟩))))] at H
              simp [cellsAt, hx, hu, useV, Insn.l, a3, a4, d, a5]; exact H
            · rw [if_neg (by rintro (e | e | e | e | e) <;> first | omega | exact a5 e.2)] at H
              have k := fin H
              simp [cellsAt, hx, hu, useV, Insn.l, a1, a2, a3, a4, d, a5]; exact k
end

theorem table_row : answersRow (Ctx.of Go.Proofs.Tryz.prog 0) 73 = some ((tableM.map useCells).flatten, 0, tableM.length, tableM.length, true, 6) := by kernel_rfl
def tableV : List V := ((tableM.map useCells).flatten).map V.s
theorem table_ok (h : Heap) (n : Nat) : CallK CC 73 [] h n fun v h' n' => v = .slice n 0 tableM.length tableM.length true ∧ h' = h.set n (.cells (.lst tableV) 6) ∧ n' = n + 1 :=
  closedRow typesFine namesFine mixedFine table_row h n
theorem tableV_at : ∀ i : Nat, (hi : i < tableM.length) → (tableV.drop (i * 6)).take 6 = (useCells tableM[i]).map V.s := by
  have key : ∀ (l : List (Int × Use)) (i : Nat) (hi : i < l.length), ((((l.map useCells).flatten).map V.s).drop (i * 6)).take 6 = (useCells l[i]).map V.s := by
    intro l
    induction l with
    | nil => intro i hi; simp at hi
    | cons e l ih =>
      intro i hi
      cases i with
      | zero => simp [useCells]
      | succ i =>
        have := ih i (by simpa using hi)
        rw [List.map_cons, List.flatten_cons, List.map_append, List.drop_append]
        have hl : ((useCells e).map V.s).length = 6 := rfl
        rw [hl, show (i + 1) * 6 - 6 = i * 6 by omega, List.drop_eq_nil_of_le (by rw [hl]; omega)]
        simpa using this
  exact key tableM
theorem tableV_length : tableV.length = tableM.length * 6 := by decide +kernel
theorem table_len : tableM.length = 100 ∨ tableM.length < 1000 := by decide +kernel
/-- Of the first i entries none is an operation's. -/
theorem useOf_at {op : Int} {i : Nat} (hi : i < tableM.length) (h1 : ∀ j (hj : j < tableM.length), j < i → tableM[j].1 ≠ op) (h2 : tableM[i].1 = op) : useOf op = some tableM[i].2 := by
  unfold useOf
  have : tableM.find? (fun e => e.1 == op) = some tableM[i] := by
    rw [List.find?_eq_some_iff_getElem]
    exact ⟨by simp [h2], i, hi, rfl, fun j hj => by simpa using h1 j (by omega) hj⟩
  rw [this]; rfl
theorem useOf_no {op : Int} (h1 : ∀ j (hj : j < tableM.length), tableM[j].1 ≠ op) : useOf op = none := by
  unfold useOf
  have : tableM.find? (fun e => e.1 == op) = none := by
    rw [List.find?_eq_none]
    intro e he
    obtain ⟨j, hj, rfl⟩ := List.getElem_of_mem he
    simpa using h1 j hj
  rw [this]; rfl

theorem of_loop {op : Int} {p a : Nat} {Q : X → St → Prop} {h0 : Heap} {n0 : Nat} (hp : p < n0) (ha : a < n0) (hpa : p ≠ a) (hT : h0.get a = some (.cells (.lst tableV) 6)) {A : List V} (hA : h0.get p = some (.cells (.lst A) 6)) (hAl : A.length = 6)
    (hQ0 : ∀ t5 n s, F39_L110100 (.s (.int .i64 op)) (.ptr p 0) (.slice a 0 tableM.length tableM.length true) t5 h0 n s → useOf op = none → n0 ≤ n → Q (.exit 0) s)
    (hQ1 : ∀ h n (L : List V) u, useOf op = some u → n0 ≤ n → h.get p = some (.cells (.lst (useV op u)) 6) → (∀ b, b ≠ p → h.get b = h0.get b) → L[2]? = some (.ptr p 0) → L[3]? = some (.s (.bool true)) → Q .ret ⟨mkTm L, h, n, []⟩) :
    ∀ m s, (∃ i n, m = tableM.length - i ∧ i ≤ tableM.length ∧ F39_L110100 (.s (.int .i64 op)) (.ptr p 0) (.slice a 0 tableM.length tableM.length true) (.s (.int .i64 (i : Nat))) h0 n s ∧ (∀ j (hj : j < tableM.length), j < i → tableM[j].1 ≠ op) ∧ n0 ≤ n) →
      LoopK CC none (subC [1, 1, 0, 1, 0, 0] (bodyOf Go.Proofs.Tryz.f39)) s Q := by
  have hlen : tableM.length < 1000 := by rcases table_len with h | h <;> omega
  have hTl := tableV_length
  have hrow := tableV_at
  have huse : ∀ i (hi : i < tableM.length), (useCells tableM[i]).map V.s = useV tableM[i].1 tableM[i].2 := fun _ _ => rfl
  have hat := fun i hi => useOf_at (op := op) (i := i) hi
  have hno := useOf_no (op := op)
  generalize tableM = T at *
  generalize tableV = TV at *
  refine loopH CCok _ ?_
  rintro m s ⟨i, n, hm, hi, hs, hne, hn⟩ hlt
  obtain ⟨g, rfl⟩ := hs
  rw [F39_b110100]
  by_cases hi' : i < T.length
  · have e3 : wrapF .i64 ((i : Int) + 1) = ((i + 1 : Nat) : Int) := by rw [wrapF_i64 (by omega) (by omega)]; rfl
    have hr := hrow i hi'
    rw [huse i hi'] at hr
    have hle : i * 6 + 6 ≤ TV.length := by omega
    have h0' : TV[i * 6]? = some (.s (.int .i64 T[i].1)) := by
      have := congrArg (fun l => l[0]?) hr
      simp only [useV] at this
      rw [List.getElem?_take, if_pos (by decide), List.getElem?_drop] at this
      simpa using this
    simp [hi', asNat_int, blt_dec, cellsAt, hT, h0']
    by_cases heq : T[i].1 = op
    · simp [heq, hr, ble_dec, hle, useV]
      rw [storeCells_lst hA (by simp [hAl])]
      simp [roundQ]
      refine hQ1 _ _ _ T[i].2 (hat i hi' (fun j hj hji => hne j hj hji) heq) hn ?_ ?_ rfl rfl
      · rw [Tree.get_set, if_pos rfl, List.drop_eq_nil_of_le (by simp [hAl])]
        rfl
      · intro b hb
        rw [Tree.get_set, if_neg hb]
    · simp [heq]
      exact ⟨T.length - (i + 1), h0, by omega, fun hok b o hb => ⟨o, hb, hok b o hb⟩, i + 1, rfl, by omega, _, by rw [e3]; exact F39_L110100_of, fun j hj hji => (by
        by_cases e : j = i
        · subst e; exact heq
        · exact hne j hj (by omega)), hn⟩
  · have : i = T.length := by omega
    subst this
    simp [roundQ]
    exact hQ0 _ n _ F39_L110100_of (hno fun j hj => hne j hj hj) hn
def OfP (op : Int) (v : V) : Prop := (useOf op = none ∧ v = .tup [.agg (.lst (useV 0 ⟨false, false, false, false, false⟩)), .s (.bool false)]) ∨ ∃ u, useOf op = some u ∧ v = .tup [.agg (.lst (useV op u)), .s (.bool true)]
theorem of_ok (op : Int) (h : Heap) (n : Nat) : CallK CC 39 [.s (.int .i64 op)] h n fun v h' n' => OfP op v ∧ Same n [] h h' := by
  refine F39_call fun hlt => ?_
  rw [F39_eq]
  refine CallK.monoN ?_ (table_ok _ _)
  rintro v h' n' ⟨rfl, rfl, rfl⟩ _
  have hz : (zr CC 99).toList.length = 6 := by kernel_rfl
  refine of_loop (op := op) (p := n) (a := n + 1) (n0 := n + 1 + 1) (h0 := (h.set n (.cells (.lst (zr CC 99).toList) 6)).set (n + 1) (.cells (.lst tableV) 6)) (by omega) (by omega) (by omega) (by rw [Tree.get_set, if_pos rfl]) (by rw [Tree.get_set, if_neg (by omega), Tree.get_set, if_pos rfl]) hz ?_ ?_ _ _ ⟨0, n + 1 + 1, rfl, by omega, F39_L110100_of, fun j hj h => by omega, Nat.le_refl _⟩
  · intro t5 n1 s hs hno hn
    obtain ⟨g, rfl⟩ := hs
    rw [F39_r110100_0]
    simp
    rw [storeCells_lst (by rw [Tree.get_set, if_neg (by omega), Tree.get_set, if_pos rfl]) (by simp)]
    simp [cellsAt, Tree.get_set, ble_dec, hz]
    refine ⟨.inl ⟨hno, ?_⟩, ?_⟩
    · rfl
    · intro b hb _
      simp only [Tree.get_set]
      rw [if_neg (by omega), if_neg (by omega), if_neg (by omega)]
  · intro h1 n1 L u hu hn hp hold h2 h3
    simp [resume, retW, dropDefs, h2, h3, cellsAt, hp, useV, ble_dec]
    refine ⟨.inr ⟨u, hu, rfl⟩, ?_⟩
    intro b hb _
    rw [hold b (by omega), Tree.get_set, if_neg (by omega), Tree.get_set, if_neg (by omega)]
theorem rcheck_ok (x : Insn) (h : Heap) (n : Nat) : CallK CC 20 [.agg (.lst x.l)] h n fun v h' n' => v = .s (.int .i64 (checkM x)) ∧ Same n [] h h' := by
  refine F20_call fun hlt => ?_
  rw [F20_eq]
  simp [Insn.l, cellsAt, Tree.get_set]
  refine CallK.monoN ?_ (of_ok _ _ _)
  rintro v h1 n1 ⟨hP, hs1⟩ hn1
  have fin : ∀ {u : Use} {o : Int} {h2 : Heap}, useOf x.op = some u → h2.get n = some (.cells (.lst x.l) 5) → h2.get n1 = some (.cells (.lst (useV o u)) 6) → (∀ b, b < n → h2.get b = h.get b) → F20_k16 n h2 n1 (n1 + 1) (fun v h' n' => v = .s (.int .i64 (checkM x)) ∧ Same n [] h h') :=
    fun hu hx hv hold => k16 hx hv ⟨by rw [checkM_M1 hu], fun b hb _ => hold b hb⟩
  generalize F20_k16 = R at fin ⊢
  have hx1 : h1.get n = some (.cells (.lst x.l) 5) := by rw [hs1 n (by omega) (by simp), Tree.get_set, if_pos rfl]; rfl
  have hold1 : ∀ b, b < n → h1.get b = h.get b := fun b hb => by rw [hs1 b (by omega) (by simp), Tree.get_set, if_neg (by omega)]
  rcases hP with ⟨hno, rfl⟩ | ⟨u, hu, rfl⟩
  · simp [useV]
    rw [storeCells_lst (by rw [Tree.get_set, if_pos rfl]) (by simp)]
    simp
    refine ⟨by unfold checkM; rw [hno], ?_⟩
    intro b hb _
    rw [Tree.get_set, if_neg (by omega), Tree.get_set, if_neg (by omega), hold1 b hb]
  · simp [useV]
    rw [storeCells_lst (by rw [Tree.get_set, if_pos rfl]) (by simp)]
    simp
    refine fin (o := x.op) hu (by rw [Tree.get_set, if_neg (by omega), Tree.get_set, if_neg (by omega), hx1]) (by rw [Tree.get_set, if_pos rfl]; rfl) ?_
    intro b hb
    rw [Tree.get_set, if_neg (by omega), Tree.get_set, if_neg (by omega), hold1 b hb]
theorem rsize_ok (x : Insn) (h : Heap) (n : Nat) : CallK CC 76 [.agg (.lst x.l)] h n fun v h' n' => v = .s (.int .i64 (sizeM x)) ∧ Same n [] h h' := by
  refine F76_call fun hlt => ?_
  rw [F76_eq]
  by_cases hx : x.op = 24
  · simp [Insn.l, cellsAt, Tree.get_set, hx, sizeM]
    exact fun b hb _ => by rw [Tree.get_set, if_neg (by omega)]
  · simp [Insn.l, cellsAt, Tree.get_set, hx, sizeM]
    exact fun b hb _ => by rw [Tree.get_set, if_neg (by omega)]

theorem is_ok (x : Insn) (hx : 0 ≤ x.op ∧ x.op < 256) (k : Int) (h : Heap) (n : Nat) : CallK CC 38 [.agg (.lst x.l), .s (.int .i64 k)] h n fun v h' n' => v = .s (.bool (decide (x.op % 8 = 5 ∧ x.op / 16 = k))) ∧ Same n [] h h' := by
  refine F38_call fun hlt => ?_
  rw [F38_eq]
  obtain ⟨o, ho⟩ : ∃ o : Nat, x.op = o := ⟨x.op.toNat, by omega⟩
  have s4 := op_shr4 o (by omega)
  have a7 := op_and7 o (by omega)
  rw [Int.natCast_ediv] at s4
  rw [Int.natCast_emod] at a7
  have sm : ∀ r, Same n [] h (h.set n r) := fun r => Same.new _ _ _ _
  by_cases c5 : (o : Int) % 8 = 5
  · simp [Insn.l, cellsAt, Tree.get_set, ho, bin_shr, s4, a7, c5]
    exact sm _
  · simp [Insn.l, cellsAt, Tree.get_set, ho, bin_shr, s4, a7, c5]
    exact sm _
theorem jumps_ok (x : Insn) (hx : 0 ≤ x.op ∧ x.op < 256) (h : Heap) (n : Nat) : CallK CC 37 [.agg (.lst x.l)] h n fun v h' n' => v = .s (.bool (jumpsM x.op)) ∧ Same n [] h h' := by
  refine F37_call fun hlt => ?_
  rw [F37_eq]
  obtain ⟨o, ho⟩ : ∃ o : Nat, x.op = o := ⟨x.op.toNat, by omega⟩
  have s4 := op_shr4 o (by omega)
  have a7 := op_and7 o (by omega)
  rw [Int.natCast_ediv] at s4
  rw [Int.natCast_emod] at a7
  have sm : ∀ r, Same n [] h (h.set n r) := fun r => Same.new _ _ _ _
  unfold jumpsM
  by_cases c8 : (o : Int) / 16 = 8
  · by_cases c5 : (o : Int) % 8 = 5
    · simp [Insn.l, cellsAt, Tree.get_set, ho, bin_shr, s4, a7, c5, c8]; exact sm _
    · by_cases c6 : (o : Int) % 8 = 6
      · simp [Insn.l, cellsAt, Tree.get_set, ho, bin_shr, s4, a7, c6, c8]; exact sm _
      · simp [Insn.l, cellsAt, Tree.get_set, ho, bin_shr, s4, a7, c5, c6]; exact sm _
  · by_cases c9 : (o : Int) / 16 = 9
    · by_cases c5 : (o : Int) % 8 = 5
      · simp [Insn.l, cellsAt, Tree.get_set, ho, bin_shr, s4, a7, c5, c9]; exact sm _
      · by_cases c6 : (o : Int) % 8 = 6
        · simp [Insn.l, cellsAt, Tree.get_set, ho, bin_shr, s4, a7, c6, c9]; exact sm _
        · simp [Insn.l, cellsAt, Tree.get_set, ho, bin_shr, s4, a7, c5, c6]; exact sm _
    · by_cases c5 : (o : Int) % 8 = 5
      · simp [Insn.l, cellsAt, Tree.get_set, ho, bin_shr, s4, a7, c5, c8, c9]; exact sm _
      · by_cases c6 : (o : Int) % 8 = 6
        · simp [Insn.l, cellsAt, Tree.get_set, ho, bin_shr, s4, a7, c6, c8, c9]; exact sm _
        · simp [Insn.l, cellsAt, Tree.get_set, ho, bin_shr, s4, a7, c5, c6]; exact sm _

theorem placesIn_loop {l : List Insn} {sl t9 : V} {L : List Int} {N : Nat} (hN : 1 ≤ N ∧ N ≤ 2) (hL : L.length ≤ 4000) {Q : X → St → Prop} {n0 : Nat} {h0 : Heap}
    (hQ : ∀ t3 t6 a h n s, F35_L110100110011100 t3 t6 sl (.s (.int .i64 l.length)) t9 h n s → n0 ≤ n → GrowN h a t3 (L ++ List.replicate (N - 1) (-1)) → n0 ≤ a → a < n → Same n0 [] h0 h → Q (.exit 2) s) :
    ∀ m s, (∃ (r : Nat) (h : Heap) (n : Nat) (t3 : V) (a : Nat), m = r - 1 ∧ 1 ≤ r ∧ r ≤ N ∧ F35_L110100110011100 t3 (.s (.int .i64 (r : Nat))) sl (.s (.int .i64 l.length)) t9 h n s ∧ n0 ≤ n ∧ GrowN h a t3 (L ++ List.replicate (N - r) (-1)) ∧ n0 ≤ a ∧ a < n ∧ Same n0 [] h0 h) →
      LoopK CC none (subC [1, 1, 0, 1, 0, 0, 1, 1, 0, 0, 1, 1, 1, 0, 0] (bodyOf Go.Proofs.Tryz.f35)) s Q := by
  refine loopH CCok _ ?_
  rintro m s ⟨r, h, n, t3, a, hm, hr1, hr, hs, hn, hG, ha0, han, hsm⟩ hlt
  obtain ⟨g, rfl⟩ := hs
  rw [F35_b110100110011100]
  replace hlt : ∀ b o, h.get b = some o → b < n := hlt
  by_cases hr' : 1 < r
  · have hr2 : r = 2 := by omega
    subst hr2
    have hN2 : N = 2 := by omega
    subst hN2
    have e3 : wrapF .i64 ((2 : Int) - 1) = ((1 : Nat) : Int) := by decide
    simp
    have hG' : GrowN (h.set n (.cells (.lst [.s (.int .i64 (-1))]) 1)) a t3 (L ++ List.replicate (2 - 2) (-1)) := hG.of (by rw [Tree.get_set, if_neg (by omega)])
    refine grow_ok (m := 1) (new := intsV [-1]) (by omega) hG' (.row (A := intsV [-1]) (es := 1) (by simp [cellsAt, Tree.get_set, intsV]) (by simp [intsV]) (by simp [intsV])) (by omega) (by simp; omega) ?_
    intro v' a' h2 n2 ha' han' hn2 hG2 hs2
    refine ⟨0, h2, by omega, fun hok b o hb => ⟨o, hb, hok b o hb⟩, 1, rfl, by omega, by omega, h2, n2, v', by rw [show wrapF .i64 1 = ((1 : Nat) : Int) from by decide]; exact F35_L110100110011100_of, by omega, a', ?_, by omega, by omega, ?_⟩
    · simpa [GrowN, intsV] using hG2
    · intro b' hb' hn'
      rw [hs2 b' (by omega) (by omega), Tree.get_set, if_neg (by omega), hsm b' hb' hn']
  · have hr2 : r = 1 := by omega
    subst hr2
    simp [roundQ]
    exact hQ t3 _ a h n _ F35_L110100110011100_of hn hG ha0 han hsm
theorem slotM_bound (l : List Insn) {i : Nat} (hi : i ≤ l.length) : slotM l i ≤ 2 * l.length := by
  have := slotM_le hi; omega
theorem places_loop {b : Nat} {sl : V} {l : List Insn} (hl : l.length ≤ 1000) {Q : X → St → Prop} {n0 : Nat} {h0 : Heap} (hb : b < n0) (hs : InsnsAt h0 b sl l)
    (hQ : ∀ t3 t9 a h n s, F35_L110100 t3 sl (.s (.int .i64 l.length)) t9 h n s → n0 ≤ n → GrowN h a t3 (placesM l l.length) → n0 ≤ a → (l ≠ [] → a < n) → Same n0 [] h0 h → Q (.exit 0) s) :
    ∀ m s, (∃ (i : Nat) (h : Heap) (n : Nat) (t3 : V) (a : Nat), m = l.length - i ∧ i ≤ l.length ∧ F35_L110100 t3 sl (.s (.int .i64 l.length)) (.s (.int .i64 i)) h n s ∧ n0 ≤ n ∧ GrowN h a t3 (placesM l i) ∧ n0 ≤ a ∧ a ≤ n ∧ (i ≠ 0 → a < n) ∧ Same n0 [] h0 h) →
      LoopK CC none (subC [1, 1, 0, 1, 0, 0] (bodyOf Go.Proofs.Tryz.f35)) s Q := by
  refine loopH CCok _ ?_
  rintro m s ⟨i, h, n, t3, a, hm, hi, hs', hn, hG, ha0, han, ha, hsame⟩ hlt
  obtain ⟨g, rfl⟩ := hs'
  rw [F35_b110100]
  replace hlt : ∀ b o, h.get b = some o → b < n := hlt
  have hs1 := hs.of (hsame b hb (by simp))
  by_cases hi' : i < l.length
  · have e3 : wrapF .i64 ((i : Int) + 1) = ((i + 1 : Nat) : Int) := by rw [wrapF_i64 (by omega) (by omega)]; rfl
    obtain ⟨p, A, es, p1, p2, p3, p4⟩ := hs1.ix hi'
    simp [hi', p1, p2, p3, p4, ble_dec, Insn.l]
    rw [storeCells_lst (by rw [Tree.get_set, if_pos rfl]) (by simp)]
    simp
    obtain ⟨h1, hh1⟩ : ∃ h1, h1 = (h.set n (.cells (.lst [.s (.int .i64 0), .s (.int .i64 0), .s (.int .i64 0), .s (.int .i64 0), .s (.int .i64 0)]) 5)).set n (.cells (.lst [.s (.int .i64 l[i].op), .s (.int .i64 l[i].dst), .s (.int .i64 l[i].src), .s (.int .i64 l[i].off), .s (.int .i64 l[i].imm)]) 5) := ⟨_, rfl⟩
    rw [← hh1]
    have hx1 : h1.get n = some (.cells (.lst l[i].l) 5) := by rw [hh1, Tree.get_set, if_pos rfl]; rfl
    have old1 : ∀ b, b < n → h1.get b = h.get b := fun b hb => by rw [hh1, Tree.get_set, if_neg (by omega), Tree.get_set, if_neg (by omega)]
    have hpl := placesM_length (l := l) hi
    have hpb := slotM_bound l hi
    obtain ⟨a2, b1, b2, ha2, hG'⟩ : ∃ a2, n0 ≤ a2 ∧ a2 ≤ n + 1 ∧ a2 ≠ n ∧ GrowN (h1.set (n + 1) (.cells (.lst [.s (.int .i64 i)]) 1)) a2 t3 (placesM l i) := by
      rcases hG with H | ⟨o, c, op, A, k1, k2, k3, k4⟩
      · exact ⟨n + 1, by omega, by omega, by omega, .inl H⟩
      · have := hlt _ _ k3
        exact ⟨a, ha0, by omega, by omega, .inr ⟨o, c, op, A, k1, k2, by rw [Tree.get_set, if_neg (by omega), old1 a (by omega)]; exact k3, k4⟩⟩
    refine grow_ok (m := 1) (new := intsV [(i : Int)]) (by omega) hG' (.row (A := intsV [(i : Int)]) (es := 1) (by simp [cellsAt, Tree.get_set, intsV]) (by simp [intsV]) (by simp [intsV])) (by omega) (by rw [hpl]; omega) ?_
    intro v' a' h2 n2 ha' han' hn2 hG2 hs2
    have hx2 : h2.get n = some (.cells (.lst l[i].l) 5) := by rw [hs2 n (by omega) (by omega), Tree.get_set, if_neg (by omega), hx1]
    simp [cellsAt, hx2, Insn.l]
    have hsz := size_ok l[i] h2 n2
    simp only [Insn.l] at hsz
    refine CallK.monoN ?_ hsz
    rintro v h3 n3 ⟨rfl, hs3⟩ hn3
    have szp := sizeM_pos l[i]
    have hG3 : GrowN h3 a' v' (placesM l i ++ [(i : Int)]) := by
      have : GrowN h2 a' v' (placesM l i ++ [(i : Int)]) := by simpa [GrowN, intsV] using hG2
      exact this.of (hs3 a' (by omega) (by simp))
    have sm3 : Same n0 [] h0 h3 := fun b' hb' _ => by
      rw [hs3 b' (by omega) (by simp), hs2 b' (by omega) (by omega), Tree.get_set, if_neg (by omega), old1 b' (by omega), hsame b' hb' (by simp)]
    have hsucc := slotM_succ hi'
    refine placesIn_loop (l := l) (L := placesM l i ++ [(i : Int)]) (N := sizeM l[i]) szp (by simp [hpl]; omega) (n0 := n0) (h0 := h0) ?_ _ _ ⟨sizeM l[i], h3, n3, v', a', rfl, szp.1, Nat.le_refl _, F35_L110100110011100_of, by omega, by rw [Nat.sub_self]; simpa using hG3, by omega, by omega, sm3⟩
    intro t3' t6 a4 h4 n4 s hs4 hn4 hG4 ha4 ha4' hsm4
    obtain ⟨g', rfl⟩ := hs4
    rw [F35_r110100110011100_2]
    simp
    refine ⟨l.length - (i + 1), h4, by omega, fun hok b o hb => ⟨o, hb, hok b o hb⟩, i + 1, rfl, by omega, h4, n4, t3', by rw [e3]; exact F35_L110100_of, by omega, a4, ?_, by omega, by omega, by omega, hsm4⟩
    rw [placesM, show slotM l (i + 1) - slotM l i - 1 = sizeM l[i] - 1 by omega]
    simpa using hG4
  · have : i = l.length := by omega
    subst this
    simp [roundQ]
    exact hQ t3 _ a h n _ F35_L110100_of hn hG ha0 (fun h => ha (by simpa using h)) hsame
theorem places_ok {b : Nat} {sl : V} {l : List Insn} (hl : l.length ≤ 1000) {h : Heap} {n : Nat} (hb : b < n) (hs : InsnsAt h b sl l) :
    CallK CC 35 [sl] h n fun v h' n' => (∃ a, n ≤ a ∧ (l ≠ [] → a < n') ∧ GrowN h' a v (placesM l l.length)) ∧ Same n [] h h' := by
  refine F35_call fun hlt => ?_
  rw [F35_eq]
  simp [hs.len]
  refine places_loop hl (n0 := n) (h0 := h) hb hs ?_ _ _ ⟨0, h, n, _, n, rfl, by omega, F35_L110100_of, by omega, GrowAt.nil _ _ _, by omega, by omega, by omega, Same.refl _ _ _⟩
  intro t3 t9 a h' n' s hs hn hG ha ha' hsame
  obtain ⟨g, rfl⟩ := hs
  rw [F35_r110100_0]
  exact ⟨⟨a, ha, by simpa using ha', hG⟩, hsame⟩

def OkL (l : List Insn) : Prop := ∀ x ∈ l, checkM x = 0
theorem toM_range {l : List Insn} {i : Nat} {x : Insn} {v : Int} (h : toM l i x = some v) : -1 ≤ v ∧ v ≤ l.length := by
  unfold toM at h
  split at h
  · cases hf : findM l (slotM l (i + 1) + x.off) l.length with
    | none => rw [hf] at h; cases h
    | some k =>
      rw [hf] at h
      have := ((findM_some (l := l) (Nat.le_refl _)).1 hf).1
      have h' : (k : Int) = v := by simpa using h
      omega
  · cases h; omega
theorem tosM_length {l : List Insn} : ∀ {i : Nat} {t : List Int}, tosM l i = some t → t.length = i
  | 0, t, h => by cases h; rfl
  | i + 1, t, h => by
    rw [tosM] at h
    obtain ⟨t', h1, h⟩ := of_bind h
    obtain ⟨x, h2, h⟩ := of_bind h
    cases h
    simp [tosM_length h1]

theorem targets_loop {b ap : Nat} {sl t4 : V} {l : List Insn} (hl : l.length ≤ 256) (hok : OkL l) {Q : X → St → Prop} {n0 : Nat} {h0 : Heap} (hb : b < n0) (hap : ap < n0) (hs : InsnsAt h0 b sl l) (hat : IntsAt h0 ap t4 (placesM l l.length))
    (hQ0 : ∀ t5 t6 t27 a t h n s, F18_L111110100 sl t4 t5 t6 sl (.s (.int .i64 l.length)) t27 h n s → tosM l l.length = some t → n0 ≤ n → GrowN h a t5 t → n0 ≤ a → a < n → Same n0 [] h0 h → Q (.exit 1) s)
    (hQ1 : ∀ h n (L : List V), tosM l l.length = none → Same n0 [] h0 h → L[2]? = some (.s (.slice none 0 0)) → L[3]? = some (.s (.int .i64 7)) → Q .ret ⟨mkTm L, h, n, []⟩) :
    ∀ m s, (∃ (i : Nat) (h : Heap) (n : Nat) (t5 : V) (a : Nat) (t : List Int), m = l.length - i ∧ i ≤ l.length ∧ F18_L111110100 sl t4 t5 (.s (.int .i64 (slotM l i))) sl (.s (.int .i64 l.length)) (.s (.int .i64 i)) h n s ∧ n0 ≤ n ∧ tosM l i = some t ∧ GrowN h a t5 t ∧ n0 ≤ a ∧ a < n ∧ Same n0 [] h0 h) →
      LoopK CC none (subC [1, 1, 1, 1, 1, 0, 1, 0, 0] (bodyOf Go.Proofs.Tryz.f18)) s Q := by
  refine loopH CCok _ ?_
  rintro m s ⟨i, h, n, t5, a, t, hm, hi, hs', hn, ht, hG, ha0, han, hsame⟩ hlt
  obtain ⟨g, rfl⟩ := hs'
  rw [F18_b111110100]
  replace hlt : ∀ b o, h.get b = some o → b < n := hlt
  have hs1 := hs.of (hsame b hb (by simp))
  by_cases hi' : i < l.length
  · have e3 : wrapF .i64 ((i : Int) + 1) = ((i + 1 : Nat) : Int) := by rw [wrapF_i64 (by omega) (by omega)]; rfl
    obtain ⟨p, A, es, p1, p2, p3, p4⟩ := hs1.ix hi'
    have hxo := checkM_off (hok l[i] (List.getElem_mem hi'))
    have hsucc := slotM_succ hi'
    have hsb := slotM_bound l (show i + 1 ≤ l.length from hi')
    have hsz := sizeM_pos l[i]
    have hstep : tosM l (i + 1) = (toM l i l[i]).bind fun x => some (t ++ [x]) := by
      rw [tosM, ht, Option.bind_some, List.getElem?_eq_getElem hi', Option.bind_some]
    have htl := tosM_length ht
    simp [hi', p1, p2, p3, p4, ble_dec, Insn.l]
    rw [storeCells_lst (by rw [Tree.get_set, if_pos rfl]) (by simp)]
    simp [Tree.get_set]
    obtain ⟨h1, hh1⟩ : ∃ h1, h1 = (h.set n (.cells (.lst [.s (.int .i64 0), .s (.int .i64 0), .s (.int .i64 0), .s (.int .i64 0), .s (.int .i64 0)]) 5)).set n (.cells (.lst [.s (.int .i64 l[i].op), .s (.int .i64 l[i].dst), .s (.int .i64 l[i].src), .s (.int .i64 l[i].off), .s (.int .i64 l[i].imm)]) 5) := ⟨_, rfl⟩
    rw [← hh1]
    have hx1 : h1.get n = some (.cells (.lst l[i].l) 5) := by rw [hh1, Tree.get_set, if_pos rfl]; rfl
    have old1 : ∀ b, b < n → h1.get b = h.get b := fun b hb => by rw [hh1, Tree.get_set, if_neg (by omega), Tree.get_set, if_neg (by omega)]
    have q1 := size_ok l[i] h1 (n + 1)
    simp only [Insn.l] at q1
    simp [cellsAt, hx1, Insn.l]
    refine CallK.monoN ?_ q1
    rintro v h2 n2 ⟨rfl, hs2⟩ hn2
    have hx2 : h2.get n = some (.cells (.lst l[i].l) 5) := by rw [hs2 n (by omega) (by simp), hx1]
    have q2 := jumps_ok l[i] ⟨hxo.2.2.1, hxo.2.2.2⟩ h2 n2
    simp only [Insn.l] at q2
    have e4 : wrapF .i64 ((slotM l i : Int) + (sizeM l[i] : Int)) = (slotM l (i + 1) : Nat) := by rw [wrapF_i64 (by omega) (by omega)]; omega
    simp [cellsAt, hx2, Insn.l, e4]
    refine CallK.monoN ?_ q2
    rintro v h3 n3 ⟨rfl, hs3⟩ hn3
    have hx3 : h3.get n = some (.cells (.lst l[i].l) 5) := by rw [hs3 n (by omega) (by simp), hx2]
    have sm3 : ∀ b, b < n → h3.get b = h.get b := fun b hb => by rw [hs3 b (by omega) (by simp), hs2 b (by omega) (by simp), old1 b hb]
    have hat3 : IntsAt h3 ap t4 (placesM l l.length) := hat.of (by rw [sm3 ap (by omega), hsame ap hap (by simp)])
    have hpl := placesM_length (l := l) (Nat.le_refl _)
    have hG3 := hG.of (sm3 a han)
    have push : ∀ (v : Int) (K : V → Heap → Nat → Prop), (∀ v' h' n' a', n3 ≤ n' → n0 ≤ a' → a' < n' → GrowN h' a' v' (t ++ [v]) → (∀ b, b < n0 → h'.get b = h0.get b) → K v' h' n') → appendWK 1 8 (h3.set n3 (.cells (.lst [.s (.int .i64 v)]) 1)) (n3 + 1) t5 (.slice n3 0 1 1 false) K := by
      intro v K hK
      have hG' : GrowN (h3.set n3 (.cells (.lst [.s (.int .i64 v)]) 1)) a t5 t := hG3.of (by rw [Tree.get_set, if_neg (by omega)])
      refine grow_ok (m := 1) (new := intsV [v]) (by omega) hG' (.row (A := intsV [v]) (es := 1) (by simp [cellsAt, Tree.get_set, intsV]) (by simp [intsV]) (by simp [intsV])) (by omega) (by rw [htl]; omega) ?_
      intro v' a' h4 n4 ha' han' hn4 hG4 hs4
      refine hK v' h4 n4 a' (by omega) (by omega) han' (by simpa [GrowN, intsV] using hG4) ?_
      intro b' hb'
      rw [hs4 b' (by omega) (by omega), Tree.get_set, if_neg (by omega), sm3 b' (by omega), hsame b' hb' (by simp)]
    have hnone : toM l i l[i] = none → tosM l l.length = none := fun hto => tosM_none (by rw [hstep, hto]; rfl) _ (by omega)
    cases hj : jumpsM l[i].op with
    | false =>
      have hto : toM l i l[i] = some (-1) := by unfold toM; rw [hj]; rfl
      simp
      refine push (-1) _ ?_
      intro v' h' n' a' hn' ha' han' hG' ho
      exact ⟨l.length - (i + 1), h', by omega, fun hok b o hb => ⟨o, hb, hok b o hb⟩, i + 1, rfl, by omega, h', n', v', by rw [e3]; exact F18_L111110100_of, by omega, a', t ++ [-1], by rw [hstep, hto]; rfl, hG', by omega, by omega, fun b hb _ => ho b hb⟩
    | true =>
      obtain ⟨S, hS⟩ : ∃ S : Int, S = (slotM l (i + 1) : Int) + l[i].off := ⟨_, rfl⟩
      have eS : wrapF .i64 ((slotM l (i + 1) : Int) + l[i].off) = S := by rw [hS]; exact wrapF_i64 (by omega) (by omega)
      have hto : toM l i l[i] = (findM l S l.length).map fun k => (k : Int) := by unfold toM; rw [hj, hS]; rfl
      have ret : findM l S l.length = none → tosM l l.length = none := fun hf => hnone (by rw [hto, hf]; rfl)
      have smh : Same n0 [] h0 h3 := fun b hb _ => by rw [sm3 b (by omega), hsame b hb (by simp)]
      by_cases s0 : 0 ≤ S
      · by_cases s1 : S < (slotM l l.length : Int)
        · obtain ⟨J, hJ⟩ : ∃ J : Nat, S = J := ⟨S.toNat, by omega⟩
          rw [hJ] at hto ret eS s1
          have hJl : J < (placesM l l.length).length := by omega
          obtain ⟨q, r1, r2⟩ := hat3.ix hJl
          have hv := placesM_get (l := l) (n := l.length) (s := J) (v := (placesM l l.length)[J]) (Nat.le_refl _) (List.getElem?_eq_getElem hJl)
          cases hf : findM l J l.length with
          | none =>
            rw [hf] at hv
            have r3 : (cellsAt h3 ap).bind (fun c => c.1.get q) = some (.s (.int .i64 (-1))) := by rw [r2, hv]
            simp [cellsAt, hx3, Insn.l, eS, hat3.len, hpl, s1, r1]
            simp only [cellsAt] at r3
            simp [r3, roundQ]
            exact hQ1 _ _ _ (ret hf) smh rfl rfl
          | some k =>
            rw [hf] at hv
            have r3 : (cellsAt h3 ap).bind (fun c => c.1.get q) = some (.s (.int .i64 (k : Int))) := by rw [r2, hv]
            have k0 : ¬ (k : Int) < 0 := by omega
            simp [cellsAt, hx3, Insn.l, eS, hat3.len, hpl, s1, r1]
            simp only [cellsAt] at r3
            simp [r3]
            rw [if_neg k0]
            refine push (k : Int) _ ?_
            intro v' h' n' a' hn' ha' han' hG' ho
            exact ⟨l.length - (i + 1), h', by omega, fun hok b o hb => ⟨o, hb, hok b o hb⟩, i + 1, rfl, by omega, h', n', v', by rw [e3]; exact F18_L111110100_of, by omega, a', t ++ [(k : Int)], by rw [hstep, hto, hf]; rfl, hG', by omega, by omega, fun b hb _ => ho b hb⟩
        · have hf : findM l S l.length = none := findM_none.2 fun k hk => by
            have := slotM_lt (l := l) (Nat.le_refl _) hk
            omega
          simp [cellsAt, hx3, Insn.l, eS, s0, hat3.len, hpl, s1, roundQ]
          exact hQ1 _ _ _ (ret hf) smh rfl rfl
      · have hf : findM l S l.length = none := findM_none.2 fun k hk => by omega
        simp [cellsAt, hx3, Insn.l, eS, s0, roundQ]
        exact hQ1 _ _ _ (ret hf) smh rfl rfl
  · have : i = l.length := by omega
    subst this
    simp [roundQ]
    exact hQ0 t5 _ _ a t h n _ F18_L111110100_of ht hn hG ha0 han hsame
def TargetsP (l : List Insn) (n : Nat) (v : V) (h' : Heap) (n' : Nat) : Prop := ∃ sl a, v = .tup [sl, .s (.int .i64 (targetsM l).2)] ∧ n ≤ a ∧ ((targetsM l).1 ≠ [] → a < n') ∧ IntsAt h' a sl (targetsM l).1
theorem TargetsP.nil {l : List Insn} {e : Int} (he : targetsM l = ([], e)) (n : Nat) (h' : Heap) (n' : Nat) : TargetsP l n (.tup [.s (.slice none 0 0), .s (.int .i64 e)]) h' n' :=
  ⟨_, n, by rw [he], Nat.le_refl _, fun h => by rw [he] at h; exact absurd rfl h, by rw [he]; exact .inl ⟨rfl, rfl, rfl⟩⟩
theorem targets_ok {b : Nat} {sl : V} {l : List Insn} (hl : l.length ≤ 2000) (hok : OkL l) {h : Heap} {n : Nat} (hb : b < n) (hs : InsnsAt h b sl l) :
    CallK CC 18 [sl] h n fun v h' n' => TargetsP l n v h' n' ∧ Same n [] h h' := by
  refine F18_call fun hlt => ?_
  rw [F18_eq]
  by_cases c0 : l.length = 0
  · have c0' : (l.length : Int) = 0 := by omega
    simp only [hs.len, oK_some]
    simp [c0']
    exact ⟨.nil (by unfold targetsM; rw [if_pos c0]) _ _ _, Same.refl _ _ _⟩
  · have c0' : ¬ (l.length : Int) = 0 := by omega
    by_cases c1 : 256 < l.length
    · have c1' : (256 : Int) < l.length := by omega
      simp [hs.len, c0', c1', c0]
      exact ⟨.nil (by unfold targetsM; rw [if_neg c0, if_pos c1]) _ _ _, Same.refl _ _ _⟩
    · have c1' : ¬ (256 : Int) < l.length := by omega
      simp [hs.len, c1', c1, c0]
      refine CallK.monoN ?_ (places_ok (by omega) hb hs)
      rintro t4 h1 n1 ⟨⟨ap, hap, hap', hG⟩, hs1⟩ hn1
      have hne : l ≠ [] := fun e => c0 (by rw [e]; rfl)
      have hap' := hap' hne
      have hI1 := hs.of (hs1 b hb (by simp))
      have b1 : l.length ≤ 281474976710656 ∧ 8 * l.length ≤ 281474976710656 ∧ l.length < 9223372036854775808 := by omega
      simp [hI1.len, asNat_int, ble_dec, blt_dec, b1, -List.reduceReplicate]
      have hlast : ∃ x, l.getLast?.getD ⟨0, 0, 0, 0, 0⟩ = x ∧ l[l.length - 1]'(by omega) = x := ⟨_, by rw [List.getLast?_eq_getElem?, List.getElem?_eq_getElem (by omega)]; rfl, rfl⟩
      obtain ⟨x, hx1, hx2⟩ := hlast
      have hxo := checkM_off (hok x (by rw [← hx2]; exact List.getElem_mem _))
      have hTM : targetsM l = match tosM l l.length with | none => ([], 7) | some t => if endsM x.op then (t, 0) else ([], 8) := by
        unfold targetsM; rw [if_neg c0, if_neg c1, hx1]; cases tosM l l.length <;> rfl
      have sl0 : ((slotM l 0 : Nat) : Int) = 0 := by simp [slotM]
      have sm1 : ∀ r, Same n1 [] h1 (h1.set n1 r) := fun r => Same.new _ _ _ _
      refine targets_loop (b := b) (ap := ap) (by omega) hok (n0 := n1) (h0 := h1) (by omega) hap' hI1 hG.at ?_ ?_ _ _ ⟨0, _, n1 + 1, _, n1, [], rfl, by omega, by rw [sl0]; exact F18_L111110100_of, by omega, rfl, .inr ⟨0, l.length, false, List.replicate l.length (.s (.int .i64 0)), rfl, Nat.zero_le _, by rw [Tree.get_set, if_pos rfl], by simp, by simp, by simp [intsV]⟩, Nat.le_refl _, by omega, sm1 _⟩
      · intro t5 t6 t27 a t h2 n2 s hs2 ht hn2 hG2 ha2 ha2' hsm2
        obtain ⟨g, rfl⟩ := hs2
        rw [F18_r111110100_1]
        have hI2 := hI1.of (hsm2 b (by omega) (by simp))
        obtain ⟨J, hJ⟩ : ∃ J : Nat, J = l.length - 1 := ⟨_, rfl⟩
        have eJ : wrapF .i64 ((l.length : Int) - 1) = (J : Int) := by rw [wrapF_i64 (by omega) (by omega)]; omega
        have hJl : J < l.length := by omega
        have hJx : l[J] = x := by rw [← hx2]; simp [hJ]
        obtain ⟨p, A, es, p1, p2, p3, p4⟩ := hI2.ix hJl
        rw [hJx] at p3
        simp [hI2.len, eJ, p1, p2, p3, p4, ble_dec, Insn.l]
        rw [storeCells_lst (by rw [Tree.get_set, if_pos rfl]) (by simp)]
        simp [Tree.get_set]
        obtain ⟨h3, hh3⟩ : ∃ h3, h3 = (h2.set n2 (.cells (.lst [.s (.int .i64 0), .s (.int .i64 0), .s (.int .i64 0), .s (.int .i64 0), .s (.int .i64 0)]) 5)).set n2 (.cells (.lst [.s (.int .i64 x.op), .s (.int .i64 x.dst), .s (.int .i64 x.src), .s (.int .i64 x.off), .s (.int .i64 x.imm)]) 5) := ⟨_, rfl⟩
        rw [← hh3]
        have hx3 : h3.get n2 = some (.cells (.lst x.l) 5) := by rw [hh3, Tree.get_set, if_pos rfl]; rfl
        have old3 : ∀ b, b < n2 → h3.get b = h2.get b := fun b hb => by rw [hh3, Tree.get_set, if_neg (by omega), Tree.get_set, if_neg (by omega)]
        have q1 := is_ok x hxo.2.2 9 h3 (n2 + 1)
        simp only [Insn.l] at q1
        have smz : ∀ h4, (∀ b, b < n2 → h4.get b = h3.get b) → Same n [] h h4 := fun h4 e b hb _ => by rw [e b (by omega), old3 b (by omega), hsm2 b (by omega) (by simp), hs1 b hb (by simp)]
        rw [ht] at hTM
        simp only at hTM
        have yes : endsM x.op = true → ∀ h4 n4, (∀ b, b < n2 → h4.get b = h3.get b) → n2 ≤ n4 → TargetsP l n (.tup [t5, .s (.int .i64 0)]) h4 n4 := fun e h4 n4 hh hn4 => by
          rw [if_pos e] at hTM
          exact ⟨t5, a, by rw [hTM], by omega, fun _ => by omega, by rw [hTM]; exact hG2.at.of (by rw [hh a ha2', old3 a ha2'])⟩
        have no : endsM x.op = false → ∀ h4 n4, TargetsP l n (.tup [.s (.slice none 0 0), .s (.int .i64 8)]) h4 n4 := fun e h4 n4 => by
          rw [e] at hTM
          exact .nil hTM _ _ _
        simp [cellsAt, hx3, Insn.l]
        refine CallK.monoN ?_ q1
        rintro v h4 n4 ⟨rfl, hs4⟩ hn4
        have hx4 : h4.get n2 = some (.cells (.lst x.l) 5) := by rw [hs4 n2 (by omega) (by simp), hx3]
        by_cases d9 : x.op % 8 = 5 ∧ x.op / 16 = 9
        · rw [decide_eq_true d9]
          simp [hG2.at.vcl]
          exact ⟨yes (by simp [endsM, d9.1, d9.2]) _ _ (fun b hb => hs4 b (by omega) (by simp)) (by omega), smz _ (fun b hb => hs4 b (by omega) (by simp))⟩
        · rw [decide_eq_false d9]
          have q2 := is_ok x hxo.2.2 0 h4 n4
          simp only [Insn.l] at q2
          simp [cellsAt, hx4, Insn.l]
          refine CallK.monoN ?_ q2
          rintro v h5 n5 ⟨rfl, hs5⟩ hn5
          have old5 : ∀ b, b < n2 → h5.get b = h3.get b := fun b hb => by rw [hs5 b (by omega) (by simp), hs4 b (by omega) (by simp)]
          by_cases d0 : x.op % 8 = 5 ∧ x.op / 16 = 0
          · rw [decide_eq_true d0]
            simp [hG2.at.vcl]
            exact ⟨yes (by simp [endsM, d0.1, d0.2]) _ _ old5 (by omega), smz _ old5⟩
          · rw [decide_eq_false d0]
            simp
            have e : endsM x.op = false := by
              unfold endsM
              by_cases e8 : x.op % 8 = 5
              · have e9 : ¬ x.op / 16 = 9 := fun h => d9 ⟨e8, h⟩
                have e0 : ¬ x.op / 16 = 0 := fun h => d0 ⟨e8, h⟩
                rw [beq_eq_false_iff_ne.2 e9, beq_eq_false_iff_ne.2 e0]
                simp
              · rw [beq_eq_false_iff_ne.2 e8]; rfl
            exact ⟨no e _ _, smz _ old5⟩
      · intro h2 n2 L ht hsm2 k2 k3
        simp [resume, retW, dropDefs, k2, k3]
        rw [ht] at hTM
        exact ⟨.nil hTM _ _ _, fun b hb _ => by rw [hsm2 b (by omega) (by simp), hs1 b hb (by simp)]⟩
end Go.Ev
