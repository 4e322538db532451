/- Instructions: which may be, and where they jump, in plain terms. -/
import Derived.Test.YthmhagelflolfaaGreatEvKG
namespace Go.Ev

structure Insn where
  op : Int
  dst : Int
  src : Int
  off : Int
  imm : Int
deriving DecidableEq
def Insn.l (x : Insn) : List V := [.s (.int .i64 x.op), .s (.int .i64 x.dst), .s (.int .i64 x.src), .s (.int .i64 x.off), .s (.int .i64 x.imm)]
@[simp] theorem Insn.l_length (x : Insn) : x.l.length = 5 := rfl
def I64 (x : Int) : Prop := -9223372036854775808 ≤ x ∧ x ≤ 9223372036854775807
def Insn.Ok (x : Insn) : Prop := I64 x.op ∧ I64 x.dst ∧ I64 x.src ∧ I64 x.off ∧ I64 x.imm
theorem Insn.l_ints (x : Insn) : ∀ y ∈ x.l, IntCell y := by
  intro y hy
  simp [Insn.l] at hy
  rcases hy with rfl | rfl | rfl | rfl | rfl <;> exact ⟨_, _, rfl⟩

/-- What an operation uses. -/
structure Use where
  dst : Bool
  src : Bool
  off : Bool
  imm : Bool
  writes : Bool
deriving DecidableEq
def Use.bits (u : Use) : Nat := (if u.dst then 1 else 0) + (if u.src then 2 else 0) + (if u.off then 4 else 0) + (if u.imm then 8 else 0) + (if u.writes then 16 else 0)
def useCells (e : Int × Use) : List Value := [.int .i64 e.1, .bool e.2.dst, .bool e.2.src, .bool e.2.off, .bool e.2.imm, .bool e.2.writes]

def tableM : List (Int × Use) :=
  [(24, ⟨true, true, false, true, true⟩), (5, ⟨false, false, true, false, false⟩), (133, ⟨false, false, false, true, false⟩), (149, ⟨false, false, false, false, false⟩)] ++
  ([0, 1, 2, 3].flatMap fun k => let at' : Int := 96 + 8 * k; [(1 + at', ⟨true, true, true, false, true⟩), (2 + at', ⟨true, false, true, true, false⟩), (3 + at', ⟨true, true, true, false, false⟩)]) ++
  ([0, 1, 2, 3, 4, 5, 6, 7, 8, 9, 10, 11, 12].flatMap fun (o : Int) => [4, 7].flatMap fun (c : Int) =>
    if o = 8 then [(16 * o + c, ⟨true, false, false, false, true⟩)] else [(16 * o + c, ⟨true, false, false, true, true⟩), (16 * o + c + 8, ⟨true, true, false, false, true⟩)]) ++
  [(212, ⟨true, false, false, true, true⟩), (220, ⟨true, false, false, true, true⟩)] ++
  ([1, 2, 3, 4, 5, 6, 7, 10, 11, 12, 13].flatMap fun (o : Int) => [5, 6].flatMap fun (c : Int) => [(16 * o + c, ⟨true, false, true, true, false⟩), (16 * o + c + 8, ⟨true, true, true, false, false⟩)])
def useOf (op : Int) : Option Use := (tableM.find? fun e => e.1 == op).map (·.2)
theorem useOf_range {op : Int} {u : Use} (h : useOf op = some u) : 0 ≤ op ∧ op < 256 := by
  unfold useOf at h
  cases hf : tableM.find? (fun e => e.1 == op) with
  | none => rw [hf] at h; cases h
  | some e =>
    have h1 := List.find?_some hf
    have h2 := List.mem_of_find?_eq_some hf
    have h3 : ∀ e ∈ tableM, 0 ≤ e.1 ∧ e.1 < 256 := by decide
    have := h3 e h2
    simp at h1
    omega

/-- What is wrong with an instruction. -/
def checkM (x : Insn) : Int :=
  match useOf x.op with
  | none => 4
  | some u =>
    if x.dst < 0 ∨ 10 < x.dst ∨ x.src < 0 ∨ 10 < x.src ∨ (u.writes = true ∧ x.dst = 10) then 5
    else if x.off < -32768 ∨ 32767 < x.off ∨ (x.op ≠ 24 ∧ (x.imm < -2147483648 ∨ 2147483647 < x.imm)) then 15
    else if (u.dst = false ∧ x.dst ≠ 0) ∨ (u.src = false ∧ x.src ≠ 0) ∨ (u.off = false ∧ x.off ≠ 0) ∨ (u.imm = false ∧ x.imm ≠ 0) then 6
    else if (x.op = 212 ∨ x.op = 220) ∧ x.imm ≠ 16 ∧ x.imm ≠ 32 ∧ x.imm ≠ 64 then 6
    else if x.op = 24 ∧ (1 < x.src ∨ (x.src = 1 ∧ (x.imm < 1 ∨ 8 < x.imm))) then 6
    else 0
theorem checkM_off {x : Insn} (h : checkM x = 0) : -32768 ≤ x.off ∧ x.off ≤ 32767 ∧ 0 ≤ x.op ∧ x.op < 256 := by
  unfold checkM at h
  split at h
  · cases h
  · rename_i u hu
    have := useOf_range hu
    repeat' split at h
    all_goals first | cases h | skip
    omega

/-! ### Where it is jumped -/
def sizeM (x : Insn) : Nat := if x.op = 24 then 2 else 1
theorem sizeM_pos (x : Insn) : 1 ≤ sizeM x ∧ sizeM x ≤ 2 := by unfold sizeM; split <;> omega
def slotM : List Insn → Nat → Nat
  | _, 0 => 0
  | [], _ + 1 => 0
  | x :: l, i + 1 => sizeM x + slotM l i
theorem slotM_succ : ∀ {l : List Insn} {i : Nat} (h : i < l.length), slotM l (i + 1) = slotM l i + sizeM l[i]
  | x :: l, 0, _ => by simp [slotM]
  | x :: l, i + 1, h => by
    simp at h
    rw [slotM, slotM_succ (l := l) h, slotM]
    simp; omega
theorem slotM_lt {l : List Insn} {i k : Nat} (hk : k ≤ l.length) (h : i < k) : slotM l i < slotM l k := by
  induction k with
  | zero => omega
  | succ k ih =>
    rw [slotM_succ (by omega)]
    have := (sizeM_pos l[k]).1
    by_cases e : i = k
    · subst e; omega
    · have := ih (by omega) (by omega)
      omega
theorem slotM_le {l : List Insn} {i : Nat} (hi : i ≤ l.length) : slotM l i ≤ 2 * i := by
  induction i with
  | zero => simp [slotM]
  | succ i ih =>
    rw [slotM_succ (by omega)]
    have := (sizeM_pos l[i]).2
    have := ih (by omega)
    omega
def jumpsM (op : Int) : Bool := (op % 8 == 5 || op % 8 == 6) && !(op / 16 == 8) && !(op / 16 == 9)
/-- The first of the first n instructions that begins at a slot. -/
def findM (l : List Insn) (s : Int) (n : Nat) : Option Nat := (List.range n).find? fun k => (slotM l k : Int) == s
theorem findM_none {l : List Insn} {s : Int} {n : Nat} : findM l s n = none ↔ ∀ k, k < n → (slotM l k : Int) ≠ s := by
  unfold findM
  rw [List.find?_eq_none]
  simp
theorem findM_some {l : List Insn} {s : Int} {n k : Nat} (hn : n ≤ l.length) : findM l s n = some k ↔ k < n ∧ (slotM l k : Int) = s := by
  constructor
  · intro h
    exact ⟨List.mem_range.1 (List.mem_of_find?_eq_some h), by simpa using List.find?_some h⟩
  · rintro ⟨h1, h2⟩
    cases hf : findM l s n with
    | none => exact absurd h2 (findM_none.1 hf k h1)
    | some j =>
      have hj1 : j < n := List.mem_range.1 (List.mem_of_find?_eq_some hf)
      have hj2 : (slotM l j : Int) = s := by simpa using List.find?_some hf
      rcases Nat.lt_trichotomy j k with h | h | h
      · have := slotM_lt (l := l) (by omega) h; omega
      · rw [h]
      · have := slotM_lt (l := l) (by omega) h; omega
/-- Which instruction begins at each slot. -/
def placesM (l : List Insn) : Nat → List Int
  | 0 => []
  | i + 1 => placesM l i ++ ((i : Int) :: List.replicate (slotM l (i + 1) - slotM l i - 1) (-1))
theorem placesM_length {l : List Insn} : ∀ {i : Nat}, i ≤ l.length → (placesM l i).length = slotM l i
  | 0, _ => by simp [placesM, slotM]
  | i + 1, h => by
    have h1 := slotM_lt (l := l) (i := i) (k := i + 1) h (by omega)
    simp [placesM, placesM_length (l := l) (i := i) (by omega)]
    omega
theorem placesM_get {l : List Insn} : ∀ {n s : Nat} {v : Int}, n ≤ l.length → (placesM l n)[s]? = some v → v = (match findM l s n with | some k => (k : Int) | none => -1)
  | 0, s, v, _, h => by simp [placesM] at h
  | n + 1, s, v, hn, h => by
    have hlen := placesM_length (l := l) (i := n) (by omega)
    have h1 := slotM_lt (l := l) (i := n) (k := n + 1) hn (by omega)
    rw [placesM] at h
    by_cases hs : s < slotM l n
    · rw [List.getElem?_append_left (by omega)] at h
      have ih := placesM_get (l := l) (n := n) (by omega) h
      rw [ih]
      cases hf : findM l s n with
      | some k =>
        have := (findM_some (l := l) (by omega)).1 hf
        rw [(findM_some (l := l) (n := n + 1) hn).2 ⟨by omega, this.2⟩]
      | none =>
        have hnn : findM l s (n + 1) = none := findM_none.2 fun k hk => by
          by_cases e : k = n
          · subst e; omega
          · exact findM_none.1 hf k (by omega)
        rw [hnn]
    · rw [List.getElem?_append_right (by omega), hlen] at h
      by_cases e : s = slotM l n
      · subst e
        simp at h
        rw [(findM_some (l := l) (n := n + 1) hn).2 ⟨by omega, rfl⟩]
        exact h.symm
      · obtain ⟨d, hd⟩ : ∃ d, s - slotM l n = d + 1 := ⟨s - slotM l n - 1, by omega⟩
        rw [hd, List.getElem?_cons_succ, List.getElem?_replicate] at h
        split at h
        · cases h
          have hnn : findM l s (n + 1) = none := findM_none.2 fun k hk => by
            intro e2
            have : slotM l k = s := by omega
            by_cases e3 : k = n
            · subst e3; omega
            · have := slotM_lt (l := l) (i := k) (k := n) (by omega) (by omega)
              omega
          rw [hnn]
        · cases h
/-- Where an instruction jumps: -1, where it does not. -/
def toM (l : List Insn) (i : Nat) (x : Insn) : Option Int := if jumpsM x.op then (findM l (slotM l (i + 1) + x.off) l.length).map fun k => (k : Int) else some (-1)
def tosM (l : List Insn) : Nat → Option (List Int)
  | 0 => some []
  | i + 1 => (tosM l i).bind fun t => (l[i]?.bind (toM l i)).bind fun x => some (t ++ [x])
theorem tosM_none {l : List Insn} {i : Nat} (h : tosM l i = none) : ∀ n, i ≤ n → tosM l n = none := by
  intro n hn
  induction n with
  | zero => have : i = 0 := by omega
            subst this; exact h
  | succ n ih =>
    by_cases e : i = n + 1
    · subst e; exact h
    · rw [tosM, ih (by omega)]; rfl
def endsM (op : Int) : Bool := op % 8 == 5 && (op / 16 == 9 || op / 16 == 0)
/-- All of them, or what is wrong. -/
def targetsM (l : List Insn) : List Int × Int :=
  if l.length = 0 then ([], 2) else if 256 < l.length then ([], 9) else
  match tosM l l.length with
  | none => ([], 7)
  | some t => if endsM (l.getLast?.getD ⟨0, 0, 0, 0, 0⟩).op then (t, 0) else ([], 8)
def checksM : List Insn → Int
  | [] => 0
  | x :: l => if checkM x = 0 then checksM l else checkM x
/-! An operation's bits. -/
theorem op_and7 : ∀ n : Nat, n < 256 → bitsI .and .i64 (n : Int) 7 = ((n % 8 : Nat) : Int) := by decide +kernel
theorem op_and8 : ∀ n : Nat, n < 256 → bitsI .and .i64 (n : Int) 8 = (((n / 8 % 2) * 8 : Nat) : Int) := by decide +kernel
theorem op_shr4 : ∀ n : Nat, n < 256 → shrI .i64 (n : Int) 4 = ((n / 16 : Nat) : Int) := by decide +kernel
theorem op_mod8 : ∀ n : Nat, n < 256 → (n : Int).tmod 8 = ((n % 8 : Nat) : Int) := by decide +kernel
theorem op_div16 : ∀ n : Nat, n < 256 → wrapF .i64 ((n : Int).tdiv 16) = ((n / 16 : Nat) : Int) := by decide +kernel
end Go.Ev
