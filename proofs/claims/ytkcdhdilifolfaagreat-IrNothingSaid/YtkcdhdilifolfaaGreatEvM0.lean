/- Rows of cells that things of a kind lie in, one behind the other. -/
import Derived.Test.YtkcdhdilifolfaaGreatEvKC
namespace Go.Ev

/-- Cells written over others. -/
def splice {α : Type} (l : List α) (o : Nat) (new : List α) : List α := l.take o ++ new ++ l.drop (o + new.length)
@[simp] theorem splice_length {α : Type} {l new : List α} {o : Nat} (h : o + new.length ≤ l.length) : (splice l o new).length = l.length := by
  simp [splice]; omega
theorem splice_right {α : Type} (a b new : List α) (o : Nat) : splice (a ++ b) (a.length + o) new = a ++ splice b o new := by
  simp only [splice, List.take_append, List.drop_append]
  have e1 : List.take (a.length + o) a = a := List.take_of_length_le (by omega)
  have e2 : List.drop (a.length + o + new.length) a = [] := List.drop_eq_nil_of_le (by omega)
  rw [e1, e2]
  simp [show a.length + o - a.length = o by omega, show a.length + o + new.length - a.length = o + new.length by omega]
theorem splice_left {α : Type} (a b new : List α) (o : Nat) (h : o + new.length ≤ a.length) : splice (a ++ b) o new = splice a o new ++ b := by
  simp only [splice, List.take_append, List.drop_append]
  have e1 : o - a.length = 0 := by omega
  have e2 : o + new.length - a.length = 0 := by omega
  simp [e1, e2]
theorem splice_all {α : Type} (a new : List α) (h : a.length = new.length) : splice a 0 new = new := by
  simp [splice, ← h]

section
variable {α β : Type} {g : α → List β} {k : Nat}
def flat (g : α → List β) (l : List α) : List β := (l.map g).flatten
@[simp] theorem flat_nil : flat g [] = [] := rfl
@[simp] theorem flat_cons (x : α) (l : List α) : flat g (x :: l) = g x ++ flat g l := rfl
theorem flat_append (l m : List α) : flat g (l ++ m) = flat g l ++ flat g m := by simp [flat]
theorem flat_length : ∀ {l : List α}, (∀ x ∈ l, (g x).length = k) → (flat g l).length = l.length * k
  | [], _ => by simp
  | x :: l, h => by
    rw [flat_cons, List.length_append, h x (by simp), flat_length (fun y hy => h y (by simp [hy]))]
    simp [Nat.add_mul]; omega
theorem flat_drop : ∀ {l : List α} (i : Nat), (∀ x ∈ l, (g x).length = k) → (flat g l).drop (i * k) = flat g (l.drop i)
  | l, 0, _ => by simp
  | [], i + 1, _ => by simp
  | x :: l, i + 1, h => by
    have hx := h x (by simp)
    rw [flat_cons, List.drop_append, List.drop_succ_cons, ← flat_drop i (fun y hy => h y (by simp [hy]))]
    rw [List.drop_eq_nil_of_le (by rw [hx, Nat.add_mul]; omega), hx, show (i + 1) * k - k = i * k by rw [Nat.add_mul]; omega]
    rfl
theorem flat_take : ∀ {l : List α} (i : Nat), (∀ x ∈ l, (g x).length = k) → (flat g l).take (i * k) = flat g (l.take i)
  | l, 0, _ => by simp
  | [], i + 1, _ => by simp
  | x :: l, i + 1, h => by
    have hx := h x (by simp)
    rw [flat_cons, List.take_append, List.take_succ_cons, flat_cons, ← flat_take i (fun y hy => h y (by simp [hy]))]
    rw [List.take_of_length_le (by rw [hx, Nat.add_mul]; omega), hx, show (i + 1) * k - k = i * k by rw [Nat.add_mul]; omega]
/-- A part of the i-th thing. -/
theorem flat_part {l : List α} (h : ∀ x ∈ l, (g x).length = k) {i j m : Nat} (hi : i < l.length) (hj : j + m ≤ k) : ((flat g l).drop (i * k + j)).take m = ((g l[i]).drop j).take m := by
  rw [← List.drop_drop, flat_drop i h, List.drop_eq_getElem_cons hi, flat_cons, List.drop_append, List.take_append]
  have hx := h l[i] (List.getElem_mem hi)
  have e : m - (List.drop j (g l[i])).length = 0 := by simp [hx]; omega
  rw [e]; simp
theorem flat_get {l : List α} (h : ∀ x ∈ l, (g x).length = k) {i j : Nat} (hi : i < l.length) (hj : j < k) : (flat g l)[i * k + j]? = (g l[i])[j]? := by
  have := flat_part h (m := 1) hi (by omega : j + 1 ≤ k)
  have e1 : (((flat g l).drop (i * k + j)).take 1)[0]? = (flat g l)[i * k + j]? := by simp [List.getElem?_take]
  have e2 : (((g l[i]).drop j).take 1)[0]? = (g l[i])[j]? := by simp [List.getElem?_take]
  rw [← e1, ← e2, this]
theorem flat_splice {l : List α} (h : ∀ x ∈ l, (g x).length = k) {i j : Nat} {new : List β} {y : α} (hi : i < l.length) (hj : j + new.length ≤ k) (hy : splice (g l[i]) j new = g y) :
    splice (flat g l) (i * k + j) new = flat g (l.set i y) := by
  have e : l = l.take i ++ l[i] :: l.drop (i + 1) := by rw [List.getElem_cons_drop, List.take_append_drop]
  have hk := h l[i] (List.getElem_mem hi)
  have h1 : (flat g (l.take i)).length = i * k := by rw [flat_length (k := k) (fun x hx => h x (List.mem_of_mem_take hx)), List.length_take, Nat.min_eq_left (by omega)]
  have e2 : flat g l = flat g (l.take i) ++ (g l[i] ++ flat g (l.drop (i + 1))) := by
    conv => lhs; rw [e]
    rw [flat_append, flat_cons]
  rw [e2, ← h1, splice_right, splice_left _ _ _ _ (by omega), hy]
  rw [List.set_eq_take_append_cons_drop, if_pos hi, flat_append, flat_cons]
end

/-! ### Values, slots, frames -/
def i64 (n : Int) : V := .s (.int .i64 n)
def u64 (n : Int) : V := .s (.int .u64 n)
def u8 (n : Int) : V := .s (.int .u8 n)
structure Val where
  kind : Int
  n : Int
  id : Int
deriving DecidableEq
def Val.zero : Val := ⟨0, 0, 0⟩
def Val.l (v : Val) : List V := [.s (.int .i64 v.kind), .s (.int .u64 v.n), .s (.int .i64 v.id)]
structure Slot where
  val : Val
  bytes : List Int
  init : Int
deriving DecidableEq
def Slot.zero : Slot := ⟨.zero, List.replicate 8 0, 0⟩
def bytesV' (l : List Int) : List V := l.map fun x => .s (.int .u8 x)
def Slot.l (s : Slot) : List V := s.val.l ++ bytesV' s.bytes ++ [.s (.int .u8 s.init)]
structure Frame where
  prog : Int
  pc : Int
  tails : Int
  regs : List Val
  stack : List Slot
deriving DecidableEq
def Frame.l (f : Frame) : List V := [.s (.int .i64 f.prog), .s (.int .i64 f.pc), .s (.int .i64 f.tails)] ++ (flat Val.l f.regs ++ flat Slot.l f.stack)
structure Frame.Ok (f : Frame) : Prop where
  regs : f.regs.length = 11
  stack : f.stack.length = 64
  bytes : ∀ s ∈ f.stack, s.bytes.length = 8
@[simp] theorem Val.l_length (v : Val) : v.l.length = 3 := rfl
@[simp] theorem bytesV'_length (l : List Int) : (bytesV' l).length = l.length := by simp [bytesV']
theorem Slot.l_length {s : Slot} (h : s.bytes.length = 8) : s.l.length = 12 := by simp [Slot.l, h]
theorem Frame.Ok.regsL {f : Frame} (h : f.Ok) : (flat Val.l f.regs).length = 33 := by rw [flat_length (k := 3) (fun x _ => rfl), h.regs]
theorem Frame.Ok.stackL {f : Frame} (h : f.Ok) : (flat Slot.l f.stack).length = 768 := by rw [flat_length (k := 12) (fun x hx => Slot.l_length (h.bytes x hx)), h.stack]
theorem Frame.Ok.length {f : Frame} (h : f.Ok) : f.l.length = 804 := by simp [Frame.l, h.regsL, h.stackL]
theorem Frame.Ok.setReg {f : Frame} (h : f.Ok) (i : Nat) (v : Val) : { f with regs := f.regs.set i v }.Ok := ⟨by simp [h.regs], h.stack, h.bytes⟩
theorem Frame.Ok.setSlot {f : Frame} (h : f.Ok) (i : Nat) {s : Slot} (hs : s.bytes.length = 8) : { f with stack := f.stack.set i s }.Ok :=
  ⟨h.regs, by simp [h.stack], fun x hx => by
    rcases List.mem_or_eq_of_mem_set hx with h1 | rfl
    · exact h.bytes x h1
    · exact hs⟩

/-- A register's cells. -/
theorem Frame.reg_part {f : Frame} (h : f.Ok) {i j m : Nat} (hi : i < 11) (hj : j + m ≤ 3) : (f.l.drop (3 + i * 3 + j)).take m = ((f.regs[i]'(by rw [h.regs]; exact hi)).l.drop j).take m := by
  have hi' : i < f.regs.length := by rw [h.regs]; exact hi
  rw [← flat_part (g := Val.l) (k := 3) (fun x _ => rfl) hi' hj]
  unfold Frame.l
  rw [List.drop_append, List.drop_eq_nil_of_le (by simp; omega), show 3 + i * 3 + j - [V.s (Value.int IntKind.i64 f.prog), V.s (Value.int IntKind.i64 f.pc), V.s (Value.int IntKind.i64 f.tails)].length = i * 3 + j by simp; omega]
  rw [List.nil_append, List.drop_append, List.take_append]
  have : m - (List.drop (i * 3 + j) (flat Val.l f.regs)).length = 0 := by simp [h.regsL]; omega
  rw [this]; simp
theorem Frame.reg_get {f : Frame} (h : f.Ok) {i j : Nat} (hi : i < 11) (hj : j < 3) : f.l[3 + i * 3 + j]? = (f.regs[i]'(by rw [h.regs]; exact hi)).l[j]? := by
  have := Frame.reg_part h (m := 1) hi (by omega : j + 1 ≤ 3)
  have e1 : ((f.l.drop (3 + i * 3 + j)).take 1)[0]? = f.l[3 + i * 3 + j]? := by simp [List.getElem?_take]
  rw [← e1, this]; simp [List.getElem?_take]
theorem Frame.reg_splice {f : Frame} (h : f.Ok) {i j : Nat} {new : List V} {y : Val} (hi : i < 11) (hj : j + new.length ≤ 3) (hy : splice (f.regs[i]'(by rw [h.regs]; exact hi)).l j new = y.l) :
    splice f.l (3 + i * 3 + j) new = { f with regs := f.regs.set i y }.l := by
  have hi' : i < f.regs.length := by rw [h.regs]; exact hi
  have := flat_splice (g := Val.l) (k := 3) (fun x _ => rfl) hi' hj hy
  unfold Frame.l
  rw [show 3 + i * 3 + j = [V.s (Value.int IntKind.i64 f.prog), V.s (Value.int IntKind.i64 f.pc), V.s (Value.int IntKind.i64 f.tails)].length + (i * 3 + j) by simp; omega]
  rw [splice_right, splice_left _ _ _ _ (by rw [h.regsL]; omega), this]
/-- A slot's cells. -/
theorem Frame.slot_part {f : Frame} (h : f.Ok) {i j m : Nat} (hi : i < 64) (hj : j + m ≤ 12) : (f.l.drop (36 + i * 12 + j)).take m = ((f.stack[i]'(by rw [h.stack]; exact hi)).l.drop j).take m := by
  have hi' : i < f.stack.length := by rw [h.stack]; exact hi
  rw [← flat_part (g := Slot.l) (k := 12) (fun x hx => Slot.l_length (h.bytes x hx)) hi' hj]
  unfold Frame.l
  rw [← List.append_assoc, List.drop_append, List.drop_eq_nil_of_le (by simp [h.regsL]; omega)]
  have : 36 + i * 12 + j - ([V.s (Value.int IntKind.i64 f.prog), V.s (Value.int IntKind.i64 f.pc), V.s (Value.int IntKind.i64 f.tails)] ++ flat Val.l f.regs).length = i * 12 + j := by
    simp [h.regsL]; omega
  rw [this, List.nil_append]
theorem Frame.slot_get {f : Frame} (h : f.Ok) {i j : Nat} (hi : i < 64) (hj : j < 12) : f.l[36 + i * 12 + j]? = (f.stack[i]'(by rw [h.stack]; exact hi)).l[j]? := by
  have := Frame.slot_part h (m := 1) hi (by omega : j + 1 ≤ 12)
  have e1 : ((f.l.drop (36 + i * 12 + j)).take 1)[0]? = f.l[36 + i * 12 + j]? := by simp [List.getElem?_take]
  rw [← e1, this]; simp [List.getElem?_take]
theorem Frame.slot_splice {f : Frame} (h : f.Ok) {i j : Nat} {new : List V} {y : Slot} (hi : i < 64) (hj : j + new.length ≤ 12) (hy : splice (f.stack[i]'(by rw [h.stack]; exact hi)).l j new = y.l) :
    splice f.l (36 + i * 12 + j) new = { f with stack := f.stack.set i y }.l := by
  have hi' : i < f.stack.length := by rw [h.stack]; exact hi
  have := flat_splice (g := Slot.l) (k := 12) (fun x hx => Slot.l_length (h.bytes x hx)) hi' hj hy
  unfold Frame.l
  rw [← List.append_assoc, ← List.append_assoc]
  rw [show 36 + i * 12 + j = ([V.s (Value.int IntKind.i64 f.prog), V.s (Value.int IntKind.i64 f.pc), V.s (Value.int IntKind.i64 f.tails)] ++ flat Val.l f.regs).length + (i * 12 + j) by simp [h.regsL]; omega]
  rw [splice_right, this]
end Go.Ev
