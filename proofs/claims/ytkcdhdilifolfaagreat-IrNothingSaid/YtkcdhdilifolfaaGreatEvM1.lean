/- A frame's cells, one by one. -/
import Derived.Test.YtkcdhdilifolfaaGreatEvM0
namespace Go.Ev
theorem put_one (l : List V) (o : Nat) (v : V) : (Rope.lst l).put o (.one v) = .lst (splice l o [v]) := of_eq rfl
theorem put_lst (l m : List V) (o : Nat) : (Rope.lst l).put o (.lst m) = .lst (splice l o m) := of_eq rfl
theorem Val.eta (v : Val) : (⟨v.kind, v.n, v.id⟩ : Val) = v := of_eq rfl
def Frame.reg (f : Frame) (i : Nat) : Val := f.regs[i]?.getD .zero
def Frame.slot (f : Frame) (i : Nat) : Slot := f.stack[i]?.getD .zero
def Frame.setR (f : Frame) (i : Nat) (v : Val) : Frame := { f with regs := f.regs.set i v }
def Frame.setS (f : Frame) (i : Nat) (s : Slot) : Frame := { f with stack := f.stack.set i s }
theorem Frame.Ok.setR {f : Frame} (h : f.Ok) (i : Nat) (v : Val) : (f.setR i v).Ok := h.setReg i v
theorem Frame.Ok.setS {f : Frame} (h : f.Ok) (i : Nat) {s : Slot} (hs : s.bytes.length = 8) : (f.setS i s).Ok := h.setSlot i hs
theorem Frame.Ok.slot8 {f : Frame} (h : f.Ok) (i : Nat) : (f.slot i).bytes.length = 8 := by
  unfold Frame.slot
  by_cases hi : i < f.stack.length
  · rw [List.getElem?_eq_getElem hi]; exact h.bytes _ (List.getElem_mem hi)
  · rw [List.getElem?_eq_none (by omega)]; rfl
theorem Frame.reg_eq {f : Frame} {i : Nat} (hi : i < f.regs.length) : f.reg i = f.regs[i] := by unfold Frame.reg; rw [List.getElem?_eq_getElem hi]; rfl
theorem Frame.slot_eq {f : Frame} {i : Nat} (hi : i < f.stack.length) : f.slot i = f.stack[i] := by unfold Frame.slot; rw [List.getElem?_eq_getElem hi]; rfl
@[simp] theorem Frame.reg_setR {f : Frame} (i j : Nat) (v : Val) (hi : i < f.regs.length) : (f.setR i v).reg j = if i = j then v else f.reg j := by
  unfold Frame.reg Frame.setR
  simp only [List.getElem?_set]
  split
  · rename_i e; subst e; simp [hi]
  · rfl
theorem Frame.slot_setS {f : Frame} (i j : Nat) (v : Slot) (hi : i < f.stack.length) : (f.setS i v).slot j = if i = j then v else f.slot j := by
  unfold Frame.slot Frame.setS
  simp only [List.getElem?_set]
  split
  · rename_i e; subst e; simp [hi]
  · rfl
section
theorem Frame.c0 {f : Frame} : f.l[0]? = some (.s (.int .i64 f.prog)) := rfl
theorem Frame.c1 {f : Frame} : f.l[1]? = some (.s (.int .i64 f.pc)) := rfl
theorem Frame.c2 {f : Frame} : f.l[2]? = some (.s (.int .i64 f.tails)) := rfl
theorem Frame.s0 {f : Frame} (x : Int) : splice f.l 0 [.s (.int .i64 x)] = { f with prog := x }.l := rfl
theorem Frame.s1 {f : Frame} (x : Int) : splice f.l 1 [.s (.int .i64 x)] = { f with pc := x }.l := rfl
theorem Frame.s2 {f : Frame} (x : Int) : splice f.l 2 [.s (.int .i64 x)] = { f with tails := x }.l := rfl
variable {f : Frame} (h : f.Ok)
include h
theorem Frame.regW {i : Nat} (hi : i < 11) : (f.l.drop (3 + i * 3)).take 3 = [.s (.int .i64 (f.reg i).kind), .s (.int .u64 (f.reg i).n), .s (.int .i64 (f.reg i).id)] := by
  rw [f.reg_eq (by rw [h.regs]; exact hi)]
  exact Frame.reg_part (j := 0) h hi (Nat.le_refl 3)
theorem Frame.regK {i : Nat} (hi : i < 11) : f.l[3 + i * 3]? = some (.s (.int .i64 (f.reg i).kind)) := by
  rw [f.reg_eq (by rw [h.regs]; exact hi)]
  exact Frame.reg_get (j := 0) h hi (by omega)
theorem Frame.regN {i : Nat} (hi : i < 11) : f.l[3 + i * 3 + 1]? = some (.s (.int .u64 (f.reg i).n)) := by
  rw [f.reg_eq (by rw [h.regs]; exact hi)]
  exact Frame.reg_get (j := 1) h hi (by omega)
theorem Frame.regI {i : Nat} (hi : i < 11) : f.l[3 + i * 3 + 2]? = some (.s (.int .i64 (f.reg i).id)) := by
  rw [f.reg_eq (by rw [h.regs]; exact hi)]
  exact Frame.reg_get (j := 2) h hi (by omega)
theorem Frame.regS {i : Nat} (hi : i < 11) (k n d : Int) : splice f.l (3 + i * 3) [.s (.int .i64 k), .s (.int .u64 n), .s (.int .i64 d)] = (f.setR i ⟨k, n, d⟩).l :=
  Frame.reg_splice (j := 0) h hi (Nat.le_refl 3) (by rw [splice_all] <;> rfl)
theorem Frame.slotW {i : Nat} (hi : i < 64) : (f.l.drop (36 + i * 12)).take 12 = (f.slot i).l := by
  have hs := h.slot8 i
  rw [f.slot_eq (by rw [h.stack]; exact hi)] at hs ⊢
  have := Frame.slot_part (j := 0) (m := 12) h hi (by omega)
  rw [Nat.add_zero] at this
  rw [this, List.drop_zero, List.take_of_length_le (by rw [Slot.l_length hs]; exact Nat.le_refl _)]
theorem Frame.slotK {i : Nat} (hi : i < 64) : f.l[36 + i * 12]? = some (.s (.int .i64 (f.slot i).val.kind)) := by
  rw [f.slot_eq (by rw [h.stack]; exact hi)]
  exact Frame.slot_get (j := 0) h hi (by omega)
theorem Frame.slotV {i : Nat} (hi : i < 64) : (f.l.drop (36 + i * 12)).take 3 = [.s (.int .i64 (f.slot i).val.kind), .s (.int .u64 (f.slot i).val.n), .s (.int .i64 (f.slot i).val.id)] := by
  rw [f.slot_eq (by rw [h.stack]; exact hi)]
  exact Frame.slot_part (j := 0) (m := 3) h hi (by omega)
theorem Frame.slotB {i k : Nat} (hi : i < 64) (hk : k < 8) : f.l[36 + i * 12 + 3 + k]? = some (.s (.int .u8 ((f.slot i).bytes[k]?.getD 0))) := by
  have hs := h.slot8 i
  rw [f.slot_eq (by rw [h.stack]; exact hi)] at hs ⊢
  have := Frame.slot_get (j := 3 + k) h hi (by omega)
  rw [← Nat.add_assoc] at this
  rw [this, Slot.l, List.getElem?_append_left (by simp; omega), List.getElem?_append_right (by simp)]
  simp [bytesV', List.getElem?_eq_getElem (show k < (f.stack[i]'(by rw [h.stack]; exact hi)).bytes.length by omega)]
theorem Frame.slotI {i : Nat} (hi : i < 64) : f.l[36 + i * 12 + 11]? = some (.s (.int .u8 (f.slot i).init)) := by
  have hs := h.slot8 i
  rw [f.slot_eq (by rw [h.stack]; exact hi)] at hs ⊢
  rw [Frame.slot_get (j := 11) h hi (by omega), Slot.l, List.getElem?_append_right (by simp; omega)]
  simp [hs]
theorem Frame.slotSW {i : Nat} (hi : i < 64) (s : Slot) (hs : s.bytes.length = 8) : splice f.l (36 + i * 12) s.l = (f.setS i s).l := by
  have h8 := h.slot8 i
  rw [f.slot_eq (by rw [h.stack]; exact hi)] at h8
  refine Frame.slot_splice (j := 0) h hi (by rw [Slot.l_length hs]; omega) ?_
  rw [splice_all]
  rw [Slot.l_length hs, Slot.l_length h8]
theorem Frame.slotSB {i k : Nat} (hi : i < 64) (hk : k < 8) (c : Int) : splice f.l (36 + i * 12 + 3 + k) [.s (.int .u8 c)] = (f.setS i { f.slot i with bytes := (f.slot i).bytes.set k c }).l := by
  have hs := h.slot8 i
  rw [f.slot_eq (by rw [h.stack]; exact hi)] at hs ⊢
  rw [show 36 + i * 12 + 3 + k = 36 + i * 12 + (3 + k) by omega]
  refine Frame.slot_splice (j := 3 + k) h hi (by simp; omega) ?_
  simp only [Slot.l, List.append_assoc]
  rw [show 3 + k = (f.stack[i]'(by rw [h.stack]; exact hi)).val.l.length + k from rfl, splice_right, splice_left _ _ _ _ (by simp [hs]; omega)]
  congr 1
  congr 1
  simp only [splice, bytesV']
  rw [List.map_set, List.set_eq_take_append_cons_drop, if_pos (by simp [hs]; exact hk)]
  simp
theorem Frame.slotSI {i : Nat} (hi : i < 64) (c : Int) : splice f.l (36 + i * 12 + 11) [.s (.int .u8 c)] = (f.setS i { f.slot i with init := c }).l := by
  have hs := h.slot8 i
  rw [f.slot_eq (by rw [h.stack]; exact hi)] at hs ⊢
  refine Frame.slot_splice (j := 11) h hi (by simp) ?_
  simp only [Slot.l]
  have : ((f.stack[i]'(by rw [h.stack]; exact hi)).val.l ++ bytesV' (f.stack[i]'(by rw [h.stack]; exact hi)).bytes).length = 11 := by simp [hs]
  rw [show (11 : Nat) = ((f.stack[i]'(by rw [h.stack]; exact hi)).val.l ++ bytesV' (f.stack[i]'(by rw [h.stack]; exact hi)).bytes).length + 0 by omega, splice_right]
  rfl

theorem Frame.regW0 : (f.l.drop 3).take 3 = [.s (.int .i64 (f.reg 0).kind), .s (.int .u64 (f.reg 0).n), .s (.int .i64 (f.reg 0).id)] := Frame.regW (i := 0) h (by omega)
theorem Frame.regK0 : f.l[3]? = some (.s (.int .i64 (f.reg 0).kind)) := Frame.regK (i := 0) h (by omega)
theorem Frame.regN0 : f.l[4]? = some (.s (.int .u64 (f.reg 0).n)) := Frame.regN (i := 0) h (by omega)
theorem Frame.regI0 : f.l[5]? = some (.s (.int .i64 (f.reg 0).id)) := Frame.regI (i := 0) h (by omega)
theorem Frame.regS0 (k n d : Int) : splice f.l 3 [.s (.int .i64 k), .s (.int .u64 n), .s (.int .i64 d)] = (f.setR 0 ⟨k, n, d⟩).l := Frame.regS (i := 0) h (by omega) k n d
theorem Frame.regW1 : (f.l.drop 6).take 3 = [.s (.int .i64 (f.reg 1).kind), .s (.int .u64 (f.reg 1).n), .s (.int .i64 (f.reg 1).id)] := Frame.regW (i := 1) h (by omega)
theorem Frame.regK1 : f.l[6]? = some (.s (.int .i64 (f.reg 1).kind)) := Frame.regK (i := 1) h (by omega)
theorem Frame.regN1 : f.l[7]? = some (.s (.int .u64 (f.reg 1).n)) := Frame.regN (i := 1) h (by omega)
theorem Frame.regI1 : f.l[8]? = some (.s (.int .i64 (f.reg 1).id)) := Frame.regI (i := 1) h (by omega)
theorem Frame.regS1 (k n d : Int) : splice f.l 6 [.s (.int .i64 k), .s (.int .u64 n), .s (.int .i64 d)] = (f.setR 1 ⟨k, n, d⟩).l := Frame.regS (i := 1) h (by omega) k n d
theorem Frame.regW2 : (f.l.drop 9).take 3 = [.s (.int .i64 (f.reg 2).kind), .s (.int .u64 (f.reg 2).n), .s (.int .i64 (f.reg 2).id)] := Frame.regW (i := 2) h (by omega)
theorem Frame.regK2 : f.l[9]? = some (.s (.int .i64 (f.reg 2).kind)) := Frame.regK (i := 2) h (by omega)
theorem Frame.regN2 : f.l[10]? = some (.s (.int .u64 (f.reg 2).n)) := Frame.regN (i := 2) h (by omega)
theorem Frame.regI2 : f.l[11]? = some (.s (.int .i64 (f.reg 2).id)) := Frame.regI (i := 2) h (by omega)
theorem Frame.regS2 (k n d : Int) : splice f.l 9 [.s (.int .i64 k), .s (.int .u64 n), .s (.int .i64 d)] = (f.setR 2 ⟨k, n, d⟩).l := Frame.regS (i := 2) h (by omega) k n d
theorem Frame.regW3 : (f.l.drop 12).take 3 = [.s (.int .i64 (f.reg 3).kind), .s (.int .u64 (f.reg 3).n), .s (.int .i64 (f.reg 3).id)] := Frame.regW (i := 3) h (by omega)
theorem Frame.regK3 : f.l[12]? = some (.s (.int .i64 (f.reg 3).kind)) := Frame.regK (i := 3) h (by omega)
theorem Frame.regN3 : f.l[13]? = some (.s (.int .u64 (f.reg 3).n)) := Frame.regN (i := 3) h (by omega)
theorem Frame.regI3 : f.l[14]? = some (.s (.int .i64 (f.reg 3).id)) := Frame.regI (i := 3) h (by omega)
theorem Frame.regS3 (k n d : Int) : splice f.l 12 [.s (.int .i64 k), .s (.int .u64 n), .s (.int .i64 d)] = (f.setR 3 ⟨k, n, d⟩).l := Frame.regS (i := 3) h (by omega) k n d
theorem Frame.regW4 : (f.l.drop 15).take 3 = [.s (.int .i64 (f.reg 4).kind), .s (.int .u64 (f.reg 4).n), .s (.int .i64 (f.reg 4).id)] := Frame.regW (i := 4) h (by omega)
theorem Frame.regK4 : f.l[15]? = some (.s (.int .i64 (f.reg 4).kind)) := Frame.regK (i := 4) h (by omega)
theorem Frame.regN4 : f.l[16]? = some (.s (.int .u64 (f.reg 4).n)) := Frame.regN (i := 4) h (by omega)
theorem Frame.regI4 : f.l[17]? = some (.s (.int .i64 (f.reg 4).id)) := Frame.regI (i := 4) h (by omega)
theorem Frame.regS4 (k n d : Int) : splice f.l 15 [.s (.int .i64 k), .s (.int .u64 n), .s (.int .i64 d)] = (f.setR 4 ⟨k, n, d⟩).l := Frame.regS (i := 4) h (by omega) k n d
theorem Frame.regW5 : (f.l.drop 18).take 3 = [.s (.int .i64 (f.reg 5).kind), .s (.int .u64 (f.reg 5).n), .s (.int .i64 (f.reg 5).id)] := Frame.regW (i := 5) h (by omega)
theorem Frame.regK5 : f.l[18]? = some (.s (.int .i64 (f.reg 5).kind)) := Frame.regK (i := 5) h (by omega)
theorem Frame.regN5 : f.l[19]? = some (.s (.int .u64 (f.reg 5).n)) := Frame.regN (i := 5) h (by omega)
theorem Frame.regI5 : f.l[20]? = some (.s (.int .i64 (f.reg 5).id)) := Frame.regI (i := 5) h (by omega)
theorem Frame.regS5 (k n d : Int) : splice f.l 18 [.s (.int .i64 k), .s (.int .u64 n), .s (.int .i64 d)] = (f.setR 5 ⟨k, n, d⟩).l := Frame.regS (i := 5) h (by omega) k n d
theorem Frame.regW6 : (f.l.drop 21).take 3 = [.s (.int .i64 (f.reg 6).kind), .s (.int .u64 (f.reg 6).n), .s (.int .i64 (f.reg 6).id)] := Frame.regW (i := 6) h (by omega)
theorem Frame.regK6 : f.l[21]? = some (.s (.int .i64 (f.reg 6).kind)) := Frame.regK (i := 6) h (by omega)
theorem Frame.regN6 : f.l[22]? = some (.s (.int .u64 (f.reg 6).n)) := Frame.regN (i := 6) h (by omega)
theorem Frame.regI6 : f.l[23]? = some (.s (.int .i64 (f.reg 6).id)) := Frame.regI (i := 6) h (by omega)
theorem Frame.regS6 (k n d : Int) : splice f.l 21 [.s (.int .i64 k), .s (.int .u64 n), .s (.int .i64 d)] = (f.setR 6 ⟨k, n, d⟩).l := Frame.regS (i := 6) h (by omega) k n d
theorem Frame.regW7 : (f.l.drop 24).take 3 = [.s (.int .i64 (f.reg 7).kind), .s (.int .u64 (f.reg 7).n), .s (.int .i64 (f.reg 7).id)] := Frame.regW (i := 7) h (by omega)
theorem Frame.regK7 : f.l[24]? = some (.s (.int .i64 (f.reg 7).kind)) := Frame.regK (i := 7) h (by omega)
theorem Frame.regN7 : f.l[25]? = some (.s (.int .u64 (f.reg 7).n)) := Frame.regN (i := 7) h (by omega)
theorem Frame.regI7 : f.l[26]? = some (.s (.int .i64 (f.reg 7).id)) := Frame.regI (i := 7) h (by omega)
theorem Frame.regS7 (k n d : Int) : splice f.l 24 [.s (.int .i64 k), .s (.int .u64 n), .s (.int .i64 d)] = (f.setR 7 ⟨k, n, d⟩).l := Frame.regS (i := 7) h (by omega) k n d
theorem Frame.regW8 : (f.l.drop 27).take 3 = [.s (.int .i64 (f.reg 8).kind), .s (.int .u64 (f.reg 8).n), .s (.int .i64 (f.reg 8).id)] := Frame.regW (i := 8) h (by omega)
theorem Frame.regK8 : f.l[27]? = some (.s (.int .i64 (f.reg 8).kind)) := Frame.regK (i := 8) h (by omega)
theorem Frame.regN8 : f.l[28]? = some (.s (.int .u64 (f.reg 8).n)) := Frame.regN (i := 8) h (by omega)
theorem Frame.regI8 : f.l[29]? = some (.s (.int .i64 (f.reg 8).id)) := Frame.regI (i := 8) h (by omega)
theorem Frame.regS8 (k n d : Int) : splice f.l 27 [.s (.int .i64 k), .s (.int .u64 n), .s (.int .i64 d)] = (f.setR 8 ⟨k, n, d⟩).l := Frame.regS (i := 8) h (by omega) k n d
theorem Frame.regW9 : (f.l.drop 30).take 3 = [.s (.int .i64 (f.reg 9).kind), .s (.int .u64 (f.reg 9).n), .s (.int .i64 (f.reg 9).id)] := Frame.regW (i := 9) h (by omega)
theorem Frame.regK9 : f.l[30]? = some (.s (.int .i64 (f.reg 9).kind)) := Frame.regK (i := 9) h (by omega)
theorem Frame.regN9 : f.l[31]? = some (.s (.int .u64 (f.reg 9).n)) := Frame.regN (i := 9) h (by omega)
theorem Frame.regI9 : f.l[32]? = some (.s (.int .i64 (f.reg 9).id)) := Frame.regI (i := 9) h (by omega)
theorem Frame.regS9 (k n d : Int) : splice f.l 30 [.s (.int .i64 k), .s (.int .u64 n), .s (.int .i64 d)] = (f.setR 9 ⟨k, n, d⟩).l := Frame.regS (i := 9) h (by omega) k n d
theorem Frame.regW10 : (f.l.drop 33).take 3 = [.s (.int .i64 (f.reg 10).kind), .s (.int .u64 (f.reg 10).n), .s (.int .i64 (f.reg 10).id)] := Frame.regW (i := 10) h (by omega)
theorem Frame.regK10 : f.l[33]? = some (.s (.int .i64 (f.reg 10).kind)) := Frame.regK (i := 10) h (by omega)
theorem Frame.regN10 : f.l[34]? = some (.s (.int .u64 (f.reg 10).n)) := Frame.regN (i := 10) h (by omega)
theorem Frame.regI10 : f.l[35]? = some (.s (.int .i64 (f.reg 10).id)) := Frame.regI (i := 10) h (by omega)
theorem Frame.regS10 (k n d : Int) : splice f.l 33 [.s (.int .i64 k), .s (.int .u64 n), .s (.int .i64 d)] = (f.setR 10 ⟨k, n, d⟩).l := Frame.regS (i := 10) h (by omega) k n d
end
end Go.Ev
