import Derived.Test.YtkcdhdilifolfaaGreatEvKI
import Derived.Test.YtkcdhdilifolfaaGreatRB
namespace Go.Ev
set_option linter.unusedVariables false
@[simp] theorem ap122_122 (h : Heap) (n : Nat) (s x : V) (K : V → Heap → Nat → Prop) : appendK CC h n 122 122 s x K = appendWK 1 8 h n s x K := of_eq (by kernel_rfl)
@[simp] theorem ap169_169 (h : Heap) (n : Nat) (s x : V) (K : V → Heap → Nat → Prop) : appendK CC h n 169 169 s x K = appendWK 2 24 h n s x K := of_eq (by kernel_rfl)
@[simp] theorem ap23_23 (h : Heap) (n : Nat) (s x : V) (K : V → Heap → Nat → Prop) : appendK CC h n 23 23 s x K = appendWK 1 1 h n s x K := of_eq (by kernel_rfl)
@[simp] theorem ap24_24 (h : Heap) (n : Nat) (s x : V) (K : V → Heap → Nat → Prop) : appendK CC h n 24 24 s x K = appendWK 1 4 h n s x K := of_eq (by kernel_rfl)
@[simp] theorem ap95_95 (h : Heap) (n : Nat) (s x : V) (K : V → Heap → Nat → Prop) : appendK CC h n 95 95 s x K = appendWK 1 8 h n s x K := of_eq (by kernel_rfl)
@[simp] theorem ap96_96 (h : Heap) (n : Nat) (s x : V) (K : V → Heap → Nat → Prop) : appendK CC h n 96 96 s x K = appendWK 5 56 h n s x K := of_eq (by kernel_rfl)
@[simp] theorem cp23 (h : Heap) (d x : V) (K : V → Heap → Prop) : copyK CC h 23 d x K = copyWK 1 h d x K := of_eq (by kernel_rfl)
@[simp] theorem cv25_5 (h : Heap) (k : IntKind) (a : Int) : convert CC h 25 5 (.s (.int k a)) = some (.s (.int .u8 (wrapF .u8 a))) := of_eq (by kernel_rfl)
@[simp] theorem cv3_5 (h : Heap) (k : IntKind) (a : Int) : convert CC h 3 5 (.s (.int k a)) = some (.s (.int .u8 (wrapF .u8 a))) := of_eq (by kernel_rfl)
@[simp] theorem cv3_73 (h : Heap) (k : IntKind) (a : Int) : convert CC h 3 73 (.s (.int k a)) = some (.s (.int .u32 (wrapF .u32 a))) := of_eq (by kernel_rfl)
@[simp] theorem cv5_3 (h : Heap) (k : IntKind) (a : Int) : convert CC h 5 3 (.s (.int k a)) = some (.s (.int .i64 (wrapF .i64 a))) := of_eq (by kernel_rfl)
@[simp] theorem cv5_73 (h : Heap) (k : IntKind) (a : Int) : convert CC h 5 73 (.s (.int k a)) = some (.s (.int .u32 (wrapF .u32 a))) := of_eq (by kernel_rfl)
@[simp] theorem cv73_3 (h : Heap) (k : IntKind) (a : Int) : convert CC h 73 3 (.s (.int k a)) = some (.s (.int .i64 (wrapF .i64 a))) := of_eq (by kernel_rfl)
@[simp] theorem dl115 (h : Heap) (b : Nat) (k : V) : mapDelete CC h 115 (.map b) k = mapDeleteW (.int .i64) h b k := of_eq (by kernel_rfl)
@[simp] theorem eq112 (c : Bool) (b o : Nat) : binop CC .eql 112 c (.ptr b o) (.s (.pointer none)) = some (.s (.bool false)) := of_eq (by kernel_rfl)
@[simp] theorem eq112r (c : Bool) (b o : Nat) : binop CC .eql 112 c (.s (.pointer none)) (.ptr b o) = some (.s (.bool false)) := of_eq (by kernel_rfl)
@[simp] theorem eq112z (c : Bool) : binop CC .eql 112 c (.s (.pointer none)) (.s (.pointer none)) = some (.s (.bool true)) := of_eq (by kernel_rfl)
@[simp] theorem eq121 (c : Bool) (b o : Nat) : binop CC .eql 121 c (.ptr b o) (.s (.pointer none)) = some (.s (.bool false)) := of_eq (by kernel_rfl)
@[simp] theorem eq121r (c : Bool) (b o : Nat) : binop CC .eql 121 c (.s (.pointer none)) (.ptr b o) = some (.s (.bool false)) := of_eq (by kernel_rfl)
@[simp] theorem eq121z (c : Bool) : binop CC .eql 121 c (.s (.pointer none)) (.s (.pointer none)) = some (.s (.bool true)) := of_eq (by kernel_rfl)
@[simp] theorem eq20 (c : Bool) (b : TypeId) (o : V) : binop CC .eql 20 c (.iface b o) (.s .nilIface) = some (.s (.bool false)) := of_eq (by kernel_rfl)
@[simp] theorem eq20n (c : Bool) (b : TypeId) (o : V) : binop CC .neq 20 c (.iface b o) (.s .nilIface) = some (.s (.bool true)) := of_eq (by kernel_rfl)
@[simp] theorem eq20nr (c : Bool) (b : TypeId) (o : V) : binop CC .neq 20 c (.s .nilIface) (.iface b o) = some (.s (.bool true)) := of_eq (by kernel_rfl)
@[simp] theorem eq20r (c : Bool) (b : TypeId) (o : V) : binop CC .eql 20 c (.s .nilIface) (.iface b o) = some (.s (.bool false)) := of_eq (by kernel_rfl)
@[simp] theorem eq23 (c : Bool) (b o l cc : Nat) (p : Bool) : binop CC .eql 23 c (.slice b o l cc p) (.s (.slice none 0 0)) = some (.s (.bool false)) := of_eq (by kernel_rfl)
@[simp] theorem eq23r (c : Bool) (b o l cc : Nat) (p : Bool) : binop CC .eql 23 c (.s (.slice none 0 0)) (.slice b o l cc p) = some (.s (.bool false)) := of_eq (by kernel_rfl)
@[simp] theorem eq23z (c : Bool) : binop CC .eql 23 c (.s (.slice none 0 0)) (.s (.slice none 0 0)) = some (.s (.bool true)) := of_eq (by kernel_rfl)
@[simp] theorem eq42 (c : Bool) (b o : Nat) : binop CC .eql 42 c (.ptr b o) (.s (.pointer none)) = some (.s (.bool false)) := of_eq (by kernel_rfl)
@[simp] theorem eq42r (c : Bool) (b o : Nat) : binop CC .eql 42 c (.s (.pointer none)) (.ptr b o) = some (.s (.bool false)) := of_eq (by kernel_rfl)
@[simp] theorem eq42z (c : Bool) : binop CC .eql 42 c (.s (.pointer none)) (.s (.pointer none)) = some (.s (.bool true)) := of_eq (by kernel_rfl)
@[simp] theorem eq48 (c : Bool) (b o : Nat) : binop CC .eql 48 c (.ptr b o) (.s (.pointer none)) = some (.s (.bool false)) := of_eq (by kernel_rfl)
@[simp] theorem eq48r (c : Bool) (b o : Nat) : binop CC .eql 48 c (.s (.pointer none)) (.ptr b o) = some (.s (.bool false)) := of_eq (by kernel_rfl)
@[simp] theorem eq48z (c : Bool) : binop CC .eql 48 c (.s (.pointer none)) (.s (.pointer none)) = some (.s (.bool true)) := of_eq (by kernel_rfl)
@[simp] theorem eq49 (c : Bool) (b o : Nat) : binop CC .eql 49 c (.ptr b o) (.s (.pointer none)) = some (.s (.bool false)) := of_eq (by kernel_rfl)
@[simp] theorem eq49r (c : Bool) (b o : Nat) : binop CC .eql 49 c (.s (.pointer none)) (.ptr b o) = some (.s (.bool false)) := of_eq (by kernel_rfl)
@[simp] theorem eq49z (c : Bool) : binop CC .eql 49 c (.s (.pointer none)) (.s (.pointer none)) = some (.s (.bool true)) := of_eq (by kernel_rfl)
@[simp] theorem eq50 (c : Bool) (b o : Nat) : binop CC .eql 50 c (.ptr b o) (.s (.pointer none)) = some (.s (.bool false)) := of_eq (by kernel_rfl)
@[simp] theorem eq50r (c : Bool) (b o : Nat) : binop CC .eql 50 c (.s (.pointer none)) (.ptr b o) = some (.s (.bool false)) := of_eq (by kernel_rfl)
@[simp] theorem eq50z (c : Bool) : binop CC .eql 50 c (.s (.pointer none)) (.s (.pointer none)) = some (.s (.bool true)) := of_eq (by kernel_rfl)
@[simp] theorem fa117_0 (b o : Nat) : rFA CC 117 0 (.ptr b o) = some (.ptr b (o + 0)) := of_eq (by kernel_rfl)
@[simp] theorem fa117_1 (b o : Nat) : rFA CC 117 1 (.ptr b o) = some (.ptr b (o + 1)) := of_eq (by kernel_rfl)
@[simp] theorem fa124_0 (b o : Nat) : rFA CC 124 0 (.ptr b o) = some (.ptr b (o + 0)) := of_eq (by kernel_rfl)
@[simp] theorem fa124_1 (b o : Nat) : rFA CC 124 1 (.ptr b o) = some (.ptr b (o + 4)) := of_eq (by kernel_rfl)
@[simp] theorem fa124_2 (b o : Nat) : rFA CC 124 2 (.ptr b o) = some (.ptr b (o + 5)) := of_eq (by kernel_rfl)
@[simp] theorem fa164_0 (b o : Nat) : rFA CC 164 0 (.ptr b o) = some (.ptr b (o + 0)) := of_eq (by kernel_rfl)
@[simp] theorem fa168_0 (b o : Nat) : rFA CC 168 0 (.ptr b o) = some (.ptr b (o + 0)) := of_eq (by kernel_rfl)
@[simp] theorem fa168_1 (b o : Nat) : rFA CC 168 1 (.ptr b o) = some (.ptr b (o + 1)) := of_eq (by kernel_rfl)
@[simp] theorem fa168_2 (b o : Nat) : rFA CC 168 2 (.ptr b o) = some (.ptr b (o + 2)) := of_eq (by kernel_rfl)
@[simp] theorem fa168_3 (b o : Nat) : rFA CC 168 3 (.ptr b o) = some (.ptr b (o + 3)) := of_eq (by kernel_rfl)
@[simp] theorem fa168_4 (b o : Nat) : rFA CC 168 4 (.ptr b o) = some (.ptr b (o + 4)) := of_eq (by kernel_rfl)
@[simp] theorem fa168_5 (b o : Nat) : rFA CC 168 5 (.ptr b o) = some (.ptr b (o + 5)) := of_eq (by kernel_rfl)
@[simp] theorem fa171_0 (b o : Nat) : rFA CC 171 0 (.ptr b o) = some (.ptr b (o + 0)) := of_eq (by kernel_rfl)
@[simp] theorem fa171_1 (b o : Nat) : rFA CC 171 1 (.ptr b o) = some (.ptr b (o + 1)) := of_eq (by kernel_rfl)
@[simp] theorem fa171_2 (b o : Nat) : rFA CC 171 2 (.ptr b o) = some (.ptr b (o + 2)) := of_eq (by kernel_rfl)
@[simp] theorem fa177_0 (b o : Nat) : rFA CC 177 0 (.ptr b o) = some (.ptr b (o + 0)) := of_eq (by kernel_rfl)
@[simp] theorem fa177_1 (b o : Nat) : rFA CC 177 1 (.ptr b o) = some (.ptr b (o + 1)) := of_eq (by kernel_rfl)
@[simp] theorem fa179_0 (b o : Nat) : rFA CC 179 0 (.ptr b o) = some (.ptr b (o + 0)) := of_eq (by kernel_rfl)
@[simp] theorem fa179_1 (b o : Nat) : rFA CC 179 1 (.ptr b o) = some (.ptr b (o + 1)) := of_eq (by kernel_rfl)
@[simp] theorem fa179_2 (b o : Nat) : rFA CC 179 2 (.ptr b o) = some (.ptr b (o + 2)) := of_eq (by kernel_rfl)
@[simp] theorem fa179_3 (b o : Nat) : rFA CC 179 3 (.ptr b o) = some (.ptr b (o + 5)) := of_eq (by kernel_rfl)
@[simp] theorem fa209_0 (b o : Nat) : rFA CC 209 0 (.ptr b o) = some (.ptr b (o + 0)) := of_eq (by kernel_rfl)
@[simp] theorem fa209_1 (b o : Nat) : rFA CC 209 1 (.ptr b o) = some (.ptr b (o + 1)) := of_eq (by kernel_rfl)
@[simp] theorem fa27_0 (b o : Nat) : rFA CC 27 0 (.ptr b o) = some (.ptr b (o + 0)) := of_eq (by kernel_rfl)
@[simp] theorem fa27_1 (b o : Nat) : rFA CC 27 1 (.ptr b o) = some (.ptr b (o + 1)) := of_eq (by kernel_rfl)
@[simp] theorem fa29_0 (b o : Nat) : rFA CC 29 0 (.ptr b o) = some (.ptr b (o + 0)) := of_eq (by kernel_rfl)
@[simp] theorem fa29_1 (b o : Nat) : rFA CC 29 1 (.ptr b o) = some (.ptr b (o + 1)) := of_eq (by kernel_rfl)
@[simp] theorem fa29_2 (b o : Nat) : rFA CC 29 2 (.ptr b o) = some (.ptr b (o + 2)) := of_eq (by kernel_rfl)
@[simp] theorem fa29_3 (b o : Nat) : rFA CC 29 3 (.ptr b o) = some (.ptr b (o + 3)) := of_eq (by kernel_rfl)
@[simp] theorem fa29_4 (b o : Nat) : rFA CC 29 4 (.ptr b o) = some (.ptr b (o + 4)) := of_eq (by kernel_rfl)
@[simp] theorem fa29_5 (b o : Nat) : rFA CC 29 5 (.ptr b o) = some (.ptr b (o + 5)) := of_eq (by kernel_rfl)
@[simp] theorem fa31_0 (b o : Nat) : rFA CC 31 0 (.ptr b o) = some (.ptr b (o + 0)) := of_eq (by kernel_rfl)
@[simp] theorem fa34_0 (b o : Nat) : rFA CC 34 0 (.ptr b o) = some (.ptr b (o + 0)) := of_eq (by kernel_rfl)
@[simp] theorem fa34_5 (b o : Nat) : rFA CC 34 5 (.ptr b o) = some (.ptr b (o + 5)) := of_eq (by kernel_rfl)
@[simp] theorem fa38_0 (b o : Nat) : rFA CC 38 0 (.ptr b o) = some (.ptr b (o + 0)) := of_eq (by kernel_rfl)
@[simp] theorem fa38_1 (b o : Nat) : rFA CC 38 1 (.ptr b o) = some (.ptr b (o + 3)) := of_eq (by kernel_rfl)
@[simp] theorem fa38_2 (b o : Nat) : rFA CC 38 2 (.ptr b o) = some (.ptr b (o + 11)) := of_eq (by kernel_rfl)
@[simp] theorem fa41_4 (b o : Nat) : rFA CC 41 4 (.ptr b o) = some (.ptr b (o + 36)) := of_eq (by kernel_rfl)
@[simp] theorem fa52_1 (b o : Nat) : rFA CC 52 1 (.ptr b o) = some (.ptr b (o + 1)) := of_eq (by kernel_rfl)
@[simp] theorem fa52_3 (b o : Nat) : rFA CC 52 3 (.ptr b o) = some (.ptr b (o + 3)) := of_eq (by kernel_rfl)
@[simp] theorem fa69_0 (b o : Nat) : rFA CC 69 0 (.ptr b o) = some (.ptr b (o + 0)) := of_eq (by kernel_rfl)
@[simp] theorem fa69_1 (b o : Nat) : rFA CC 69 1 (.ptr b o) = some (.ptr b (o + 1)) := of_eq (by kernel_rfl)
@[simp] theorem fa69_2 (b o : Nat) : rFA CC 69 2 (.ptr b o) = some (.ptr b (o + 2)) := of_eq (by kernel_rfl)
@[simp] theorem fa69_3 (b o : Nat) : rFA CC 69 3 (.ptr b o) = some (.ptr b (o + 3)) := of_eq (by kernel_rfl)
@[simp] theorem fa71_0 (b o : Nat) : rFA CC 71 0 (.ptr b o) = some (.ptr b (o + 0)) := of_eq (by kernel_rfl)
@[simp] theorem fa71_1 (b o : Nat) : rFA CC 71 1 (.ptr b o) = some (.ptr b (o + 1)) := of_eq (by kernel_rfl)
@[simp] theorem fa71_2 (b o : Nat) : rFA CC 71 2 (.ptr b o) = some (.ptr b (o + 2)) := of_eq (by kernel_rfl)
@[simp] theorem fa71_3 (b o : Nat) : rFA CC 71 3 (.ptr b o) = some (.ptr b (o + 3)) := of_eq (by kernel_rfl)
@[simp] theorem fa71_4 (b o : Nat) : rFA CC 71 4 (.ptr b o) = some (.ptr b (o + 4)) := of_eq (by kernel_rfl)
@[simp] theorem fa71_5 (b o : Nat) : rFA CC 71 5 (.ptr b o) = some (.ptr b (o + 5)) := of_eq (by kernel_rfl)
@[simp] theorem fa71_6 (b o : Nat) : rFA CC 71 6 (.ptr b o) = some (.ptr b (o + 6)) := of_eq (by kernel_rfl)
@[simp] theorem fa71_7 (b o : Nat) : rFA CC 71 7 (.ptr b o) = some (.ptr b (o + 7)) := of_eq (by kernel_rfl)
@[simp] theorem fa71_8 (b o : Nat) : rFA CC 71 8 (.ptr b o) = some (.ptr b (o + 11)) := of_eq (by kernel_rfl)
@[simp] theorem fa71_9 (b o : Nat) : rFA CC 71 9 (.ptr b o) = some (.ptr b (o + 12)) := of_eq (by kernel_rfl)
@[simp] theorem fa81_2 (b o : Nat) : rFA CC 81 2 (.ptr b o) = some (.ptr b (o + 16)) := of_eq (by kernel_rfl)
@[simp] theorem fa85_0 (b o : Nat) : rFA CC 85 0 (.ptr b o) = some (.ptr b (o + 0)) := of_eq (by kernel_rfl)
@[simp] theorem fa85_1 (b o : Nat) : rFA CC 85 1 (.ptr b o) = some (.ptr b (o + 1)) := of_eq (by kernel_rfl)
@[simp] theorem fa87_0 (b o : Nat) : rFA CC 87 0 (.ptr b o) = some (.ptr b (o + 0)) := of_eq (by kernel_rfl)
@[simp] theorem fa98_0 (b o : Nat) : rFA CC 98 0 (.ptr b o) = some (.ptr b (o + 0)) := of_eq (by kernel_rfl)
@[simp] theorem fa98_1 (b o : Nat) : rFA CC 98 1 (.ptr b o) = some (.ptr b (o + 1)) := of_eq (by kernel_rfl)
@[simp] theorem fa98_2 (b o : Nat) : rFA CC 98 2 (.ptr b o) = some (.ptr b (o + 2)) := of_eq (by kernel_rfl)
@[simp] theorem fa98_3 (b o : Nat) : rFA CC 98 3 (.ptr b o) = some (.ptr b (o + 3)) := of_eq (by kernel_rfl)
@[simp] theorem fv209_1 (r : Rope V) : rF CC 209 1 (.agg r) = r.get 1 := of_eq (by kernel_rfl)
@[simp] theorem ix122 (b o l c : Nat) (p : Bool) (i : V) : indexAddr CC 122 (.slice b o l c p) i = (asNat i).bind fun k => bif Nat.blt k l then some (.ptr b (o + k * 1)) else none := of_eq (by kernel_rfl)
@[simp] theorem ix169 (b o l c : Nat) (p : Bool) (i : V) : indexAddr CC 169 (.slice b o l c p) i = (asNat i).bind fun k => bif Nat.blt k l then some (.ptr b (o + k * 2)) else none := of_eq (by kernel_rfl)
@[simp] theorem ix22 (b o l c : Nat) (p : Bool) (i : V) : indexAddr CC 22 (.slice b o l c p) i = (asNat i).bind fun k => bif Nat.blt k l then some (.ptr b (o + k * 13)) else none := of_eq (by kernel_rfl)
@[simp] theorem ix23 (b o l c : Nat) (p : Bool) (i : V) : indexAddr CC 23 (.slice b o l c p) i = (asNat i).bind fun k => bif Nat.blt k l then some (.ptr b (o + k * 1)) else none := of_eq (by kernel_rfl)
@[simp] theorem ix24 (b o l c : Nat) (p : Bool) (i : V) : indexAddr CC 24 (.slice b o l c p) i = (asNat i).bind fun k => bif Nat.blt k l then some (.ptr b (o + k * 1)) else none := of_eq (by kernel_rfl)
@[simp] theorem ix36 (b o : Nat) (i : V) : indexAddr CC 36 (.ptr b o) i = (asNat i).bind fun k => bif Nat.blt k 8 then some (.ptr b (o + k * 1)) else none := of_eq (by kernel_rfl)
@[simp] theorem ix39 (b o : Nat) (i : V) : indexAddr CC 39 (.ptr b o) i = (asNat i).bind fun k => bif Nat.blt k 64 then some (.ptr b (o + k * 12)) else none := of_eq (by kernel_rfl)
@[simp] theorem ix77 (b o l c : Nat) (p : Bool) (i : V) : indexAddr CC 77 (.slice b o l c p) i = (asNat i).bind fun k => bif Nat.blt k l then some (.ptr b (o + k * 29)) else none := of_eq (by kernel_rfl)
@[simp] theorem ix95 (b o l c : Nat) (p : Bool) (i : V) : indexAddr CC 95 (.slice b o l c p) i = (asNat i).bind fun k => bif Nat.blt k l then some (.ptr b (o + k * 1)) else none := of_eq (by kernel_rfl)
@[simp] theorem ld115 (h : Heap) (b o : Nat) : rLoad CC 115 h (.ptr b o) = (cellsAt h b).bind fun c => c.1.get o := of_eq (by kernel_rfl)
@[simp] theorem ld121 (h : Heap) (b o : Nat) : rLoad CC 121 h (.ptr b o) = (cellsAt h b).bind fun c => c.1.get o := of_eq (by kernel_rfl)
@[simp] theorem ld122 (h : Heap) (b o : Nat) : rLoad CC 122 h (.ptr b o) = (cellsAt h b).bind fun c => c.1.get o := of_eq (by kernel_rfl)
@[simp] theorem ld127 (h : Heap) (b o : Nat) : rLoad CC 127 h (.ptr b o) = (cellsAt h b).bind fun c => c.1.get o := of_eq (by kernel_rfl)
@[simp] theorem ld136 (h : Heap) (b o : Nat) : rLoad CC 136 h (.ptr b o) = (cellsAt h b).bind fun c => bif Nat.ble (o + 5) c.1.size then some (.agg (c.1.ext o 5)) else none := of_eq (by kernel_rfl)
@[simp] theorem ld169 (h : Heap) (b o : Nat) : rLoad CC 169 h (.ptr b o) = (cellsAt h b).bind fun c => c.1.get o := of_eq (by kernel_rfl)
@[simp] theorem ld175 (h : Heap) (b o : Nat) : rLoad CC 175 h (.ptr b o) = (cellsAt h b).bind fun c => c.1.get o := of_eq (by kernel_rfl)
@[simp] theorem ld177 (h : Heap) (b o : Nat) : rLoad CC 177 h (.ptr b o) = (cellsAt h b).bind fun c => bif Nat.ble (o + 3) c.1.size then some (.agg (c.1.ext o 3)) else none := of_eq (by kernel_rfl)
@[simp] theorem ld20 (h : Heap) (b o : Nat) : rLoad CC 20 h (.ptr b o) = (cellsAt h b).bind fun c => c.1.get o := of_eq (by kernel_rfl)
@[simp] theorem ld209 (h : Heap) (b o : Nat) : rLoad CC 209 h (.ptr b o) = (cellsAt h b).bind fun c => bif Nat.ble (o + 2) c.1.size then some (.agg (c.1.ext o 2)) else none := of_eq (by kernel_rfl)
@[simp] theorem ld22 (h : Heap) (b o : Nat) : rLoad CC 22 h (.ptr b o) = (cellsAt h b).bind fun c => c.1.get o := of_eq (by kernel_rfl)
@[simp] theorem ld23 (h : Heap) (b o : Nat) : rLoad CC 23 h (.ptr b o) = (cellsAt h b).bind fun c => c.1.get o := of_eq (by kernel_rfl)
@[simp] theorem ld24 (h : Heap) (b o : Nat) : rLoad CC 24 h (.ptr b o) = (cellsAt h b).bind fun c => c.1.get o := of_eq (by kernel_rfl)
@[simp] theorem ld25 (h : Heap) (b o : Nat) : rLoad CC 25 h (.ptr b o) = (cellsAt h b).bind fun c => c.1.get o := of_eq (by kernel_rfl)
@[simp] theorem ld27 (h : Heap) (b o : Nat) : rLoad CC 27 h (.ptr b o) = (cellsAt h b).bind fun c => bif Nat.ble (o + 3) c.1.size then some (.agg (c.1.ext o 3)) else none := of_eq (by kernel_rfl)
@[simp] theorem ld29 (h : Heap) (b o : Nat) : rLoad CC 29 h (.ptr b o) = (cellsAt h b).bind fun c => bif Nat.ble (o + 8) c.1.size then some (.agg (c.1.ext o 8)) else none := of_eq (by kernel_rfl)
@[simp] theorem ld3 (h : Heap) (b o : Nat) : rLoad CC 3 h (.ptr b o) = (cellsAt h b).bind fun c => c.1.get o := of_eq (by kernel_rfl)
@[simp] theorem ld31 (h : Heap) (b o : Nat) : rLoad CC 31 h (.ptr b o) = (cellsAt h b).bind fun c => bif Nat.ble (o + 5) c.1.size then some (.agg (c.1.ext o 5)) else none := of_eq (by kernel_rfl)
@[simp] theorem ld34 (h : Heap) (b o : Nat) : rLoad CC 34 h (.ptr b o) = (cellsAt h b).bind fun c => bif Nat.ble (o + 15) c.1.size then some (.agg (c.1.ext o 15)) else none := of_eq (by kernel_rfl)
@[simp] theorem ld4 (h : Heap) (b o : Nat) : rLoad CC 4 h (.ptr b o) = (cellsAt h b).bind fun c => c.1.get o := of_eq (by kernel_rfl)
@[simp] theorem ld41 (h : Heap) (b o : Nat) : rLoad CC 41 h (.ptr b o) = (cellsAt h b).bind fun c => bif Nat.ble (o + 804) c.1.size then some (.agg (c.1.ext o 804)) else none := of_eq (by kernel_rfl)
@[simp] theorem ld49 (h : Heap) (b o : Nat) : rLoad CC 49 h (.ptr b o) = (cellsAt h b).bind fun c => c.1.get o := of_eq (by kernel_rfl)
@[simp] theorem ld5 (h : Heap) (b o : Nat) : rLoad CC 5 h (.ptr b o) = (cellsAt h b).bind fun c => c.1.get o := of_eq (by kernel_rfl)
@[simp] theorem ld50 (h : Heap) (b o : Nat) : rLoad CC 50 h (.ptr b o) = (cellsAt h b).bind fun c => c.1.get o := of_eq (by kernel_rfl)
@[simp] theorem ld56 (h : Heap) (b o : Nat) : rLoad CC 56 h (.ptr b o) = (cellsAt h b).bind fun c => bif Nat.ble (o + 3) c.1.size then some (.agg (c.1.ext o 3)) else none := of_eq (by kernel_rfl)
@[simp] theorem ld69 (h : Heap) (b o : Nat) : rLoad CC 69 h (.ptr b o) = (cellsAt h b).bind fun c => bif Nat.ble (o + 4) c.1.size then some (.agg (c.1.ext o 4)) else none := of_eq (by kernel_rfl)
@[simp] theorem ld71 (h : Heap) (b o : Nat) : rLoad CC 71 h (.ptr b o) = (cellsAt h b).bind fun c => bif Nat.ble (o + 13) c.1.size then some (.agg (c.1.ext o 13)) else none := of_eq (by kernel_rfl)
@[simp] theorem ld73 (h : Heap) (b o : Nat) : rLoad CC 73 h (.ptr b o) = (cellsAt h b).bind fun c => c.1.get o := of_eq (by kernel_rfl)
@[simp] theorem ld9 (h : Heap) (b o : Nat) : rLoad CC 9 h (.ptr b o) = (cellsAt h b).bind fun c => c.1.get o := of_eq (by kernel_rfl)
@[simp] theorem ld93 (h : Heap) (b o : Nat) : rLoad CC 93 h (.ptr b o) = (cellsAt h b).bind fun c => c.1.get o := of_eq (by kernel_rfl)
@[simp] theorem ld95 (h : Heap) (b o : Nat) : rLoad CC 95 h (.ptr b o) = (cellsAt h b).bind fun c => c.1.get o := of_eq (by kernel_rfl)
@[simp] theorem ld96 (h : Heap) (b o : Nat) : rLoad CC 96 h (.ptr b o) = (cellsAt h b).bind fun c => c.1.get o := of_eq (by kernel_rfl)
@[simp] theorem len122 (h : Heap) (b o l c : Nat) (p : Bool) : lenV CC h 122 (.slice b o l c p) = some (.s (.int .i64 (l : Int))) := of_eq (by kernel_rfl)
@[simp] theorem len169 (h : Heap) (b o l c : Nat) (p : Bool) : lenV CC h 169 (.slice b o l c p) = some (.s (.int .i64 (l : Int))) := of_eq (by kernel_rfl)
@[simp] theorem len22 (h : Heap) (b o l c : Nat) (p : Bool) : lenV CC h 22 (.slice b o l c p) = some (.s (.int .i64 (l : Int))) := of_eq (by kernel_rfl)
@[simp] theorem len23 (h : Heap) (b o l c : Nat) (p : Bool) : lenV CC h 23 (.slice b o l c p) = some (.s (.int .i64 (l : Int))) := of_eq (by kernel_rfl)
@[simp] theorem len24 (h : Heap) (b o l c : Nat) (p : Bool) : lenV CC h 24 (.slice b o l c p) = some (.s (.int .i64 (l : Int))) := of_eq (by kernel_rfl)
@[simp] theorem len77 (h : Heap) (b o l c : Nat) (p : Bool) : lenV CC h 77 (.slice b o l c p) = some (.s (.int .i64 (l : Int))) := of_eq (by kernel_rfl)
@[simp] theorem len95 (h : Heap) (b o l c : Nat) (p : Bool) : lenV CC h 95 (.slice b o l c p) = some (.s (.int .i64 (l : Int))) := of_eq (by kernel_rfl)
@[simp] theorem lenn122 (h : Heap) : lenV CC h 122 (.s (.slice none 0 0)) = some (.s (.int .i64 0)) := of_eq (by kernel_rfl)
@[simp] theorem lenn169 (h : Heap) : lenV CC h 169 (.s (.slice none 0 0)) = some (.s (.int .i64 0)) := of_eq (by kernel_rfl)
@[simp] theorem lenn22 (h : Heap) : lenV CC h 22 (.s (.slice none 0 0)) = some (.s (.int .i64 0)) := of_eq (by kernel_rfl)
@[simp] theorem lenn23 (h : Heap) : lenV CC h 23 (.s (.slice none 0 0)) = some (.s (.int .i64 0)) := of_eq (by kernel_rfl)
@[simp] theorem lenn24 (h : Heap) : lenV CC h 24 (.s (.slice none 0 0)) = some (.s (.int .i64 0)) := of_eq (by kernel_rfl)
@[simp] theorem lenn77 (h : Heap) : lenV CC h 77 (.s (.slice none 0 0)) = some (.s (.int .i64 0)) := of_eq (by kernel_rfl)
@[simp] theorem lenn95 (h : Heap) : lenV CC h 95 (.s (.slice none 0 0)) = some (.s (.int .i64 0)) := of_eq (by kernel_rfl)
@[simp] theorem lk115 (h : Heap) (m k : V) (ok : Bool) : lookup CC h 115 m k ok = lookupW (.int .i64) (zv CC 173) h m k ok := of_eq (by kernel_rfl)
@[simp] theorem max3 (a b : Int) : rMax CC #[3, 3] 3 [.s (.int .i64 a), .s (.int .i64 b)] = some (.s (.int .i64 (maxW a b))) := of_eq (by kernel_rfl)
@[simp] theorem min3 (a b : Int) : rMin CC #[3, 3] 3 [.s (.int .i64 a), .s (.int .i64 b)] = some (.s (.int .i64 (minW a b))) := of_eq (by kernel_rfl)
@[simp] theorem mu115 (h : Heap) (b : Nat) (k v : V) : mapUpdate CC h 115 (.map b) k v = mapUpdateW (.int .i64) h b k v := of_eq (by kernel_rfl)
@[simp] theorem sl169 (b o l c : Nat) (p : Bool) (lo hi mx : Option V) : sliceOp CC 169 (.slice b o l c p) lo hi mx = (bounds l c lo hi mx).bind fun q => some (.slice b (o + q.1 * 2) (q.2.1 - q.1) (q.2.2 - q.1) (p && mx.isNone)) := of_eq (by kernel_rfl)
@[simp] theorem sl23 (b o l c : Nat) (p : Bool) (lo hi mx : Option V) : sliceOp CC 23 (.slice b o l c p) lo hi mx = (bounds l c lo hi mx).bind fun q => some (.slice b (o + q.1 * 1) (q.2.1 - q.1) (q.2.2 - q.1) (p && mx.isNone)) := of_eq (by kernel_rfl)
@[simp] theorem sl36 (b o : Nat) (lo hi mx : Option V) : sliceOp CC 36 (.ptr b o) lo hi mx = (bounds 8 8 lo hi mx).bind fun q => some (.slice b (o + q.1 * 1) (q.2.1 - q.1) (q.2.2 - q.1) false) := of_eq (by kernel_rfl)
@[simp] theorem sln169 (lo hi mx : Option V) : sliceOp CC 169 (.s (.slice none 0 0)) lo hi mx = (bounds 0 0 lo hi mx).bind fun _ => some (.s (.slice none 0 0)) := of_eq (by kernel_rfl)
@[simp] theorem sln23 (lo hi mx : Option V) : sliceOp CC 23 (.s (.slice none 0 0)) lo hi mx = (bounds 0 0 lo hi mx).bind fun _ => some (.s (.slice none 0 0)) := of_eq (by kernel_rfl)
@[simp] theorem sto122 (h : Heap) (b o : Nat) (v : V) : store CC h 122 b o v = v.cells.bind fun cs => bif Nat.beq cs.size 1 then storeCells h b o cs else none := of_eq (by kernel_rfl)
@[simp] theorem sto169 (h : Heap) (b o : Nat) (v : V) : store CC h 169 b o v = v.cells.bind fun cs => bif Nat.beq cs.size 1 then storeCells h b o cs else none := of_eq (by kernel_rfl)
@[simp] theorem sto177 (h : Heap) (b o : Nat) (v : V) : store CC h 177 b o v = v.cells.bind fun cs => bif Nat.beq cs.size 3 then storeCells h b o cs else none := of_eq (by kernel_rfl)
@[simp] theorem sto20 (h : Heap) (b o : Nat) (v : V) : store CC h 20 b o v = v.cells.bind fun cs => bif Nat.beq cs.size 1 then storeCells h b o cs else none := of_eq (by kernel_rfl)
@[simp] theorem sto209 (h : Heap) (b o : Nat) (v : V) : store CC h 209 b o v = v.cells.bind fun cs => bif Nat.beq cs.size 2 then storeCells h b o cs else none := of_eq (by kernel_rfl)
@[simp] theorem sto23 (h : Heap) (b o : Nat) (v : V) : store CC h 23 b o v = v.cells.bind fun cs => bif Nat.beq cs.size 1 then storeCells h b o cs else none := of_eq (by kernel_rfl)
@[simp] theorem sto24 (h : Heap) (b o : Nat) (v : V) : store CC h 24 b o v = v.cells.bind fun cs => bif Nat.beq cs.size 1 then storeCells h b o cs else none := of_eq (by kernel_rfl)
@[simp] theorem sto3 (h : Heap) (b o : Nat) (v : V) : store CC h 3 b o v = v.cells.bind fun cs => bif Nat.beq cs.size 1 then storeCells h b o cs else none := of_eq (by kernel_rfl)
@[simp] theorem sto38 (h : Heap) (b o : Nat) (v : V) : store CC h 38 b o v = v.cells.bind fun cs => bif Nat.beq cs.size 12 then storeCells h b o cs else none := of_eq (by kernel_rfl)
@[simp] theorem sto4 (h : Heap) (b o : Nat) (v : V) : store CC h 4 b o v = v.cells.bind fun cs => bif Nat.beq cs.size 1 then storeCells h b o cs else none := of_eq (by kernel_rfl)
@[simp] theorem sto41 (h : Heap) (b o : Nat) (v : V) : store CC h 41 b o v = v.cells.bind fun cs => bif Nat.beq cs.size 804 then storeCells h b o cs else none := of_eq (by kernel_rfl)
@[simp] theorem sto5 (h : Heap) (b o : Nat) (v : V) : store CC h 5 b o v = v.cells.bind fun cs => bif Nat.beq cs.size 1 then storeCells h b o cs else none := of_eq (by kernel_rfl)
@[simp] theorem sto56 (h : Heap) (b o : Nat) (v : V) : store CC h 56 b o v = v.cells.bind fun cs => bif Nat.beq cs.size 3 then storeCells h b o cs else none := of_eq (by kernel_rfl)
@[simp] theorem sto95 (h : Heap) (b o : Nat) (v : V) : store CC h 95 b o v = v.cells.bind fun cs => bif Nat.beq cs.size 1 then storeCells h b o cs else none := of_eq (by kernel_rfl)
@[simp] theorem sto96 (h : Heap) (b o : Nat) (v : V) : store CC h 96 b o v = v.cells.bind fun cs => bif Nat.beq cs.size 1 then storeCells h b o cs else none := of_eq (by kernel_rfl)
@[simp] theorem x133 : CC.X.get 133 = some false := of_eq (by kernel_rfl)
@[simp] theorem x136 : CC.X.get 136 = some false := of_eq (by kernel_rfl)
@[simp] theorem z117 : (zr CC 117).toList = [.s (.map none), .s (.int .i64 0)] := of_eq (by kernel_rfl)
@[simp] theorem z121 : zr CC 121 = .one (.s (.pointer none)) := of_eq (by kernel_rfl)
@[simp] theorem z124 : (zr CC 124).toList = [.s (.int .i64 0), .s (.int .i64 0), .s (.int .i64 0), .s (.int .i64 0), .s .nilIface, .s (.slice none 0 0)] := of_eq (by kernel_rfl)
@[simp] theorem z136 : (zr CC 136).toList = [.s (.int .i64 0), .s (.int .i64 0), .s (.int .i64 0), .s (.int .i64 0), .s (.slice none 0 0)] := of_eq (by kernel_rfl)
@[simp] theorem z164 : (zr CC 164).toList = [.s (.slice none 0 0)] := of_eq (by kernel_rfl)
@[simp] theorem z168 : (zr CC 168).toList = [.s (.int .i64 0), .s (.int .i64 0), .s (.int .i64 0), .s (.slice none 0 0), .s (.slice none 0 0), .s (.slice none 0 0)] := of_eq (by kernel_rfl)
@[simp] theorem z171 : (zr CC 171).toList = [.s (.int .i64 0), .s (.int .i64 0), .s (.slice none 0 0)] := of_eq (by kernel_rfl)
@[simp] theorem z173 : zr CC 173 = .one (.s (.pointer none)) := of_eq (by kernel_rfl)
@[simp] theorem z177 : (zr CC 177).toList = [.s (.complex .f64 0 0), .s (.int .i64 0), .s (.int .i64 0)] := of_eq (by kernel_rfl)
@[simp] theorem z179 : (zr CC 179).toList = [.s (.slice none 0 0), .s (.int .i64 0), .s (.complex .f64 0 0), .s (.int .i64 0), .s (.int .i64 0), .s (.bool false)] := of_eq (by kernel_rfl)
@[simp] theorem z209 : (zr CC 209).toList = [.s (.string ⟨#[]⟩), .s (.int .i64 0)] := of_eq (by kernel_rfl)
@[simp] theorem z27 : (zr CC 27).toList = [.s (.int .i64 0), .s (.int .u64 0), .s (.int .i64 0)] := of_eq (by kernel_rfl)
@[simp] theorem z3 : zr CC 3 = .one (.s (.int .i64 0)) := of_eq (by kernel_rfl)
@[simp] theorem z35 : (zr CC 35).toList = [.s (.int .i64 0), .s (.int .u64 0), .s (.int .i64 0), .s (.int .i64 0), .s (.int .u64 0), .s (.int .i64 0), .s (.int .i64 0), .s (.int .u64 0), .s (.int .i64 0), .s (.int .i64 0), .s (.int .u64 0), .s (.int .i64 0), .s (.int .i64 0), .s (.int .u64 0), .s (.int .i64 0), .s (.int .i64 0), .s (.int .u64 0), .s (.int .i64 0), .s (.int .i64 0), .s (.int .u64 0), .s (.int .i64 0), .s (.int .i64 0), .s (.int .u64 0), .s (.int .i64 0), .s (.int .i64 0), .s (.int .u64 0), .s (.int .i64 0), .s (.int .i64 0), .s (.int .u64 0), .s (.int .i64 0), .s (.int .i64 0), .s (.int .u64 0), .s (.int .i64 0)] := of_eq (by kernel_rfl)
@[simp] theorem z36 : (zr CC 36).toList = [.s (.int .u8 0), .s (.int .u8 0), .s (.int .u8 0), .s (.int .u8 0), .s (.int .u8 0), .s (.int .u8 0), .s (.int .u8 0), .s (.int .u8 0)] := of_eq (by kernel_rfl)
@[simp] theorem z38 : (zr CC 38).toList = [.s (.int .i64 0), .s (.int .u64 0), .s (.int .i64 0), .s (.int .u8 0), .s (.int .u8 0), .s (.int .u8 0), .s (.int .u8 0), .s (.int .u8 0), .s (.int .u8 0), .s (.int .u8 0), .s (.int .u8 0), .s (.int .u8 0)] := of_eq (by kernel_rfl)
@[simp] theorem z5 : zr CC 5 = .one (.s (.int .u8 0)) := of_eq (by kernel_rfl)
@[simp] theorem z52 : (zr CC 52).toList = [.s (.pointer none), .s (.pointer none), .s (.int .u64 0), .s (.pointer none)] := of_eq (by kernel_rfl)
@[simp] theorem z56 : (zr CC 56).toList = [.s (.int .i64 0), .s (.int .i64 0), .s (.int .u64 0)] := of_eq (by kernel_rfl)
@[simp] theorem z73 : zr CC 73 = .one (.s (.int .u32 0)) := of_eq (by kernel_rfl)
@[simp] theorem z85 : (zr CC 85).toList = [.s (.slice none 0 0), .s (.int .i64 0)] := of_eq (by kernel_rfl)
@[simp] theorem z87 : (zr CC 87).toList = [.s (.slice none 0 0)] := of_eq (by kernel_rfl)
@[simp] theorem z92 : (zr CC 92).toList = [.s (.pointer none), .s (.int .i64 0), .s (.int .i64 0), .s (.int .i64 0), .s (.int .i64 0), .s (.int .i64 0), .s (.pointer none)] := of_eq (by kernel_rfl)
@[simp] theorem z98 : (zr CC 98).toList = [.s (.pointer none), .s (.slice none 0 0), .s (.int .i64 0), .s (.slice none 0 0)] := of_eq (by kernel_rfl)
@[simp] theorem zlen41 : (zr CC 41).toList.length = 804 := of_eq (by kernel_rfl)
@[simp] theorem bd117 (ps : List (Nat × V)) : normO (build CC 117 ps) = bOr (fillL [(0, 1), (1, 1)] (zr CC 117).toList ps) (bFall CC 117 ps) := by
  refine bd_of fun l hl => ?_
  refine @build_struct CC 117 ((Ev.ty CC 117).get!) (zr CC 117) [(0, 1), (1, 1)] ?_ ?_ ?_ ?_ (zr CC 117).toList (Eq.refl _) ps l hl
  · kernel_rfl
  · kernel_rfl
  · kernel_rfl
  · kernel_rfl
@[simp] theorem bd124 (ps : List (Nat × V)) : normO (build CC 124 ps) = bOr (fillL [(0, 4), (4, 1), (5, 1)] (zr CC 124).toList ps) (bFall CC 124 ps) := by
  refine bd_of fun l hl => ?_
  refine @build_struct CC 124 ((Ev.ty CC 124).get!) (zr CC 124) [(0, 4), (4, 1), (5, 1)] ?_ ?_ ?_ ?_ (zr CC 124).toList (Eq.refl _) ps l hl
  · kernel_rfl
  · kernel_rfl
  · kernel_rfl
  · kernel_rfl
@[simp] theorem bd136 (ps : List (Nat × V)) : normO (build CC 136 ps) = bOr (fillL [(0, 1), (1, 1), (2, 1), (3, 1), (4, 1)] (zr CC 136).toList ps) (bFall CC 136 ps) := by
  refine bd_of fun l hl => ?_
  refine @build_struct CC 136 ((Ev.ty CC 136).get!) (zr CC 136) [(0, 1), (1, 1), (2, 1), (3, 1), (4, 1)] ?_ ?_ ?_ ?_ (zr CC 136).toList (Eq.refl _) ps l hl
  · kernel_rfl
  · kernel_rfl
  · kernel_rfl
  · kernel_rfl
@[simp] theorem bd164 (ps : List (Nat × V)) : normO (build CC 164 ps) = bOr (fillL [(0, 1)] (zr CC 164).toList ps) (bFall CC 164 ps) := by
  refine bd_of fun l hl => ?_
  refine @build_struct CC 164 ((Ev.ty CC 164).get!) (zr CC 164) [(0, 1)] ?_ ?_ ?_ ?_ (zr CC 164).toList (Eq.refl _) ps l hl
  · kernel_rfl
  · kernel_rfl
  · kernel_rfl
  · kernel_rfl
@[simp] theorem bd168 (ps : List (Nat × V)) : normO (build CC 168 ps) = bOr (fillL [(0, 1), (1, 1), (2, 1), (3, 1), (4, 1), (5, 1)] (zr CC 168).toList ps) (bFall CC 168 ps) := by
  refine bd_of fun l hl => ?_
  refine @build_struct CC 168 ((Ev.ty CC 168).get!) (zr CC 168) [(0, 1), (1, 1), (2, 1), (3, 1), (4, 1), (5, 1)] ?_ ?_ ?_ ?_ (zr CC 168).toList (Eq.refl _) ps l hl
  · kernel_rfl
  · kernel_rfl
  · kernel_rfl
  · kernel_rfl
@[simp] theorem bd171 (ps : List (Nat × V)) : normO (build CC 171 ps) = bOr (fillL [(0, 1), (1, 1), (2, 1)] (zr CC 171).toList ps) (bFall CC 171 ps) := by
  refine bd_of fun l hl => ?_
  refine @build_struct CC 171 ((Ev.ty CC 171).get!) (zr CC 171) [(0, 1), (1, 1), (2, 1)] ?_ ?_ ?_ ?_ (zr CC 171).toList (Eq.refl _) ps l hl
  · kernel_rfl
  · kernel_rfl
  · kernel_rfl
  · kernel_rfl
@[simp] theorem bd177 (ps : List (Nat × V)) : normO (build CC 177 ps) = bOr (fillL [(0, 1), (1, 1), (2, 1)] (zr CC 177).toList ps) (bFall CC 177 ps) := by
  refine bd_of fun l hl => ?_
  refine @build_struct CC 177 ((Ev.ty CC 177).get!) (zr CC 177) [(0, 1), (1, 1), (2, 1)] ?_ ?_ ?_ ?_ (zr CC 177).toList (Eq.refl _) ps l hl
  · kernel_rfl
  · kernel_rfl
  · kernel_rfl
  · kernel_rfl
@[simp] theorem bd179 (ps : List (Nat × V)) : normO (build CC 179 ps) = bOr (fillL [(0, 1), (1, 1), (2, 3), (5, 1)] (zr CC 179).toList ps) (bFall CC 179 ps) := by
  refine bd_of fun l hl => ?_
  refine @build_struct CC 179 ((Ev.ty CC 179).get!) (zr CC 179) [(0, 1), (1, 1), (2, 3), (5, 1)] ?_ ?_ ?_ ?_ (zr CC 179).toList (Eq.refl _) ps l hl
  · kernel_rfl
  · kernel_rfl
  · kernel_rfl
  · kernel_rfl
@[simp] theorem bd209 (ps : List (Nat × V)) : normO (build CC 209 ps) = bOr (fillL [(0, 1), (1, 1)] (zr CC 209).toList ps) (bFall CC 209 ps) := by
  refine bd_of fun l hl => ?_
  refine @build_struct CC 209 ((Ev.ty CC 209).get!) (zr CC 209) [(0, 1), (1, 1)] ?_ ?_ ?_ ?_ (zr CC 209).toList (Eq.refl _) ps l hl
  · kernel_rfl
  · kernel_rfl
  · kernel_rfl
  · kernel_rfl
@[simp] theorem bd27 (ps : List (Nat × V)) : normO (build CC 27 ps) = bOr (fillL [(0, 1), (1, 1), (2, 1)] (zr CC 27).toList ps) (bFall CC 27 ps) := by
  refine bd_of fun l hl => ?_
  refine @build_struct CC 27 ((Ev.ty CC 27).get!) (zr CC 27) [(0, 1), (1, 1), (2, 1)] ?_ ?_ ?_ ?_ (zr CC 27).toList (Eq.refl _) ps l hl
  · kernel_rfl
  · kernel_rfl
  · kernel_rfl
  · kernel_rfl
@[simp] theorem bd35 (ps : List (Nat × V)) : normO (build CC 35 ps) = bOr (fillL [(0, 3), (3, 3), (6, 3), (9, 3), (12, 3), (15, 3), (18, 3), (21, 3), (24, 3), (27, 3), (30, 3)] (zr CC 35).toList ps) (bFall CC 35 ps) := by
  refine bd_of fun l hl => ?_
  refine @build_array CC 35 ((Ev.ty CC 35).get!) (zr CC 35) [(0, 3), (3, 3), (6, 3), (9, 3), (12, 3), (15, 3), (18, 3), (21, 3), (24, 3), (27, 3), (30, 3)] ?_ 3 ?_ ?_ ?_ ?_ (zr CC 35).toList (Eq.refl _) ps l hl
  · kernel_rfl
  · kernel_rfl
  · kernel_rfl
  · kernel_rfl
  · kernel_rfl
@[simp] theorem bd38 (ps : List (Nat × V)) : normO (build CC 38 ps) = bOr (fillL [(0, 3), (3, 8), (11, 1)] (zr CC 38).toList ps) (bFall CC 38 ps) := by
  refine bd_of fun l hl => ?_
  refine @build_struct CC 38 ((Ev.ty CC 38).get!) (zr CC 38) [(0, 3), (3, 8), (11, 1)] ?_ ?_ ?_ ?_ (zr CC 38).toList (Eq.refl _) ps l hl
  · kernel_rfl
  · kernel_rfl
  · kernel_rfl
  · kernel_rfl
@[simp] theorem bd41 (ps : List (Nat × V)) : normO (build CC 41 ps) = bOr (fillL [(0, 1), (1, 1), (2, 1), (3, 33), (36, 768)] (zr CC 41).toList ps) (bFall CC 41 ps) := by
  refine bd_of fun l hl => ?_
  refine @build_struct CC 41 ((Ev.ty CC 41).get!) (zr CC 41) [(0, 1), (1, 1), (2, 1), (3, 33), (36, 768)] ?_ ?_ ?_ ?_ (zr CC 41).toList (Eq.refl _) ps l hl
  · kernel_rfl
  · kernel_rfl
  · kernel_rfl
  · kernel_rfl
@[simp] theorem bd52 (ps : List (Nat × V)) : normO (build CC 52 ps) = bOr (fillL [(0, 1), (1, 1), (2, 1), (3, 1)] (zr CC 52).toList ps) (bFall CC 52 ps) := by
  refine bd_of fun l hl => ?_
  refine @build_struct CC 52 ((Ev.ty CC 52).get!) (zr CC 52) [(0, 1), (1, 1), (2, 1), (3, 1)] ?_ ?_ ?_ ?_ (zr CC 52).toList (Eq.refl _) ps l hl
  · kernel_rfl
  · kernel_rfl
  · kernel_rfl
  · kernel_rfl
@[simp] theorem bd56 (ps : List (Nat × V)) : normO (build CC 56 ps) = bOr (fillL [(0, 1), (1, 1), (2, 1)] (zr CC 56).toList ps) (bFall CC 56 ps) := by
  refine bd_of fun l hl => ?_
  refine @build_struct CC 56 ((Ev.ty CC 56).get!) (zr CC 56) [(0, 1), (1, 1), (2, 1)] ?_ ?_ ?_ ?_ (zr CC 56).toList (Eq.refl _) ps l hl
  · kernel_rfl
  · kernel_rfl
  · kernel_rfl
  · kernel_rfl
@[simp] theorem bd85 (ps : List (Nat × V)) : normO (build CC 85 ps) = bOr (fillL [(0, 1), (1, 1)] (zr CC 85).toList ps) (bFall CC 85 ps) := by
  refine bd_of fun l hl => ?_
  refine @build_struct CC 85 ((Ev.ty CC 85).get!) (zr CC 85) [(0, 1), (1, 1)] ?_ ?_ ?_ ?_ (zr CC 85).toList (Eq.refl _) ps l hl
  · kernel_rfl
  · kernel_rfl
  · kernel_rfl
  · kernel_rfl
@[simp] theorem bd87 (ps : List (Nat × V)) : normO (build CC 87 ps) = bOr (fillL [(0, 1)] (zr CC 87).toList ps) (bFall CC 87 ps) := by
  refine bd_of fun l hl => ?_
  refine @build_struct CC 87 ((Ev.ty CC 87).get!) (zr CC 87) [(0, 1)] ?_ ?_ ?_ ?_ (zr CC 87).toList (Eq.refl _) ps l hl
  · kernel_rfl
  · kernel_rfl
  · kernel_rfl
  · kernel_rfl
@[simp] theorem bd92 (ps : List (Nat × V)) : normO (build CC 92 ps) = bOr (fillL [(0, 1), (1, 5), (6, 1)] (zr CC 92).toList ps) (bFall CC 92 ps) := by
  refine bd_of fun l hl => ?_
  refine @build_struct CC 92 ((Ev.ty CC 92).get!) (zr CC 92) [(0, 1), (1, 5), (6, 1)] ?_ ?_ ?_ ?_ (zr CC 92).toList (Eq.refl _) ps l hl
  · kernel_rfl
  · kernel_rfl
  · kernel_rfl
  · kernel_rfl
@[simp] theorem bd98 (ps : List (Nat × V)) : normO (build CC 98 ps) = bOr (fillL [(0, 1), (1, 1), (2, 1), (3, 1)] (zr CC 98).toList ps) (bFall CC 98 ps) := by
  refine bd_of fun l hl => ?_
  refine @build_struct CC 98 ((Ev.ty CC 98).get!) (zr CC 98) [(0, 1), (1, 1), (2, 1), (3, 1)] ?_ ?_ ?_ ?_ (zr CC 98).toList (Eq.refl _) ps l hl
  · kernel_rfl
  · kernel_rfl
  · kernel_rfl
  · kernel_rfl
theorem fk121_1_z : ((Rope.one (V.s (.pointer none))).rep 1).toList = (List.replicate 1 (Rope.one (V.s (.pointer none))).toList).flatten := by kernel_rfl
@[simp] theorem fk121_1 (ps : List (Nat × V)) (K : List V → Prop) : fillK 1 ((Rope.one (V.s (.pointer none))).rep 1) ps K = fillLK (fillL [(0, 1)] (List.replicate 1 (Rope.one (V.s (.pointer none))).toList).flatten ps) K (fillKF 1 ((Rope.one (V.s (.pointer none))).rep 1) ps K) :=
  fillK_eq (offs := [(0, 1)]) (fun k p hk => by have := offsAB_spec (show offsAB 1 0 [(0, 1)] = true by kernel_rfl) k p hk; simpa using this) (by kernel_rfl) fk121_1_z ps K
theorem fk136_1_z : ((zr CC 136).rep 1).toList = (List.replicate 1 (zr CC 136).toList).flatten := by kernel_rfl
@[simp] theorem fk136_1 (ps : List (Nat × V)) (K : List V → Prop) : fillK 5 ((zr CC 136).rep 1) ps K = fillLK (fillL [(0, 5)] (List.replicate 1 (zr CC 136).toList).flatten ps) K (fillKF 5 ((zr CC 136).rep 1) ps K) :=
  fillK_eq (offs := [(0, 5)]) (fun k p hk => by have := offsAB_spec (show offsAB 5 0 [(0, 5)] = true by kernel_rfl) k p hk; simpa using this) (by kernel_rfl) fk136_1_z ps K
theorem fk209_1_z : ((zr CC 209).rep 1).toList = (List.replicate 1 (zr CC 209).toList).flatten := by kernel_rfl
@[simp] theorem fk209_1 (ps : List (Nat × V)) (K : List V → Prop) : fillK 2 ((zr CC 209).rep 1) ps K = fillLK (fillL [(0, 2)] (List.replicate 1 (zr CC 209).toList).flatten ps) K (fillKF 2 ((zr CC 209).rep 1) ps K) :=
  fillK_eq (offs := [(0, 2)]) (fun k p hk => by have := offsAB_spec (show offsAB 2 0 [(0, 2)] = true by kernel_rfl) k p hk; simpa using this) (by kernel_rfl) fk209_1_z ps K
theorem fk3_1_z : ((Rope.one (V.s (.int .i64 0))).rep 1).toList = (List.replicate 1 (Rope.one (V.s (.int .i64 0))).toList).flatten := by kernel_rfl
@[simp] theorem fk3_1 (ps : List (Nat × V)) (K : List V → Prop) : fillK 1 ((Rope.one (V.s (.int .i64 0))).rep 1) ps K = fillLK (fillL [(0, 1)] (List.replicate 1 (Rope.one (V.s (.int .i64 0))).toList).flatten ps) K (fillKF 1 ((Rope.one (V.s (.int .i64 0))).rep 1) ps K) :=
  fillK_eq (offs := [(0, 1)]) (fun k p hk => by have := offsAB_spec (show offsAB 1 0 [(0, 1)] = true by kernel_rfl) k p hk; simpa using this) (by kernel_rfl) fk3_1_z ps K
theorem fk3_4_z : ((Rope.one (V.s (.int .i64 0))).rep 4).toList = (List.replicate 4 (Rope.one (V.s (.int .i64 0))).toList).flatten := by kernel_rfl
@[simp] theorem fk3_4 (ps : List (Nat × V)) (K : List V → Prop) : fillK 1 ((Rope.one (V.s (.int .i64 0))).rep 4) ps K = fillLK (fillL [(0, 1), (1, 1), (2, 1), (3, 1)] (List.replicate 4 (Rope.one (V.s (.int .i64 0))).toList).flatten ps) K (fillKF 1 ((Rope.one (V.s (.int .i64 0))).rep 4) ps K) :=
  fillK_eq (offs := [(0, 1), (1, 1), (2, 1), (3, 1)]) (fun k p hk => by have := offsAB_spec (show offsAB 1 0 [(0, 1), (1, 1), (2, 1), (3, 1)] = true by kernel_rfl) k p hk; simpa using this) (by kernel_rfl) fk3_4_z ps K
theorem fk5_0_z : ((Rope.one (V.s (.int .u8 0))).rep 0).toList = (List.replicate 0 (Rope.one (V.s (.int .u8 0))).toList).flatten := by kernel_rfl
@[simp] theorem fk5_0 (ps : List (Nat × V)) (K : List V → Prop) : fillK 1 ((Rope.one (V.s (.int .u8 0))).rep 0) ps K = fillLK (fillL [] (List.replicate 0 (Rope.one (V.s (.int .u8 0))).toList).flatten ps) K (fillKF 1 ((Rope.one (V.s (.int .u8 0))).rep 0) ps K) :=
  fillK_eq (offs := []) (fun k p hk => by have := offsAB_spec (show offsAB 1 0 [] = true by kernel_rfl) k p hk; simpa using this) (by kernel_rfl) fk5_0_z ps K
theorem fk5_1_z : ((Rope.one (V.s (.int .u8 0))).rep 1).toList = (List.replicate 1 (Rope.one (V.s (.int .u8 0))).toList).flatten := by kernel_rfl
@[simp] theorem fk5_1 (ps : List (Nat × V)) (K : List V → Prop) : fillK 1 ((Rope.one (V.s (.int .u8 0))).rep 1) ps K = fillLK (fillL [(0, 1)] (List.replicate 1 (Rope.one (V.s (.int .u8 0))).toList).flatten ps) K (fillKF 1 ((Rope.one (V.s (.int .u8 0))).rep 1) ps K) :=
  fillK_eq (offs := [(0, 1)]) (fun k p hk => by have := offsAB_spec (show offsAB 1 0 [(0, 1)] = true by kernel_rfl) k p hk; simpa using this) (by kernel_rfl) fk5_1_z ps K
theorem fk73_1_z : ((Rope.one (V.s (.int .u32 0))).rep 1).toList = (List.replicate 1 (Rope.one (V.s (.int .u32 0))).toList).flatten := by kernel_rfl
@[simp] theorem fk73_1 (ps : List (Nat × V)) (K : List V → Prop) : fillK 1 ((Rope.one (V.s (.int .u32 0))).rep 1) ps K = fillLK (fillL [(0, 1)] (List.replicate 1 (Rope.one (V.s (.int .u32 0))).toList).flatten ps) K (fillKF 1 ((Rope.one (V.s (.int .u32 0))).rep 1) ps K) :=
  fillK_eq (offs := [(0, 1)]) (fun k p hk => by have := offsAB_spec (show offsAB 1 0 [(0, 1)] = true by kernel_rfl) k p hk; simpa using this) (by kernel_rfl) fk73_1_z ps K
/-! F3 lockgate/lockgatelaw23.IrNothing -/
theorem F3 : CC.F.get 3 = some Go.Proofs.Tryz.f3 := by kernel_rfl
theorem F3_eq (t0 t1 t2 : V) (h : Heap) (n : Nat) (K : V → Heap → Nat → Prop) : Wp CC (bodyOf Go.Proofs.Tryz.f3) ⟨initTm Go.Proofs.Tryz.f3 [t0, t1, t2], h, n, []⟩ (retW CC Go.Proofs.Tryz.f3 K) = (
oK (V.cells t0) fun c1 =>
let h2 := h.set n (.cells (.lst c1.toList) 8); let n3 := n + 1;
oK (V.cells t1) fun c4 =>
let h5 := h2.set n3 (.cells (.lst c4.toList) 15); let n6 := n3 + 1;
oK (V.cells t2) fun c7 =>
let h8 := h5.set n6 (.cells (.lst c7.toList) 804); let n9 := n6 + 1;
oK (normO (rLoad CC 29 h8 (.ptr n 0))) fun v10 =>
CallK CC 4 [v10] h8 n9 fun v11 h12 n13 =>
oK (rExt v11 0) fun v14 =>
oK (rExt v11 1) fun v15 =>
oK (normO (rLoad CC 29 h12 (.ptr n 0))) fun v16 =>
CallK CC 5 [v16, (.s (.slice none 0 0))] h12 n13 fun v17 h18 n19 =>
oK (bif (rWant false v17) then some v14 else some undefV) fun v20 =>
oK (bif (rWant false v17) then binop CC .eql 42 true v20 (.s (.pointer none)) else some undefV) fun v21 =>
oK (rPick v17 (.s (.bool true)) v21) fun v22 =>
oK (bif (rWant false v22) then rFA CC 34 0 (.ptr n3 0) else some undefV) fun v23 =>
oK (bif (rWant false v22) then normO (rLoad CC 3 h18 v23) else some undefV) fun v24 =>
oK (bif (rWant false v22) then binop CC .eql 3 true v24 (.s (.int .i64 1)) else some undefV) fun v25 =>
oK (rPick v22 (.s (.bool true)) v25) fun v26 =>
oK (asBool v26) fun b27 => bif b27 then (
CallK CC 6 [] h18 n19 fun v28 h29 n30 =>
K v28 h29 n30) else (
oK (normO (rLoad CC 41 h18 (.ptr n6 0))) fun v31 =>
let h32 := h18.set n19 (.cells (.lst (zr CC 41).toList) 804); let n33 := n19 + 1;
oK (asPtr (.ptr n19 0)) fun p34 => oK (store CC h32 41 p34.1 p34.2 v31) fun h35 =>
oK (rNil v14) fun v36 =>
oK (rFA CC 52 1 v36) fun v37 =>
oK (normO (rLoad CC 49 h35 v37)) fun v38 =>
CallK CC 7 [v38] h35 n33 fun v39 h40 n41 =>
oK (rNil v14) fun v42 =>
oK (rFA CC 52 3 v42) fun v43 =>
oK (normO (rLoad CC 50 h40 v43)) fun v44 =>
CallK CC 8 [v44] h40 n41 fun v45 h46 n47 =>
oK (normO (rLoad CC 34 h46 (.ptr n3 0))) fun v48 =>
CallK CC 9 [v14, v48, (.ptr n19 0)] h46 n47 fun v49 h50 n51 =>
oK (rExt v49 0) fun v52 =>
oK (rExt v49 1) fun v53 =>
let h54 := h50.set n51 (.cells (.lst (zr CC 56).toList) 3); let n55 := n51 + 1;
oK (asPtr (.ptr n51 0)) fun p56 => oK (store CC h54 56 p56.1 p56.2 v52) fun h57 =>
oK (normO (rLoad CC 56 h57 (.ptr n51 0))) fun v58 =>
oK (normO (build CC 56 [])) fun v59 =>
oK (binop CC .eql 56 false v58 v59) fun v60 =>
oK (bif (rWant true v60) then some v53 else some undefV) fun v61 =>
oK (bif (rWant true v60) then rUn CC .not v61 else some undefV) fun v62 =>
oK (rPick v60 v62 (.s (.bool false))) fun v63 =>
oK (bif (rWant true v63) then normO (rLoad CC 41 h57 (.ptr n6 0)) else some undefV) fun v64 =>
oK (bif (rWant true v63) then normO (rLoad CC 41 h57 (.ptr n19 0)) else some undefV) fun v65 =>
oK (bif (rWant true v63) then binop CC .eql 41 false v64 v65 else some undefV) fun v66 =>
oK (rPick v63 v66 (.s (.bool false))) fun v67 =>
oK (bif (rWant true v67) then some v39 else some undefV) fun v68 =>
oK (bif (rWant true v67) then some v14 else some undefV) fun v69 =>
oK (bif (rWant true v67) then rNil v69 else some undefV) fun v70 =>
oK (bif (rWant true v67) then rFA CC 52 1 v70 else some undefV) fun v71 =>
oK (bif (rWant true v67) then normO (rLoad CC 49 h57 v71) else some undefV) fun v72 =>
let k73 := fun (v74 : V) (h75 : Heap) (n76 : Nat) => (
let k77 := fun (v78 : V) (h79 : Heap) (n80 : Nat) => (
oK (rPick v67 v78 (.s (.bool false))) fun v81 =>
oK (bif (rWant true v81) then some v14 else some undefV) fun v82 =>
oK (bif (rWant true v81) then rNil v82 else some undefV) fun v83 =>
oK (bif (rWant true v81) then rFA CC 52 3 v83 else some undefV) fun v84 =>
oK (bif (rWant true v81) then normO (rLoad CC 50 h79 v84) else some undefV) fun v85 =>
let k86 := fun (v87 : V) (h88 : Heap) (n89 : Nat) => (
oK (bif (rWant true v81) then some v45 else some undefV) fun v90 =>
oK (bif (rWant true v81) then binop CC .eql 3 false v87 v90 else some undefV) fun v91 =>
oK (rPick v81 v91 (.s (.bool false))) fun v92 =>
let k93 := fun (v94 : V) (h95 : Heap) (n96 : Nat) => (
oK (rPick v92 v94 (.s (.bool false))) fun v97 =>
K v97 h95 n96);
bif (rWant true v92) then (CallK CC 6 [] h88 n89 fun v98 h99 n100 =>
k93 v98 h99 n100) else k93 undefV h88 n89);
bif (rWant true v81) then (CallK CC 8 [v85] h79 n80 fun v101 h102 n103 =>
k86 v101 h102 n103) else k86 undefV h79 n80);
bif (rWant true v67) then (CallK CC 10 [v68, v74] h75 n76 fun v104 h105 n106 =>
k77 v104 h105 n106) else k77 undefV h75 n76);
bif (rWant true v67) then (CallK CC 7 [v72] h57 n55 fun v107 h108 n109 =>
k73 v107 h108 n109) else k73 undefV h57 n55)) := Wp.eq_of (by kernel_rfl)
theorem F3_call {t0 t1 t2 : V} {h : Heap} {n : Nat} {K : V → Heap → Nat → Prop} (H : (∀ b o, h.get b = some o → b < n) → Wp CC (bodyOf Go.Proofs.Tryz.f3) ⟨initTm Go.Proofs.Tryz.f3 [t0, t1, t2], h, n, []⟩ (retW CC Go.Proofs.Tryz.f3 K)) : CallK CC 3 [t0, t1, t2] h n K := by
  have := @callK_of CC CCok 3 Go.Proofs.Tryz.f3 (bodyOf Go.Proofs.Tryz.f3) [t0, t1, t2] h n K F3
  refine this ?_ ?_ ?_
  · kernel_rfl
  · kernel_rfl
  · exact H

/-! F4 lockgate/lockgatelaw16.Begin -/
theorem F4 : CC.F.get 4 = some Go.Proofs.Tryz.f4 := by kernel_rfl
theorem F4_eq (t0 : V) (h : Heap) (n : Nat) (K : V → Heap → Nat → Prop) : Wp CC (bodyOf Go.Proofs.Tryz.f4) ⟨initTm Go.Proofs.Tryz.f4 [t0], h, n, []⟩ (retW CC Go.Proofs.Tryz.f4 K) = (
oK (V.cells t0) fun c1 =>
let h2 := h.set n (.cells (.lst c1.toList) 8); let n3 := n + 1;
oK (rFA CC 29 1 (.ptr n 0)) fun v4 =>
oK (normO (rLoad CC 23 h2 v4)) fun v5 =>
CallK CC 11 [v5] h2 n3 fun v6 h7 n8 =>
oK (rExt v6 0) fun v9 =>
oK (rExt v6 1) fun v10 =>
CallK CC 12 [] h7 n8 fun v11 h12 n13 =>
CallK CC 13 [] h12 n13 fun v14 h15 n16 =>
oK (binop CC .neq 61 true v10 (.s (.int .i64 0))) fun v17 =>
oK (bif (rWant false v17) then some v9 else some undefV) fun v18 =>
oK (bif (rWant false v17) then binop CC .eql 49 true v18 (.s (.pointer none)) else some undefV) fun v19 =>
oK (rPick v17 (.s (.bool true)) v19) fun v20 =>
oK (bif (rWant false v20) then some v11 else some undefV) fun v21 =>
oK (bif (rWant false v20) then binop CC .eql 48 true v21 (.s (.pointer none)) else some undefV) fun v22 =>
oK (rPick v20 (.s (.bool true)) v22) fun v23 =>
oK (bif (rWant false v23) then some v14 else some undefV) fun v24 =>
oK (bif (rWant false v23) then binop CC .eql 50 true v24 (.s (.pointer none)) else some undefV) fun v25 =>
oK (rPick v23 (.s (.bool true)) v25) fun v26 =>
oK (asBool v26) fun b27 => bif b27 then (
K (.tup [(.s (.pointer none)), (.s (.pointer none))]) h15 n16) else (
LoopK CC none (subC [1, 1, 1, 1, 1, 0, 1, 0, 0] (bodyOf Go.Proofs.Tryz.f4)) ⟨mkTm [t0, (.ptr n 0), (.s (.pointer none)), (.s (.pointer none)), v9, v10, v11, v14, (.s (.int .i64 0)), undefV, undefV, v6, v4, v5, v6, v9, v10, v11, v14, v10, v17, v17, v18, v19, v20, v20, v21, v22, v23, v23, v24, v25, v26, undefV, undefV, undefV, undefV, undefV, undefV, undefV, undefV, undefV, undefV, undefV, undefV, undefV, undefV, undefV, undefV, undefV, undefV, undefV, undefV, undefV, undefV, undefV, undefV, undefV, undefV, undefV, undefV, undefV, undefV, undefV, undefV, undefV, undefV, undefV, undefV, undefV, undefV, undefV, undefV, undefV, undefV, undefV, undefV, undefV, undefV], h15, n16, []⟩ (resume CC none [.blk 0, .sq (subC [1, 1, 1, 1, 1, 1] (bodyOf Go.Proofs.Tryz.f4))] (retW CC Go.Proofs.Tryz.f4 K)))) := Wp.eq_of (by kernel_rfl)
theorem F4_call {t0 : V} {h : Heap} {n : Nat} {K : V → Heap → Nat → Prop} (H : (∀ b o, h.get b = some o → b < n) → Wp CC (bodyOf Go.Proofs.Tryz.f4) ⟨initTm Go.Proofs.Tryz.f4 [t0], h, n, []⟩ (retW CC Go.Proofs.Tryz.f4 K)) : CallK CC 4 [t0] h n K := by
  have := @callK_of CC CCok 4 Go.Proofs.Tryz.f4 (bodyOf Go.Proofs.Tryz.f4) [t0] h n K F4
  refine this ?_ ?_ ?_
  · kernel_rfl
  · kernel_rfl
  · exact H

def F4_L111110100 (t1 t4 t6 t7 t8 : V) (h : Heap) (n : Nat) (s : St) : Prop := ∃ f : Nat → V, s = ⟨mkTm [(f 0), t1, (f 2), (f 3), t4, (f 5), t6, t7, t8, (f 9), (f 10), (f 11), (f 12), (f 13), (f 14), (f 15), (f 16), (f 17), (f 18), (f 19), (f 20), (f 21), (f 22), (f 23), (f 24), (f 25), (f 26), (f 27), (f 28), (f 29), (f 30), (f 31), (f 32), (f 33), (f 34), (f 35), (f 36), (f 37), (f 38), (f 39), (f 40), (f 41), (f 42), (f 43), (f 44), (f 45), (f 46), (f 47), (f 48), (f 49), (f 50), (f 51), (f 52), (f 53), (f 54), (f 55), (f 56), (f 57), (f 58), (f 59), (f 60), (f 61), (f 62), (f 63), (f 64), (f 65), (f 66), (f 67), (f 68), (f 69), (f 70), (f 71), (f 72), (f 73), (f 74), (f 75), (f 76), (f 77), (f 78)], h, n, []⟩
theorem F4_L111110100_of {t1 t4 t6 t7 t8 : V} {t0 t2 t3 t5 t9 t10 t11 t12 t13 t14 t15 t16 t17 t18 t19 t20 t21 t22 t23 t24 t25 t26 t27 t28 t29 t30 t31 t32 t33 t34 t35 t36 t37 t38 t39 t40 t41 t42 t43 t44 t45 t46 t47 t48 t49 t50 t51 t52 t53 t54 t55 t56 t57 t58 t59 t60 t61 t62 t63 t64 t65 t66 t67 t68 t69 t70 t71 t72 t73 t74 t75 t76 t77 t78 : V} {h : Heap} {n : Nat} : F4_L111110100 t1 t4 t6 t7 t8 h n ⟨mkTm [t0, t1, t2, t3, t4, t5, t6, t7, t8, t9, t10, t11, t12, t13, t14, t15, t16, t17, t18, t19, t20, t21, t22, t23, t24, t25, t26, t27, t28, t29, t30, t31, t32, t33, t34, t35, t36, t37, t38, t39, t40, t41, t42, t43, t44, t45, t46, t47, t48, t49, t50, t51, t52, t53, t54, t55, t56, t57, t58, t59, t60, t61, t62, t63, t64, t65, t66, t67, t68, t69, t70, t71, t72, t73, t74, t75, t76, t77, t78], h, n, []⟩ :=
  ⟨fun i => ([t0, t1, t2, t3, t4, t5, t6, t7, t8, t9, t10, t11, t12, t13, t14, t15, t16, t17, t18, t19, t20, t21, t22, t23, t24, t25, t26, t27, t28, t29, t30, t31, t32, t33, t34, t35, t36, t37, t38, t39, t40, t41, t42, t43, t44, t45, t46, t47, t48, t49, t50, t51, t52, t53, t54, t55, t56, t57, t58, t59, t60, t61, t62, t63, t64, t65, t66, t67, t68, t69, t70, t71, t72, t73, t74, t75, t76, t77, t78] : List V).getD i undefV, by kernel_rfl⟩
theorem F4_L111110100_elim {t1 t4 t6 t7 t8 : V} {h : Heap} {n : Nat} {s : St} {P : St → Prop} (hs : F4_L111110100 t1 t4 t6 t7 t8 h n s) (H : ∀ t0 t2 t3 t5 t9 t10 t11 t12 t13 t14 t15 t16 t17 t18 t19 t20 t21 t22 t23 t24 t25 t26 t27 t28 t29 t30 t31 t32 t33 t34 t35 t36 t37 t38 t39 t40 t41 t42 t43 t44 t45 t46 t47 t48 t49 t50 t51 t52 t53 t54 t55 t56 t57 t58 t59 t60 t61 t62 t63 t64 t65 t66 t67 t68 t69 t70 t71 t72 t73 t74 t75 t76 t77 t78 : V, P ⟨mkTm [t0, t1, t2, t3, t4, t5, t6, t7, t8, t9, t10, t11, t12, t13, t14, t15, t16, t17, t18, t19, t20, t21, t22, t23, t24, t25, t26, t27, t28, t29, t30, t31, t32, t33, t34, t35, t36, t37, t38, t39, t40, t41, t42, t43, t44, t45, t46, t47, t48, t49, t50, t51, t52, t53, t54, t55, t56, t57, t58, t59, t60, t61, t62, t63, t64, t65, t66, t67, t68, t69, t70, t71, t72, t73, t74, t75, t76, t77, t78], h, n, []⟩) : P s := by
  obtain ⟨f, rfl⟩ := hs
  exact H (f 0) (f 2) (f 3) (f 5) (f 9) (f 10) (f 11) (f 12) (f 13) (f 14) (f 15) (f 16) (f 17) (f 18) (f 19) (f 20) (f 21) (f 22) (f 23) (f 24) (f 25) (f 26) (f 27) (f 28) (f 29) (f 30) (f 31) (f 32) (f 33) (f 34) (f 35) (f 36) (f 37) (f 38) (f 39) (f 40) (f 41) (f 42) (f 43) (f 44) (f 45) (f 46) (f 47) (f 48) (f 49) (f 50) (f 51) (f 52) (f 53) (f 54) (f 55) (f 56) (f 57) (f 58) (f 59) (f 60) (f 61) (f 62) (f 63) (f 64) (f 65) (f 66) (f 67) (f 68) (f 69) (f 70) (f 71) (f 72) (f 73) (f 74) (f 75) (f 76) (f 77) (f 78)

theorem F4_b111110100 (t0 t1 t2 t3 t4 t5 t6 t7 t8 t9 t10 t11 t12 t13 t14 t15 t16 t17 t18 t19 t20 t21 t22 t23 t24 t25 t26 t27 t28 t29 t30 t31 t32 t33 t34 t35 t36 t37 t38 t39 t40 t41 t42 t43 t44 t45 t46 t47 t48 t49 t50 t51 t52 t53 t54 t55 t56 t57 t58 t59 t60 t61 t62 t63 t64 t65 t66 t67 t68 t69 t70 t71 t72 t73 t74 t75 t76 t77 t78 : V) (h : Heap) (n : Nat) (Q : X → St → Prop) : Wp CC (subC [1, 1, 1, 1, 1, 0, 1, 0, 0] (bodyOf Go.Proofs.Tryz.f4)) ⟨mkTm [t0, t1, t2, t3, t4, t5, t6, t7, t8, t9, t10, t11, t12, t13, t14, t15, t16, t17, t18, t19, t20, t21, t22, t23, t24, t25, t26, t27, t28, t29, t30, t31, t32, t33, t34, t35, t36, t37, t38, t39, t40, t41, t42, t43, t44, t45, t46, t47, t48, t49, t50, t51, t52, t53, t54, t55, t56, t57, t58, t59, t60, t61, t62, t63, t64, t65, t66, t67, t68, t69, t70, t71, t72, t73, t74, t75, t76, t77, t78], h, n, []⟩ Q = (
oK (rFA CC 29 0 t1) fun v28 =>
oK (normO (rLoad CC 22 h v28)) fun v29 =>
oK (lenV CC h 22 v29) fun v30 =>
oK (binop CC .lss 3 false t8 v30) fun v31 =>
oK (asBool v31) fun b32 => bif b32 then (
oK (rFA CC 29 0 t1) fun v33 =>
oK (normO (rLoad CC 22 h v33)) fun v34 =>
oK (indexAddr CC 22 v34 t8) fun v35 =>
oK (normO (rLoad CC 71 h v35)) fun v36 =>
CallK CC 14 [t6, v36] h n fun v37 h38 n39 =>
oK (binop CC .add 3 true t8 (.s (.int .i64 1))) fun v40 =>
Q .normal ⟨mkTm [t0, t1, t2, t3, t4, t5, t6, t7, v40, t9, t10, t11, t12, t13, t14, t15, t16, t17, t18, t19, t20, t21, t22, t23, t24, t25, t26, t27, t28, t29, t30, t31, t32, t8, v28, v29, v30, v31, t8, v40, t6, v33, v34, t8, v35, v36, v37, t47, t48, t49, t50, t51, t52, t53, t54, t55, t56, t57, t58, t59, t60, t61, t62, t63, t64, t65, t66, t67, t68, t69, t70, t71, t72, t73, t74, t75, t76, t77, t78], h38, n39, []⟩) else (
Q (.exit 0) ⟨mkTm [t0, t1, t2, t3, t4, t5, t6, t7, t8, t9, t10, t11, t12, t13, t14, t15, t16, t17, t18, t19, t20, t21, t22, t23, t24, t25, t26, t27, t28, t29, t30, t31, t32, t8, v28, v29, v30, v31, t38, t39, t40, t41, t42, t43, t44, t45, t46, t47, t48, t49, t50, t51, t52, t53, t54, t55, t56, t57, t58, t59, t60, t61, t62, t63, t64, t65, t66, t67, t68, t69, t70, t71, t72, t73, t74, t75, t76, t77, t78], h, n, []⟩)) := Wp.eq_of (by kernel_rfl)

theorem F4_r111110100_0 (t0 t1 t2 t3 t4 t5 t6 t7 t8 t9 t10 t11 t12 t13 t14 t15 t16 t17 t18 t19 t20 t21 t22 t23 t24 t25 t26 t27 t28 t29 t30 t31 t32 t33 t34 t35 t36 t37 t38 t39 t40 t41 t42 t43 t44 t45 t46 t47 t48 t49 t50 t51 t52 t53 t54 t55 t56 t57 t58 t59 t60 t61 t62 t63 t64 t65 t66 t67 t68 t69 t70 t71 t72 t73 t74 t75 t76 t77 t78 : V) (h : Heap) (n : Nat) (K : V → Heap → Nat → Prop) : resume CC none [.blk 0, .sq (subC [1, 1, 1, 1, 1, 1] (bodyOf Go.Proofs.Tryz.f4))] (retW CC Go.Proofs.Tryz.f4 K) (.exit 0) ⟨mkTm [t0, t1, t2, t3, t4, t5, t6, t7, t8, t9, t10, t11, t12, t13, t14, t15, t16, t17, t18, t19, t20, t21, t22, t23, t24, t25, t26, t27, t28, t29, t30, t31, t32, t33, t34, t35, t36, t37, t38, t39, t40, t41, t42, t43, t44, t45, t46, t47, t48, t49, t50, t51, t52, t53, t54, t55, t56, t57, t58, t59, t60, t61, t62, t63, t64, t65, t66, t67, t68, t69, t70, t71, t72, t73, t74, t75, t76, t77, t78], h, n, []⟩ = (
LoopK CC none (subC [1, 1, 1, 1, 1, 1, 0, 1, 0, 0] (bodyOf Go.Proofs.Tryz.f4)) ⟨mkTm [t0, t1, t2, t3, t4, t5, t6, t7, t8, (.s (.int .i64 0)), t10, t11, t12, t13, t14, t15, t16, t17, t18, t19, t20, t21, t22, t23, t24, t25, t26, t27, t28, t29, t30, t31, t32, t33, t34, t35, t36, t37, t38, t39, t40, t41, t42, t43, t44, t45, t46, t47, t48, t49, t50, t51, t52, t53, t54, t55, t56, t57, t58, t59, t60, t61, t62, t63, t64, t65, t66, t67, t68, t69, t70, t71, t72, t73, t74, t75, t76, t77, t78], h, n, []⟩ (resume CC none [.blk 2, .sq (subC [1, 1, 1, 1, 1, 1, 1] (bodyOf Go.Proofs.Tryz.f4))] (retW CC Go.Proofs.Tryz.f4 K))) := by kernel_rfl

def F4_L1111110100 (t1 t4 t6 t7 t9 : V) (h : Heap) (n : Nat) (s : St) : Prop := ∃ f : Nat → V, s = ⟨mkTm [(f 0), t1, (f 2), (f 3), t4, (f 5), t6, t7, (f 8), t9, (f 10), (f 11), (f 12), (f 13), (f 14), (f 15), (f 16), (f 17), (f 18), (f 19), (f 20), (f 21), (f 22), (f 23), (f 24), (f 25), (f 26), (f 27), (f 28), (f 29), (f 30), (f 31), (f 32), (f 33), (f 34), (f 35), (f 36), (f 37), (f 38), (f 39), (f 40), (f 41), (f 42), (f 43), (f 44), (f 45), (f 46), (f 47), (f 48), (f 49), (f 50), (f 51), (f 52), (f 53), (f 54), (f 55), (f 56), (f 57), (f 58), (f 59), (f 60), (f 61), (f 62), (f 63), (f 64), (f 65), (f 66), (f 67), (f 68), (f 69), (f 70), (f 71), (f 72), (f 73), (f 74), (f 75), (f 76), (f 77), (f 78)], h, n, []⟩
theorem F4_L1111110100_of {t1 t4 t6 t7 t9 : V} {t0 t2 t3 t5 t8 t10 t11 t12 t13 t14 t15 t16 t17 t18 t19 t20 t21 t22 t23 t24 t25 t26 t27 t28 t29 t30 t31 t32 t33 t34 t35 t36 t37 t38 t39 t40 t41 t42 t43 t44 t45 t46 t47 t48 t49 t50 t51 t52 t53 t54 t55 t56 t57 t58 t59 t60 t61 t62 t63 t64 t65 t66 t67 t68 t69 t70 t71 t72 t73 t74 t75 t76 t77 t78 : V} {h : Heap} {n : Nat} : F4_L1111110100 t1 t4 t6 t7 t9 h n ⟨mkTm [t0, t1, t2, t3, t4, t5, t6, t7, t8, t9, t10, t11, t12, t13, t14, t15, t16, t17, t18, t19, t20, t21, t22, t23, t24, t25, t26, t27, t28, t29, t30, t31, t32, t33, t34, t35, t36, t37, t38, t39, t40, t41, t42, t43, t44, t45, t46, t47, t48, t49, t50, t51, t52, t53, t54, t55, t56, t57, t58, t59, t60, t61, t62, t63, t64, t65, t66, t67, t68, t69, t70, t71, t72, t73, t74, t75, t76, t77, t78], h, n, []⟩ :=
  ⟨fun i => ([t0, t1, t2, t3, t4, t5, t6, t7, t8, t9, t10, t11, t12, t13, t14, t15, t16, t17, t18, t19, t20, t21, t22, t23, t24, t25, t26, t27, t28, t29, t30, t31, t32, t33, t34, t35, t36, t37, t38, t39, t40, t41, t42, t43, t44, t45, t46, t47, t48, t49, t50, t51, t52, t53, t54, t55, t56, t57, t58, t59, t60, t61, t62, t63, t64, t65, t66, t67, t68, t69, t70, t71, t72, t73, t74, t75, t76, t77, t78] : List V).getD i undefV, by kernel_rfl⟩
theorem F4_L1111110100_elim {t1 t4 t6 t7 t9 : V} {h : Heap} {n : Nat} {s : St} {P : St → Prop} (hs : F4_L1111110100 t1 t4 t6 t7 t9 h n s) (H : ∀ t0 t2 t3 t5 t8 t10 t11 t12 t13 t14 t15 t16 t17 t18 t19 t20 t21 t22 t23 t24 t25 t26 t27 t28 t29 t30 t31 t32 t33 t34 t35 t36 t37 t38 t39 t40 t41 t42 t43 t44 t45 t46 t47 t48 t49 t50 t51 t52 t53 t54 t55 t56 t57 t58 t59 t60 t61 t62 t63 t64 t65 t66 t67 t68 t69 t70 t71 t72 t73 t74 t75 t76 t77 t78 : V, P ⟨mkTm [t0, t1, t2, t3, t4, t5, t6, t7, t8, t9, t10, t11, t12, t13, t14, t15, t16, t17, t18, t19, t20, t21, t22, t23, t24, t25, t26, t27, t28, t29, t30, t31, t32, t33, t34, t35, t36, t37, t38, t39, t40, t41, t42, t43, t44, t45, t46, t47, t48, t49, t50, t51, t52, t53, t54, t55, t56, t57, t58, t59, t60, t61, t62, t63, t64, t65, t66, t67, t68, t69, t70, t71, t72, t73, t74, t75, t76, t77, t78], h, n, []⟩) : P s := by
  obtain ⟨f, rfl⟩ := hs
  exact H (f 0) (f 2) (f 3) (f 5) (f 8) (f 10) (f 11) (f 12) (f 13) (f 14) (f 15) (f 16) (f 17) (f 18) (f 19) (f 20) (f 21) (f 22) (f 23) (f 24) (f 25) (f 26) (f 27) (f 28) (f 29) (f 30) (f 31) (f 32) (f 33) (f 34) (f 35) (f 36) (f 37) (f 38) (f 39) (f 40) (f 41) (f 42) (f 43) (f 44) (f 45) (f 46) (f 47) (f 48) (f 49) (f 50) (f 51) (f 52) (f 53) (f 54) (f 55) (f 56) (f 57) (f 58) (f 59) (f 60) (f 61) (f 62) (f 63) (f 64) (f 65) (f 66) (f 67) (f 68) (f 69) (f 70) (f 71) (f 72) (f 73) (f 74) (f 75) (f 76) (f 77) (f 78)

theorem F4_b1111110100 (t0 t1 t2 t3 t4 t5 t6 t7 t8 t9 t10 t11 t12 t13 t14 t15 t16 t17 t18 t19 t20 t21 t22 t23 t24 t25 t26 t27 t28 t29 t30 t31 t32 t33 t34 t35 t36 t37 t38 t39 t40 t41 t42 t43 t44 t45 t46 t47 t48 t49 t50 t51 t52 t53 t54 t55 t56 t57 t58 t59 t60 t61 t62 t63 t64 t65 t66 t67 t68 t69 t70 t71 t72 t73 t74 t75 t76 t77 t78 : V) (h : Heap) (n : Nat) (Q : X → St → Prop) : Wp CC (subC [1, 1, 1, 1, 1, 1, 0, 1, 0, 0] (bodyOf Go.Proofs.Tryz.f4)) ⟨mkTm [t0, t1, t2, t3, t4, t5, t6, t7, t8, t9, t10, t11, t12, t13, t14, t15, t16, t17, t18, t19, t20, t21, t22, t23, t24, t25, t26, t27, t28, t29, t30, t31, t32, t33, t34, t35, t36, t37, t38, t39, t40, t41, t42, t43, t44, t45, t46, t47, t48, t49, t50, t51, t52, t53, t54, t55, t56, t57, t58, t59, t60, t61, t62, t63, t64, t65, t66, t67, t68, t69, t70, t71, t72, t73, t74, t75, t76, t77, t78], h, n, []⟩ Q = (
oK (rFA CC 29 2 t1) fun v41 =>
oK (normO (rLoad CC 24 h v41)) fun v42 =>
oK (lenV CC h 24 v42) fun v43 =>
oK (binop CC .lss 3 false t9 v43) fun v44 =>
oK (asBool v44) fun b45 => bif b45 then (
oK (rFA CC 29 2 t1) fun v46 =>
oK (normO (rLoad CC 24 h v46)) fun v47 =>
oK (indexAddr CC 24 v47 t9) fun v48 =>
oK (normO (rLoad CC 73 h v48)) fun v49 =>
CallK CC 15 [t7, v49] h n fun v50 h51 n52 =>
oK (binop CC .add 3 true t9 (.s (.int .i64 1))) fun v53 =>
Q .normal ⟨mkTm [t0, t1, t2, t3, t4, t5, t6, t7, t8, v53, t10, t11, t12, t13, t14, t15, t16, t17, t18, t19, t20, t21, t22, t23, t24, t25, t26, t27, t28, t29, t30, t31, t32, t33, t34, t35, t36, t37, t38, t39, t40, t41, t42, t43, t44, t45, t46, t9, v41, v42, v43, v44, t9, v53, t7, v46, v47, t9, v48, v49, v50, t61, t62, t63, t64, t65, t66, t67, t68, t69, t70, t71, t72, t73, t74, t75, t76, t77, t78], h51, n52, []⟩) else (
Q (.exit 2) ⟨mkTm [t0, t1, t2, t3, t4, t5, t6, t7, t8, t9, t10, t11, t12, t13, t14, t15, t16, t17, t18, t19, t20, t21, t22, t23, t24, t25, t26, t27, t28, t29, t30, t31, t32, t33, t34, t35, t36, t37, t38, t39, t40, t41, t42, t43, t44, t45, t46, t9, v41, v42, v43, v44, t52, t53, t54, t55, t56, t57, t58, t59, t60, t61, t62, t63, t64, t65, t66, t67, t68, t69, t70, t71, t72, t73, t74, t75, t76, t77, t78], h, n, []⟩)) := Wp.eq_of (by kernel_rfl)

theorem F4_r1111110100_2 (t0 t1 t2 t3 t4 t5 t6 t7 t8 t9 t10 t11 t12 t13 t14 t15 t16 t17 t18 t19 t20 t21 t22 t23 t24 t25 t26 t27 t28 t29 t30 t31 t32 t33 t34 t35 t36 t37 t38 t39 t40 t41 t42 t43 t44 t45 t46 t47 t48 t49 t50 t51 t52 t53 t54 t55 t56 t57 t58 t59 t60 t61 t62 t63 t64 t65 t66 t67 t68 t69 t70 t71 t72 t73 t74 t75 t76 t77 t78 : V) (h : Heap) (n : Nat) (K : V → Heap → Nat → Prop) : resume CC none [.blk 2, .sq (subC [1, 1, 1, 1, 1, 1, 1] (bodyOf Go.Proofs.Tryz.f4))] (retW CC Go.Proofs.Tryz.f4 K) (.exit 2) ⟨mkTm [t0, t1, t2, t3, t4, t5, t6, t7, t8, t9, t10, t11, t12, t13, t14, t15, t16, t17, t18, t19, t20, t21, t22, t23, t24, t25, t26, t27, t28, t29, t30, t31, t32, t33, t34, t35, t36, t37, t38, t39, t40, t41, t42, t43, t44, t45, t46, t47, t48, t49, t50, t51, t52, t53, t54, t55, t56, t57, t58, t59, t60, t61, t62, t63, t64, t65, t66, t67, t68, t69, t70, t71, t72, t73, t74, t75, t76, t77, t78], h, n, []⟩ = (
oK (rFA CC 29 3 t1) fun v54 =>
oK (normO (rLoad CC 3 h v54)) fun v55 =>
CallK CC 16 [(.s (.int .i64 1)), v55] h n fun v56 h57 n58 =>
let h59 := h57.set n58 (.cells (.lst (zr CC 41).toList) 804); let n60 := n58 + 1;
oK (asPtr (.ptr n58 0)) fun p61 => oK (store CC h59 41 p61.1 p61.2 v56) fun h62 =>
oK (rFA CC 29 4 t1) fun v63 =>
oK (normO (rLoad CC 23 h62 v63)) fun v64 =>
CallK CC 17 [(.ptr n58 0), (.s (.int .i64 (-64))), v64] h62 n60 fun v65 h66 n67 =>
oK (rFA CC 29 5 t1) fun v68 =>
oK (rFA CC 27 0 v68) fun v69 =>
oK (normO (rLoad CC 3 h66 v69)) fun v70 =>
oK (binop CC .neq 3 true v70 (.s (.int .i64 0))) fun v71 =>
oK (asBool v71) fun b72 => bif b72 then (
oK (rFA CC 29 5 t1) fun v73 =>
oK (normO (rLoad CC 27 h66 v73)) fun v74 =>
CallK CC 18 [(.ptr n58 0), (.s (.int .i64 (-8))), (.s (.int .i64 8)), v74] h66 n67 fun v75 h76 n77 =>
oK (normO (build CC 52 [(0, t6), (1, t4), (3, t7)])) fun v78 =>
oK (V.cells v78) fun c79 =>
let h80 := h76.set n77 (.cells (.lst c79.toList) 4); let n81 := n77 + 1;
K (.tup [(.ptr n77 0), (.ptr n58 0)]) h80 n81) else (
oK (normO (build CC 52 [(0, t6), (1, t4), (3, t7)])) fun v82 =>
oK (V.cells v82) fun c83 =>
let h84 := h66.set n67 (.cells (.lst c83.toList) 4); let n85 := n67 + 1;
K (.tup [(.ptr n67 0), (.ptr n58 0)]) h84 n85)) := by kernel_rfl

/-! F5 lockgate/lockgatelaw16.Long -/
theorem F5 : CC.F.get 5 = some Go.Proofs.Tryz.f5 := by kernel_rfl
theorem F5_eq (t0 t1 : V) (h : Heap) (n : Nat) (K : V → Heap → Nat → Prop) : Wp CC (bodyOf Go.Proofs.Tryz.f5) ⟨initTm Go.Proofs.Tryz.f5 [t0, t1], h, n, []⟩ (retW CC Go.Proofs.Tryz.f5 K) = (
oK (V.cells t0) fun c1 =>
let h2 := h.set n (.cells (.lst c1.toList) 8); let n3 := n + 1;
oK (rFA CC 29 0 (.ptr n 0)) fun v4 =>
oK (normO (rLoad CC 22 h2 v4)) fun v5 =>
CallK CC 19 [v5] h2 n3 fun v6 h7 n8 =>
oK (bif (rWant false v6) then rFA CC 29 0 (.ptr n 0) else some undefV) fun v9 =>
oK (bif (rWant false v6) then normO (rLoad CC 22 h7 v9) else some undefV) fun v10 =>
oK (bif (rWant false v6) then lenV CC h7 22 v10 else some undefV) fun v11 =>
oK (bif (rWant false v6) then binop CC .gtr 3 true v11 (.s (.int .i64 60)) else some undefV) fun v12 =>
oK (rPick v6 (.s (.bool true)) v12) fun v13 =>
oK (bif (rWant false v13) then rFA CC 29 1 (.ptr n 0) else some undefV) fun v14 =>
oK (bif (rWant false v13) then normO (rLoad CC 23 h7 v14) else some undefV) fun v15 =>
oK (bif (rWant false v13) then lenV CC h7 23 v15 else some undefV) fun v16 =>
oK (bif (rWant false v13) then binop CC .gtr 3 true v16 (.s (.int .i64 4096)) else some undefV) fun v17 =>
oK (rPick v13 (.s (.bool true)) v17) fun v18 =>
oK (bif (rWant false v18) then rFA CC 29 2 (.ptr n 0) else some undefV) fun v19 =>
oK (bif (rWant false v18) then normO (rLoad CC 24 h7 v19) else some undefV) fun v20 =>
oK (bif (rWant false v18) then lenV CC h7 24 v20 else some undefV) fun v21 =>
oK (bif (rWant false v18) then binop CC .gtr 3 true v21 (.s (.int .i64 100)) else some undefV) fun v22 =>
oK (rPick v18 (.s (.bool true)) v22) fun v23 =>
oK (bif (rWant false v23) then rFA CC 29 4 (.ptr n 0) else some undefV) fun v24 =>
oK (bif (rWant false v23) then normO (rLoad CC 23 h7 v24) else some undefV) fun v25 =>
oK (bif (rWant false v23) then lenV CC h7 23 v25 else some undefV) fun v26 =>
oK (bif (rWant false v23) then binop CC .gtr 3 true v26 (.s (.int .i64 64)) else some undefV) fun v27 =>
oK (rPick v23 (.s (.bool true)) v27) fun v28 =>
oK (bif (rWant false v28) then some t1 else some undefV) fun v29 =>
oK (bif (rWant false v28) then lenV CC h7 77 v29 else some undefV) fun v30 =>
oK (bif (rWant false v28) then binop CC .gtr 3 true v30 (.s (.int .i64 60)) else some undefV) fun v31 =>
oK (rPick v28 (.s (.bool true)) v31) fun v32 =>
oK (bif (rWant false v32) then rFA CC 29 5 (.ptr n 0) else some undefV) fun v33 =>
oK (bif (rWant false v32) then rFA CC 27 0 v33 else some undefV) fun v34 =>
oK (bif (rWant false v32) then normO (rLoad CC 3 h7 v34) else some undefV) fun v35 =>
oK (bif (rWant false v32) then binop CC .lss 3 true v35 (.s (.int .i64 0)) else some undefV) fun v36 =>
oK (rPick v32 (.s (.bool true)) v36) fun v37 =>
oK (bif (rWant false v37) then rFA CC 29 5 (.ptr n 0) else some undefV) fun v38 =>
oK (bif (rWant false v37) then rFA CC 27 0 v38 else some undefV) fun v39 =>
oK (bif (rWant false v37) then normO (rLoad CC 3 h7 v39) else some undefV) fun v40 =>
oK (bif (rWant false v37) then binop CC .gtr 3 true v40 (.s (.int .i64 7)) else some undefV) fun v41 =>
oK (rPick v37 (.s (.bool true)) v41) fun v42 =>
oK (asBool v42) fun b43 => bif b43 then (
K (.s (.bool true)) h7 n8) else (
LoopK CC none (subC [1, 1, 0, 1, 0, 0] (bodyOf Go.Proofs.Tryz.f5)) ⟨mkTm [t0, t1, (.ptr n 0), undefV, (.s (.bool false)), (.s (.int .i64 0)), v4, v5, v6, v6, v9, v10, v11, v12, v13, v13, v14, v15, v16, v17, v18, v18, v19, v20, v21, v22, v23, v23, v24, v25, v26, v27, v28, v28, v29, v30, v31, v32, v32, v33, v34, v35, v36, v37, v37, v38, v39, v40, v41, v42, undefV, undefV, undefV, undefV, undefV, undefV, undefV, undefV, undefV, undefV, undefV, undefV, undefV, undefV, undefV, undefV, undefV, undefV, undefV, undefV, undefV, undefV, undefV, undefV], h7, n8, []⟩ (resume CC none [.blk 0, .sq (subC [1, 1, 1] (bodyOf Go.Proofs.Tryz.f5))] (retW CC Go.Proofs.Tryz.f5 K)))) := Wp.eq_of (by kernel_rfl)
theorem F5_call {t0 t1 : V} {h : Heap} {n : Nat} {K : V → Heap → Nat → Prop} (H : (∀ b o, h.get b = some o → b < n) → Wp CC (bodyOf Go.Proofs.Tryz.f5) ⟨initTm Go.Proofs.Tryz.f5 [t0, t1], h, n, []⟩ (retW CC Go.Proofs.Tryz.f5 K)) : CallK CC 5 [t0, t1] h n K := by
  have := @callK_of CC CCok 5 Go.Proofs.Tryz.f5 (bodyOf Go.Proofs.Tryz.f5) [t0, t1] h n K F5
  refine this ?_ ?_ ?_
  · kernel_rfl
  · kernel_rfl
  · exact H

def F5_L110100 (t1 t5 : V) (h : Heap) (n : Nat) (s : St) : Prop := ∃ f : Nat → V, s = ⟨mkTm [(f 0), t1, (f 2), (f 3), (f 4), t5, (f 6), (f 7), (f 8), (f 9), (f 10), (f 11), (f 12), (f 13), (f 14), (f 15), (f 16), (f 17), (f 18), (f 19), (f 20), (f 21), (f 22), (f 23), (f 24), (f 25), (f 26), (f 27), (f 28), (f 29), (f 30), (f 31), (f 32), (f 33), (f 34), (f 35), (f 36), (f 37), (f 38), (f 39), (f 40), (f 41), (f 42), (f 43), (f 44), (f 45), (f 46), (f 47), (f 48), (f 49), (f 50), (f 51), (f 52), (f 53), (f 54), (f 55), (f 56), (f 57), (f 58), (f 59), (f 60), (f 61), (f 62), (f 63), (f 64), (f 65), (f 66), (f 67), (f 68), (f 69), (f 70), (f 71), (f 72), (f 73)], h, n, []⟩
theorem F5_L110100_of {t1 t5 : V} {t0 t2 t3 t4 t6 t7 t8 t9 t10 t11 t12 t13 t14 t15 t16 t17 t18 t19 t20 t21 t22 t23 t24 t25 t26 t27 t28 t29 t30 t31 t32 t33 t34 t35 t36 t37 t38 t39 t40 t41 t42 t43 t44 t45 t46 t47 t48 t49 t50 t51 t52 t53 t54 t55 t56 t57 t58 t59 t60 t61 t62 t63 t64 t65 t66 t67 t68 t69 t70 t71 t72 t73 : V} {h : Heap} {n : Nat} : F5_L110100 t1 t5 h n ⟨mkTm [t0, t1, t2, t3, t4, t5, t6, t7, t8, t9, t10, t11, t12, t13, t14, t15, t16, t17, t18, t19, t20, t21, t22, t23, t24, t25, t26, t27, t28, t29, t30, t31, t32, t33, t34, t35, t36, t37, t38, t39, t40, t41, t42, t43, t44, t45, t46, t47, t48, t49, t50, t51, t52, t53, t54, t55, t56, t57, t58, t59, t60, t61, t62, t63, t64, t65, t66, t67, t68, t69, t70, t71, t72, t73], h, n, []⟩ :=
  ⟨fun i => ([t0, t1, t2, t3, t4, t5, t6, t7, t8, t9, t10, t11, t12, t13, t14, t15, t16, t17, t18, t19, t20, t21, t22, t23, t24, t25, t26, t27, t28, t29, t30, t31, t32, t33, t34, t35, t36, t37, t38, t39, t40, t41, t42, t43, t44, t45, t46, t47, t48, t49, t50, t51, t52, t53, t54, t55, t56, t57, t58, t59, t60, t61, t62, t63, t64, t65, t66, t67, t68, t69, t70, t71, t72, t73] : List V).getD i undefV, by kernel_rfl⟩
theorem F5_L110100_elim {t1 t5 : V} {h : Heap} {n : Nat} {s : St} {P : St → Prop} (hs : F5_L110100 t1 t5 h n s) (H : ∀ t0 t2 t3 t4 t6 t7 t8 t9 t10 t11 t12 t13 t14 t15 t16 t17 t18 t19 t20 t21 t22 t23 t24 t25 t26 t27 t28 t29 t30 t31 t32 t33 t34 t35 t36 t37 t38 t39 t40 t41 t42 t43 t44 t45 t46 t47 t48 t49 t50 t51 t52 t53 t54 t55 t56 t57 t58 t59 t60 t61 t62 t63 t64 t65 t66 t67 t68 t69 t70 t71 t72 t73 : V, P ⟨mkTm [t0, t1, t2, t3, t4, t5, t6, t7, t8, t9, t10, t11, t12, t13, t14, t15, t16, t17, t18, t19, t20, t21, t22, t23, t24, t25, t26, t27, t28, t29, t30, t31, t32, t33, t34, t35, t36, t37, t38, t39, t40, t41, t42, t43, t44, t45, t46, t47, t48, t49, t50, t51, t52, t53, t54, t55, t56, t57, t58, t59, t60, t61, t62, t63, t64, t65, t66, t67, t68, t69, t70, t71, t72, t73], h, n, []⟩) : P s := by
  obtain ⟨f, rfl⟩ := hs
  exact H (f 0) (f 2) (f 3) (f 4) (f 6) (f 7) (f 8) (f 9) (f 10) (f 11) (f 12) (f 13) (f 14) (f 15) (f 16) (f 17) (f 18) (f 19) (f 20) (f 21) (f 22) (f 23) (f 24) (f 25) (f 26) (f 27) (f 28) (f 29) (f 30) (f 31) (f 32) (f 33) (f 34) (f 35) (f 36) (f 37) (f 38) (f 39) (f 40) (f 41) (f 42) (f 43) (f 44) (f 45) (f 46) (f 47) (f 48) (f 49) (f 50) (f 51) (f 52) (f 53) (f 54) (f 55) (f 56) (f 57) (f 58) (f 59) (f 60) (f 61) (f 62) (f 63) (f 64) (f 65) (f 66) (f 67) (f 68) (f 69) (f 70) (f 71) (f 72) (f 73)

theorem F5_b110100 (t0 t1 t2 t3 t4 t5 t6 t7 t8 t9 t10 t11 t12 t13 t14 t15 t16 t17 t18 t19 t20 t21 t22 t23 t24 t25 t26 t27 t28 t29 t30 t31 t32 t33 t34 t35 t36 t37 t38 t39 t40 t41 t42 t43 t44 t45 t46 t47 t48 t49 t50 t51 t52 t53 t54 t55 t56 t57 t58 t59 t60 t61 t62 t63 t64 t65 t66 t67 t68 t69 t70 t71 t72 t73 : V) (h : Heap) (n : Nat) (Q : X → St → Prop) : Wp CC (subC [1, 1, 0, 1, 0, 0] (bodyOf Go.Proofs.Tryz.f5)) ⟨mkTm [t0, t1, t2, t3, t4, t5, t6, t7, t8, t9, t10, t11, t12, t13, t14, t15, t16, t17, t18, t19, t20, t21, t22, t23, t24, t25, t26, t27, t28, t29, t30, t31, t32, t33, t34, t35, t36, t37, t38, t39, t40, t41, t42, t43, t44, t45, t46, t47, t48, t49, t50, t51, t52, t53, t54, t55, t56, t57, t58, t59, t60, t61, t62, t63, t64, t65, t66, t67, t68, t69, t70, t71, t72, t73], h, n, []⟩ Q = (
oK (lenV CC h 77 t1) fun v44 =>
oK (binop CC .lss 3 false t5 v44) fun v45 =>
oK (asBool v45) fun b46 => bif b46 then (
oK (indexAddr CC 77 t1 t5) fun v47 =>
oK (rFA CC 81 2 v47) fun v48 =>
oK (rFA CC 71 8 v48) fun v49 =>
oK (normO (rLoad CC 23 h v49)) fun v50 =>
oK (lenV CC h 23 v50) fun v51 =>
oK (binop CC .gtr 3 true v51 (.s (.int .i64 100))) fun v52 =>
oK (bif (rWant false v52) then some t1 else some undefV) fun v53 =>
oK (bif (rWant false v52) then some t5 else some undefV) fun v54 =>
oK (bif (rWant false v52) then indexAddr CC 77 v53 v54 else some undefV) fun v55 =>
oK (bif (rWant false v52) then rFA CC 81 2 v55 else some undefV) fun v56 =>
oK (bif (rWant false v52) then rFA CC 71 9 v56 else some undefV) fun v57 =>
oK (bif (rWant false v52) then normO (rLoad CC 23 h v57) else some undefV) fun v58 =>
oK (bif (rWant false v52) then lenV CC h 23 v58 else some undefV) fun v59 =>
oK (bif (rWant false v52) then binop CC .gtr 3 true v59 (.s (.int .i64 200)) else some undefV) fun v60 =>
oK (rPick v52 (.s (.bool true)) v60) fun v61 =>
oK (asBool v61) fun b62 => bif b62 then (
Q .ret ⟨mkTm [t0, t1, t2, t3, (.s (.bool true)), t5, t6, t7, t8, t9, t10, t11, t12, t13, t14, t15, t16, t17, t18, t19, t20, t21, t22, t23, t24, t25, t26, t27, t28, t29, t30, t31, t32, t33, t34, t35, t36, t37, t38, t39, t40, t41, t42, t43, t44, t45, t46, t47, t48, t49, t5, t1, v44, v45, t54, t55, t1, t5, v47, v48, v49, v50, v51, v52, v52, v53, v54, v55, v56, v57, v58, v59, v60, v61], h, n, []⟩) else (
oK (binop CC .add 3 true t5 (.s (.int .i64 1))) fun v63 =>
Q .normal ⟨mkTm [t0, t1, t2, t3, t4, v63, t6, t7, t8, t9, t10, t11, t12, t13, t14, t15, t16, t17, t18, t19, t20, t21, t22, t23, t24, t25, t26, t27, t28, t29, t30, t31, t32, t33, t34, t35, t36, t37, t38, t39, t40, t41, t42, t43, t44, t45, t46, t47, t48, t49, t5, t1, v44, v45, t5, v63, t1, t5, v47, v48, v49, v50, v51, v52, v52, v53, v54, v55, v56, v57, v58, v59, v60, v61], h, n, []⟩)) else (
Q (.exit 0) ⟨mkTm [t0, t1, t2, t3, t4, t5, t6, t7, t8, t9, t10, t11, t12, t13, t14, t15, t16, t17, t18, t19, t20, t21, t22, t23, t24, t25, t26, t27, t28, t29, t30, t31, t32, t33, t34, t35, t36, t37, t38, t39, t40, t41, t42, t43, t44, t45, t46, t47, t48, t49, t5, t1, v44, v45, t54, t55, t56, t57, t58, t59, t60, t61, t62, t63, t64, t65, t66, t67, t68, t69, t70, t71, t72, t73], h, n, []⟩)) := Wp.eq_of (by kernel_rfl)

theorem F5_r110100_0 (t0 t1 t2 t3 t4 t5 t6 t7 t8 t9 t10 t11 t12 t13 t14 t15 t16 t17 t18 t19 t20 t21 t22 t23 t24 t25 t26 t27 t28 t29 t30 t31 t32 t33 t34 t35 t36 t37 t38 t39 t40 t41 t42 t43 t44 t45 t46 t47 t48 t49 t50 t51 t52 t53 t54 t55 t56 t57 t58 t59 t60 t61 t62 t63 t64 t65 t66 t67 t68 t69 t70 t71 t72 t73 : V) (h : Heap) (n : Nat) (K : V → Heap → Nat → Prop) : resume CC none [.blk 0, .sq (subC [1, 1, 1] (bodyOf Go.Proofs.Tryz.f5))] (retW CC Go.Proofs.Tryz.f5 K) (.exit 0) ⟨mkTm [t0, t1, t2, t3, t4, t5, t6, t7, t8, t9, t10, t11, t12, t13, t14, t15, t16, t17, t18, t19, t20, t21, t22, t23, t24, t25, t26, t27, t28, t29, t30, t31, t32, t33, t34, t35, t36, t37, t38, t39, t40, t41, t42, t43, t44, t45, t46, t47, t48, t49, t50, t51, t52, t53, t54, t55, t56, t57, t58, t59, t60, t61, t62, t63, t64, t65, t66, t67, t68, t69, t70, t71, t72, t73], h, n, []⟩ = (
K (.s (.bool false)) h n) := by kernel_rfl

/-! F7 (*lockgate/mem.Packet).Bytes -/
theorem F7 : CC.F.get 7 = some Go.Proofs.Tryz.f7 := by kernel_rfl
theorem F7_eq (t0 : V) (h : Heap) (n : Nat) (K : V → Heap → Nat → Prop) : Wp CC (bodyOf Go.Proofs.Tryz.f7) ⟨initTm Go.Proofs.Tryz.f7 [t0], h, n, []⟩ (retW CC Go.Proofs.Tryz.f7 K) = (
oK (rNil t0) fun v1 =>
oK (rFA CC 85 0 v1) fun v2 =>
oK (normO (rLoad CC 23 h v2)) fun v3 =>
oK (rNil t0) fun v4 =>
oK (rFA CC 85 1 v4) fun v5 =>
oK (normO (rLoad CC 3 h v5)) fun v6 =>
oK (sliceOp CC 23 v3 (some v6) none none) fun v7 =>
CallK CC 21 [v7] h (n + 11) fun v8 h9 n10 =>
(True ∧ True ∧ True) ∧
K v8 h9 n10) := Wp.eq_of (by kernel_rfl)
theorem F7_call {t0 : V} {h : Heap} {n : Nat} {K : V → Heap → Nat → Prop} (H : (∀ b o, h.get b = some o → b < n) → Wp CC (bodyOf Go.Proofs.Tryz.f7) ⟨initTm Go.Proofs.Tryz.f7 [t0], h, n, []⟩ (retW CC Go.Proofs.Tryz.f7 K)) : CallK CC 7 [t0] h n K := by
  have := @callK_of CC CCok 7 Go.Proofs.Tryz.f7 (bodyOf Go.Proofs.Tryz.f7) [t0] h n K F7
  refine this ?_ ?_ ?_
  · kernel_rfl
  · kernel_rfl
  · exact H

/-! F8 (*lockgate/helper.Draws).Left -/
theorem F8 : CC.F.get 8 = some Go.Proofs.Tryz.f8 := by kernel_rfl
theorem F8_eq (t0 : V) (h : Heap) (n : Nat) (K : V → Heap → Nat → Prop) : Wp CC (bodyOf Go.Proofs.Tryz.f8) ⟨initTm Go.Proofs.Tryz.f8 [t0], h, n, []⟩ (retW CC Go.Proofs.Tryz.f8 K) = (
oK (rNil t0) fun v1 =>
oK (rFA CC 87 0 v1) fun v2 =>
oK (normO (rLoad CC 24 h v2)) fun v3 =>
oK (lenV CC h 24 v3) fun v4 =>
K v4 h n) := Wp.eq_of (by kernel_rfl)
theorem F8_call {t0 : V} {h : Heap} {n : Nat} {K : V → Heap → Nat → Prop} (H : (∀ b o, h.get b = some o → b < n) → Wp CC (bodyOf Go.Proofs.Tryz.f8) ⟨initTm Go.Proofs.Tryz.f8 [t0], h, n, []⟩ (retW CC Go.Proofs.Tryz.f8 K)) : CallK CC 8 [t0] h n K := by
  have := @callK_of CC CCok 8 Go.Proofs.Tryz.f8 (bodyOf Go.Proofs.Tryz.f8) [t0] h n K F8
  refine this ?_ ?_ ?_
  · kernel_rfl
  · kernel_rfl
  · exact H

/-! F9 lockgate/ir.Do -/
theorem F9 : CC.F.get 9 = some Go.Proofs.Tryz.f9 := by kernel_rfl
theorem F9_eq (t0 t1 t2 : V) (h : Heap) (n : Nat) (K : V → Heap → Nat → Prop) : Wp CC (bodyOf Go.Proofs.Tryz.f9) ⟨initTm Go.Proofs.Tryz.f9 [t0, t1, t2], h, n, []⟩ (retW CC Go.Proofs.Tryz.f9 K) = (
oK (V.cells t1) fun c1 =>
let h2 := h.set n (.cells (.lst c1.toList) 15); let n3 := n + 1;
let h4 := h2.set n3 (.cells (.lst (zr CC 56).toList) 3); let n5 := n3 + 1;
oK (rFA CC 34 0 (.ptr n 0)) fun v6 =>
oK (normO (rLoad CC 3 h4 v6)) fun v7 =>
oK (binop CC .neq 3 true v7 (.s (.int .i64 1))) fun v8 =>
oK (asBool v8) fun b9 => bif b9 then (
oK (normO (build CC 56 [])) fun v10 =>
oK (asPtr (.ptr n3 0)) fun p11 => oK (store CC h4 56 p11.1 p11.2 v10) fun h12 =>
oK (resultsOf CC (mkTm [t0, t1, t2, undefV, (.ptr n 0), undefV, (.ptr n3 0), (.s (.bool false)), v6, v7, v8, v10, undefV, undefV, undefV, undefV, undefV, undefV, undefV, undefV, undefV, undefV, undefV, undefV, undefV, undefV]) h12 [.cell 6 56, .tmp 7]) fun vs => K (oneOf vs) h12 n5) else (
oK (rFA CC 34 5 (.ptr n 0)) fun v13 =>
oK (rFA CC 31 0 v13) fun v14 =>
oK (normO (rLoad CC 3 h4 v14)) fun v15 =>
oK (binop CC .and 3 true v15 (.s (.int .i64 7))) fun v16 =>
oK (rFA CC 34 5 (.ptr n 0)) fun v17 =>
oK (normO (rLoad CC 31 h4 v17)) fun v18 =>
oK (normO (build CC 92 [(0, t0), (1, v18), (2, t2)])) fun v19 =>
CallK CC 22 [] h4 (n5 + 16) fun v20 h21 n22 =>
(normO (rLoad CC 31 h21 v17) = some v18 ∧ normO (rLoad CC 3 h21 v14) = some v15 ∧ True) ∧
oK (index CC 89 v20 v16) fun v23 =>
callV CC v23 [v19] h21 n22 fun v24 h25 n26 =>
(True ∧ True ∧ True) ∧
oK (rExt v24 0) fun v27 =>
oK (rExt v24 1) fun v28 =>
oK (asPtr (.ptr n3 0)) fun p29 => oK (store CC h25 56 p29.1 p29.2 v27) fun h30 =>
(True ∧ True ∧ True) ∧
oK (resultsOf CC (mkTm [t0, t1, t2, undefV, (.ptr n 0), undefV, (.ptr n3 0), v28, v6, v7, v8, undefV, v20, v13, v14, v15, v16, v23, t0, v17, v18, t2, v19, v24, v27, v28]) h30 [.cell 6 56, .tmp 7]) fun vs => K (oneOf vs) h30 n26)) := Wp.eq_of (by kernel_rfl)
theorem F9_call {t0 t1 t2 : V} {h : Heap} {n : Nat} {K : V → Heap → Nat → Prop} (H : (∀ b o, h.get b = some o → b < n) → Wp CC (bodyOf Go.Proofs.Tryz.f9) ⟨initTm Go.Proofs.Tryz.f9 [t0, t1, t2], h, n, []⟩ (retW CC Go.Proofs.Tryz.f9 K)) : CallK CC 9 [t0, t1, t2] h n K := by
  have := @callK_of CC CCok 9 Go.Proofs.Tryz.f9 (bodyOf Go.Proofs.Tryz.f9) [t0, t1, t2] h n K F9
  refine this ?_ ?_ ?_
  · kernel_rfl
  · kernel_rfl
  · exact H

/-! F10 lockgate/lockgatekit.SameBytes -/
theorem F10 : CC.F.get 10 = some Go.Proofs.Tryz.f10 := by kernel_rfl
theorem F10_eq (t0 t1 : V) (h : Heap) (n : Nat) (K : V → Heap → Nat → Prop) : Wp CC (bodyOf Go.Proofs.Tryz.f10) ⟨initTm Go.Proofs.Tryz.f10 [t0, t1], h, n, []⟩ (retW CC Go.Proofs.Tryz.f10 K) = (
oK (lenV CC h 23 t0) fun v1 =>
oK (lenV CC h 23 t1) fun v2 =>
oK (binop CC .neq 3 false v1 v2) fun v3 =>
oK (asBool v3) fun b4 => bif b4 then (
K (.s (.bool false)) h n) else (
LoopK CC none (subC [1, 1, 0, 1, 0, 0] (bodyOf Go.Proofs.Tryz.f10)) ⟨mkTm [t0, t1, undefV, undefV, (.s (.bool false)), (.s (.int .i64 0)), t0, v1, t1, v2, v3, undefV, undefV, undefV, undefV, undefV, undefV, undefV, undefV, undefV, undefV, undefV, undefV, undefV, undefV, undefV], h, n, []⟩ (resume CC none [.blk 0, .sq (subC [1, 1, 1] (bodyOf Go.Proofs.Tryz.f10))] (retW CC Go.Proofs.Tryz.f10 K)))) := Wp.eq_of (by kernel_rfl)
theorem F10_call {t0 t1 : V} {h : Heap} {n : Nat} {K : V → Heap → Nat → Prop} (H : (∀ b o, h.get b = some o → b < n) → Wp CC (bodyOf Go.Proofs.Tryz.f10) ⟨initTm Go.Proofs.Tryz.f10 [t0, t1], h, n, []⟩ (retW CC Go.Proofs.Tryz.f10 K)) : CallK CC 10 [t0, t1] h n K := by
  have := @callK_of CC CCok 10 Go.Proofs.Tryz.f10 (bodyOf Go.Proofs.Tryz.f10) [t0, t1] h n K F10
  refine this ?_ ?_ ?_
  · kernel_rfl
  · kernel_rfl
  · exact H

def F10_L110100 (t0 t1 t5 : V) (h : Heap) (n : Nat) (s : St) : Prop := ∃ f : Nat → V, s = ⟨mkTm [t0, t1, (f 2), (f 3), (f 4), t5, (f 6), (f 7), (f 8), (f 9), (f 10), (f 11), (f 12), (f 13), (f 14), (f 15), (f 16), (f 17), (f 18), (f 19), (f 20), (f 21), (f 22), (f 23), (f 24), (f 25)], h, n, []⟩
theorem F10_L110100_of {t0 t1 t5 : V} {t2 t3 t4 t6 t7 t8 t9 t10 t11 t12 t13 t14 t15 t16 t17 t18 t19 t20 t21 t22 t23 t24 t25 : V} {h : Heap} {n : Nat} : F10_L110100 t0 t1 t5 h n ⟨mkTm [t0, t1, t2, t3, t4, t5, t6, t7, t8, t9, t10, t11, t12, t13, t14, t15, t16, t17, t18, t19, t20, t21, t22, t23, t24, t25], h, n, []⟩ :=
  ⟨fun i => ([t0, t1, t2, t3, t4, t5, t6, t7, t8, t9, t10, t11, t12, t13, t14, t15, t16, t17, t18, t19, t20, t21, t22, t23, t24, t25] : List V).getD i undefV, by kernel_rfl⟩
theorem F10_L110100_elim {t0 t1 t5 : V} {h : Heap} {n : Nat} {s : St} {P : St → Prop} (hs : F10_L110100 t0 t1 t5 h n s) (H : ∀ t2 t3 t4 t6 t7 t8 t9 t10 t11 t12 t13 t14 t15 t16 t17 t18 t19 t20 t21 t22 t23 t24 t25 : V, P ⟨mkTm [t0, t1, t2, t3, t4, t5, t6, t7, t8, t9, t10, t11, t12, t13, t14, t15, t16, t17, t18, t19, t20, t21, t22, t23, t24, t25], h, n, []⟩) : P s := by
  obtain ⟨f, rfl⟩ := hs
  exact H (f 2) (f 3) (f 4) (f 6) (f 7) (f 8) (f 9) (f 10) (f 11) (f 12) (f 13) (f 14) (f 15) (f 16) (f 17) (f 18) (f 19) (f 20) (f 21) (f 22) (f 23) (f 24) (f 25)

theorem F10_b110100 (t0 t1 t2 t3 t4 t5 t6 t7 t8 t9 t10 t11 t12 t13 t14 t15 t16 t17 t18 t19 t20 t21 t22 t23 t24 t25 : V) (h : Heap) (n : Nat) (Q : X → St → Prop) : Wp CC (subC [1, 1, 0, 1, 0, 0] (bodyOf Go.Proofs.Tryz.f10)) ⟨mkTm [t0, t1, t2, t3, t4, t5, t6, t7, t8, t9, t10, t11, t12, t13, t14, t15, t16, t17, t18, t19, t20, t21, t22, t23, t24, t25], h, n, []⟩ Q = (
oK (lenV CC h 23 t0) fun v5 =>
oK (binop CC .lss 3 false t5 v5) fun v6 =>
oK (asBool v6) fun b7 => bif b7 then (
oK (indexAddr CC 23 t0 t5) fun v8 =>
oK (normO (rLoad CC 5 h v8)) fun v9 =>
oK (indexAddr CC 23 t1 t5) fun v10 =>
oK (normO (rLoad CC 5 h v10)) fun v11 =>
oK (binop CC .neq 5 false v9 v11) fun v12 =>
oK (asBool v12) fun b13 => bif b13 then (
Q .ret ⟨mkTm [t0, t1, t2, t3, (.s (.bool false)), t5, t6, t7, t8, t9, t10, t5, t0, v5, v6, t15, t16, t0, t5, v8, v9, t1, t5, v10, v11, v12], h, (n + 9), []⟩) else (
oK (binop CC .add 3 true t5 (.s (.int .i64 1))) fun v14 =>
Q .normal ⟨mkTm [t0, t1, t2, t3, t4, v14, t6, t7, t8, t9, t10, t5, t0, v5, v6, t5, v14, t0, t5, v8, v9, t1, t5, v10, v11, v12], h, (n + 9), []⟩)) else (
Q (.exit 0) ⟨mkTm [t0, t1, t2, t3, t4, t5, t6, t7, t8, t9, t10, t5, t0, v5, v6, t15, t16, t17, t18, t19, t20, t21, t22, t23, t24, t25], h, n, []⟩)) := Wp.eq_of (by kernel_rfl)

theorem F10_r110100_0 (t0 t1 t2 t3 t4 t5 t6 t7 t8 t9 t10 t11 t12 t13 t14 t15 t16 t17 t18 t19 t20 t21 t22 t23 t24 t25 : V) (h : Heap) (n : Nat) (K : V → Heap → Nat → Prop) : resume CC none [.blk 0, .sq (subC [1, 1, 1] (bodyOf Go.Proofs.Tryz.f10))] (retW CC Go.Proofs.Tryz.f10 K) (.exit 0) ⟨mkTm [t0, t1, t2, t3, t4, t5, t6, t7, t8, t9, t10, t11, t12, t13, t14, t15, t16, t17, t18, t19, t20, t21, t22, t23, t24, t25], h, n, []⟩ = (
K (.s (.bool true)) h n) := by kernel_rfl

/-! F11 lockgate/mem.New -/
theorem F11 : CC.F.get 11 = some Go.Proofs.Tryz.f11 := by kernel_rfl
theorem F11_eq (t0 : V) (h : Heap) (n : Nat) (K : V → Heap → Nat → Prop) : Wp CC (bodyOf Go.Proofs.Tryz.f11) ⟨initTm Go.Proofs.Tryz.f11 [t0], h, n, []⟩ (retW CC Go.Proofs.Tryz.f11 K) = (
oK (lenV CC h 23 t0) fun v1 =>
oK (binop CC .gtr 3 true v1 (.s (.int .i64 65535))) fun v2 =>
oK (asBool v2) fun b3 => bif b3 then (
K (.tup [(.s (.pointer none)), (.s (.int .i64 3))]) h n) else (
oK (lenV CC h 23 t0) fun v4 =>
oK (binop CC .add 3 true (.s (.int .i64 64)) v4) fun v5 =>
oK (asNat v5) fun l6 => oK (asNat v5) fun c7 =>
bif Nat.ble l6 c7 && (Nat.ble (1 * c7) 281474976710656 && (Nat.blt c7 9223372036854775808 && true)) then (
let h8 := h.set n (.cells (.lst ((zr CC 5).rep c7).toList) 1); let n9 := n + 1;
oK (sliceOp CC 23 (.slice n 0 l6 c7 false) (some (.s (.int .i64 64))) none none) fun v10 =>
copyK CC h8 23 v10 t0 fun v11 h12 =>
oK (normO (build CC 85 [(0, (.slice n 0 l6 c7 false)), (1, (.s (.int .i64 64)))])) fun v13 =>
oK (V.cells v13) fun c14 =>
let h15 := h12.set n9 (.cells (.lst c14.toList) 2); let n16 := n9 + 1;
K (.tup [(.ptr n9 0), (.s (.int .i64 0))]) h15 n16) else False)) := Wp.eq_of (by kernel_rfl)
theorem F11_call {t0 : V} {h : Heap} {n : Nat} {K : V → Heap → Nat → Prop} (H : (∀ b o, h.get b = some o → b < n) → Wp CC (bodyOf Go.Proofs.Tryz.f11) ⟨initTm Go.Proofs.Tryz.f11 [t0], h, n, []⟩ (retW CC Go.Proofs.Tryz.f11 K)) : CallK CC 11 [t0] h n K := by
  have := @callK_of CC CCok 11 Go.Proofs.Tryz.f11 (bodyOf Go.Proofs.Tryz.f11) [t0] h n K F11
  refine this ?_ ?_ ?_
  · kernel_rfl
  · kernel_rfl
  · exact H

/-! F12 lockgate/maps.New -/
theorem F12 : CC.F.get 12 = some Go.Proofs.Tryz.f12 := by kernel_rfl
theorem F12_eq (h : Heap) (n : Nat) (K : V → Heap → Nat → Prop) : Wp CC (bodyOf Go.Proofs.Tryz.f12) ⟨initTm Go.Proofs.Tryz.f12 ([] : List V), h, n, []⟩ (retW CC Go.Proofs.Tryz.f12 K) = (
CallK CC 23 [] h n fun v1 h2 n3 =>
oK (normO (build CC 98 [(0, v1)])) fun v4 =>
oK (V.cells v4) fun c5 =>
let h6 := h2.set n3 (.cells (.lst c5.toList) 4); let n7 := n3 + 1;
K (.ptr n3 0) h6 n7) := Wp.eq_of (by kernel_rfl)
theorem F12_call {h : Heap} {n : Nat} {K : V → Heap → Nat → Prop} (H : (∀ b o, h.get b = some o → b < n) → Wp CC (bodyOf Go.Proofs.Tryz.f12) ⟨initTm Go.Proofs.Tryz.f12 ([] : List V), h, n, []⟩ (retW CC Go.Proofs.Tryz.f12 K)) : CallK CC 12 [] h n K := by
  have := @callK_of CC CCok 12 Go.Proofs.Tryz.f12 (bodyOf Go.Proofs.Tryz.f12) [] h n K F12
  refine this ?_ ?_ ?_
  · kernel_rfl
  · kernel_rfl
  · exact H

/-! F13 lockgate/helper.NewDraws -/
theorem F13 : CC.F.get 13 = some Go.Proofs.Tryz.f13 := by kernel_rfl
theorem F13_eq (h : Heap) (n : Nat) (K : V → Heap → Nat → Prop) : Wp CC (bodyOf Go.Proofs.Tryz.f13) ⟨initTm Go.Proofs.Tryz.f13 ([] : List V), h, n, []⟩ (retW CC Go.Proofs.Tryz.f13 K) = (
oK (normO (build CC 87 [])) fun v1 =>
oK (V.cells v1) fun c2 =>
let h3 := h.set n (.cells (.lst c2.toList) 1); let n4 := n + 1;
K (.ptr n 0) h3 n4) := Wp.eq_of (by kernel_rfl)
theorem F13_call {h : Heap} {n : Nat} {K : V → Heap → Nat → Prop} (H : (∀ b o, h.get b = some o → b < n) → Wp CC (bodyOf Go.Proofs.Tryz.f13) ⟨initTm Go.Proofs.Tryz.f13 ([] : List V), h, n, []⟩ (retW CC Go.Proofs.Tryz.f13 K)) : CallK CC 13 [] h n K := by
  have := @callK_of CC CCok 13 Go.Proofs.Tryz.f13 (bodyOf Go.Proofs.Tryz.f13) [] h n K F13
  refine this ?_ ?_ ?_
  · kernel_rfl
  · kernel_rfl
  · exact H

/-! F14 lockgate/lockgatelaw12.Do -/
theorem F14 : CC.F.get 14 = some Go.Proofs.Tryz.f14 := by kernel_rfl
theorem F14_eq (t0 t1 : V) (h : Heap) (n : Nat) (K : V → Heap → Nat → Prop) : Wp CC (bodyOf Go.Proofs.Tryz.f14) ⟨initTm Go.Proofs.Tryz.f14 [t0, t1], h, n, []⟩ (retW CC Go.Proofs.Tryz.f14 K) = (
oK (V.cells t1) fun c1 =>
let h2 := h.set n (.cells (.lst c1.toList) 13); let n3 := n + 1;
oK (rFA CC 71 8 (.ptr n 0)) fun v4 =>
oK (normO (rLoad CC 23 h2 v4)) fun v5 =>
CallK CC 24 [v5] h2 n3 fun v6 h7 n8 =>
oK (rFA CC 71 9 (.ptr n 0)) fun v9 =>
oK (normO (rLoad CC 23 h7 v9)) fun v10 =>
CallK CC 24 [v10] h7 n8 fun v11 h12 n13 =>
oK (rFA CC 71 0 (.ptr n 0)) fun v14 =>
oK (normO (rLoad CC 3 h12 v14)) fun v15 =>
oK (binop CC .eql 3 true v15 (.s (.int .i64 0))) fun v16 =>
oK (asBool v16) fun b17 => bif b17 then (
oK (rFA CC 71 7 (.ptr n 0)) fun v18 =>
oK (normO (rLoad CC 69 h12 v18)) fun v19 =>
CallK CC 25 [t0, v19] h12 n13 fun v20 h21 n22 =>
oK (rExt v20 0) fun v23 =>
oK (rExt v20 1) fun v24 =>
oK (rFA CC 71 8 (.ptr n 0)) fun v25 =>
oK (normO (rLoad CC 23 h21 v25)) fun v26 =>
CallK CC 34 [v6, v26] h21 n22 fun v27 h28 n29 =>
oK (rUn CC .not v27) fun v30 =>
oK (bif (rWant false v30) then some v11 else some undefV) fun v31 =>
oK (bif (rWant false v30) then rFA CC 71 9 (.ptr n 0) else some undefV) fun v32 =>
oK (bif (rWant false v30) then normO (rLoad CC 23 h28 v32) else some undefV) fun v33 =>
let k34 := fun (v35 : V) (h36 : Heap) (n37 : Nat) => (
oK (bif (rWant false v30) then rUn CC .not v35 else some undefV) fun v38 =>
oK (rPick v30 (.s (.bool true)) v38) fun v39 =>
oK (asBool v39) fun b40 => bif b40 then (
K (.tup [(.s (.int .i64 (-77))), (.s (.bool false)), (.s (.int .i64 (-77)))]) h36 n37) else (
CallK CC 35 [v6] h36 n37 fun v41 h42 n43 =>
CallK CC 35 [v11] h42 n43 fun v44 h45 n46 =>
K (.tup [v23, (.s (.bool true)), v24]) h45 n46));
bif (rWant false v30) then (CallK CC 34 [v31, v33] h28 n29 fun v47 h48 n49 =>
k34 v47 h48 n49) else k34 undefV h28 n29) else (
oK (binop CC .eql 3 true v15 (.s (.int .i64 1))) fun v50 =>
oK (asBool v50) fun b51 => bif b51 then (
oK (rFA CC 71 1 (.ptr n 0)) fun v52 =>
oK (normO (rLoad CC 3 h12 v52)) fun v53 =>
oK (rFA CC 71 8 (.ptr n 0)) fun v54 =>
oK (normO (rLoad CC 23 h12 v54)) fun v55 =>
oK (lenV CC h12 23 v55) fun v56 =>
oK (sliceOp CC 23 v6 none (some v56) none) fun v57 =>
CallK CC 26 [t0, v53, v57] h12 (n13 + 14) fun v58 h59 n60 =>
(True ∧ True ∧ True ∧ True) ∧
oK (rExt v58 0) fun v61 =>
oK (rExt v58 1) fun v62 =>
oK (rFA CC 71 8 (.ptr n 0)) fun v63 =>
oK (normO (rLoad CC 23 h59 v63)) fun v64 =>
CallK CC 34 [v6, v64] h59 n60 fun v65 h66 n67 =>
oK (rUn CC .not v65) fun v68 =>
oK (bif (rWant false v68) then some v11 else some undefV) fun v69 =>
oK (bif (rWant false v68) then rFA CC 71 9 (.ptr n 0) else some undefV) fun v70 =>
oK (bif (rWant false v68) then normO (rLoad CC 23 h66 v70) else some undefV) fun v71 =>
let k72 := fun (v73 : V) (h74 : Heap) (n75 : Nat) => (
oK (bif (rWant false v68) then rUn CC .not v73 else some undefV) fun v76 =>
oK (rPick v68 (.s (.bool true)) v76) fun v77 =>
oK (asBool v77) fun b78 => bif b78 then (
K (.tup [(.s (.int .i64 (-77))), (.s (.bool false)), (.s (.int .i64 (-77)))]) h74 n75) else (
CallK CC 35 [v6] h74 n75 fun v79 h80 n81 =>
CallK CC 35 [v11] h80 n81 fun v82 h83 n84 =>
K (.tup [v61, v62, (.s (.int .i64 0))]) h83 n84));
bif (rWant false v68) then (CallK CC 34 [v69, v71] h66 n67 fun v85 h86 n87 =>
k72 v85 h86 n87) else k72 undefV h66 n67) else (
oK (binop CC .eql 3 true v15 (.s (.int .i64 2))) fun v88 =>
oK (asBool v88) fun b89 => bif b89 then (
oK (rFA CC 71 1 (.ptr n 0)) fun v90 =>
oK (normO (rLoad CC 3 h12 v90)) fun v91 =>
oK (rFA CC 71 8 (.ptr n 0)) fun v92 =>
oK (normO (rLoad CC 23 h12 v92)) fun v93 =>
oK (lenV CC h12 23 v93) fun v94 =>
oK (sliceOp CC 23 v6 none (some v94) none) fun v95 =>
CallK CC 27 [t0, v91, v95] h12 (n13 + 14) fun v96 h97 n98 =>
(True ∧ True ∧ True ∧ True) ∧
oK (rExt v96 0) fun v99 =>
oK (rExt v96 1) fun v100 =>
oK (rFA CC 71 8 (.ptr n 0)) fun v101 =>
oK (normO (rLoad CC 23 h97 v101)) fun v102 =>
CallK CC 34 [v6, v102] h97 n98 fun v103 h104 n105 =>
oK (rUn CC .not v103) fun v106 =>
oK (bif (rWant false v106) then some v11 else some undefV) fun v107 =>
oK (bif (rWant false v106) then rFA CC 71 9 (.ptr n 0) else some undefV) fun v108 =>
oK (bif (rWant false v106) then normO (rLoad CC 23 h104 v108) else some undefV) fun v109 =>
let k110 := fun (v111 : V) (h112 : Heap) (n113 : Nat) => (
oK (bif (rWant false v106) then rUn CC .not v111 else some undefV) fun v114 =>
oK (rPick v106 (.s (.bool true)) v114) fun v115 =>
oK (asBool v115) fun b116 => bif b116 then (
K (.tup [(.s (.int .i64 (-77))), (.s (.bool false)), (.s (.int .i64 (-77)))]) h112 n113) else (
CallK CC 35 [v6] h112 n113 fun v117 h118 n119 =>
CallK CC 35 [v11] h118 n119 fun v120 h121 n122 =>
K (.tup [v99, v100, (.s (.int .i64 0))]) h121 n122));
bif (rWant false v106) then (CallK CC 34 [v107, v109] h104 n105 fun v123 h124 n125 =>
k110 v123 h124 n125) else k110 undefV h104 n105) else (
oK (binop CC .eql 3 true v15 (.s (.int .i64 3))) fun v126 =>
oK (asBool v126) fun b127 => bif b127 then (
oK (rFA CC 71 1 (.ptr n 0)) fun v128 =>
oK (normO (rLoad CC 3 h12 v128)) fun v129 =>
oK (rFA CC 71 8 (.ptr n 0)) fun v130 =>
oK (normO (rLoad CC 23 h12 v130)) fun v131 =>
oK (lenV CC h12 23 v131) fun v132 =>
oK (sliceOp CC 23 v6 none (some v132) none) fun v133 =>
oK (rFA CC 71 9 (.ptr n 0)) fun v134 =>
oK (normO (rLoad CC 23 h12 v134)) fun v135 =>
oK (lenV CC h12 23 v135) fun v136 =>
oK (sliceOp CC 23 v11 none (some v136) none) fun v137 =>
CallK CC 28 [t0, v129, v133, v137] h12 (n13 + 15) fun v138 h139 n140 =>
(True ∧ True ∧ True ∧ True ∧ True ∧ True) ∧
oK (rFA CC 71 8 (.ptr n 0)) fun v141 =>
oK (normO (rLoad CC 23 h139 v141)) fun v142 =>
CallK CC 34 [v6, v142] h139 n140 fun v143 h144 n145 =>
oK (rUn CC .not v143) fun v146 =>
oK (bif (rWant false v146) then some v11 else some undefV) fun v147 =>
oK (bif (rWant false v146) then rFA CC 71 9 (.ptr n 0) else some undefV) fun v148 =>
oK (bif (rWant false v146) then normO (rLoad CC 23 h144 v148) else some undefV) fun v149 =>
let k150 := fun (v151 : V) (h152 : Heap) (n153 : Nat) => (
oK (bif (rWant false v146) then rUn CC .not v151 else some undefV) fun v154 =>
oK (rPick v146 (.s (.bool true)) v154) fun v155 =>
oK (asBool v155) fun b156 => bif b156 then (
K (.tup [(.s (.int .i64 (-77))), (.s (.bool false)), (.s (.int .i64 (-77)))]) h152 n153) else (
CallK CC 35 [v6] h152 n153 fun v157 h158 n159 =>
CallK CC 35 [v11] h158 n159 fun v160 h161 n162 =>
K (.tup [(.s (.int .i64 0)), (.s (.bool true)), v138]) h161 n162));
bif (rWant false v146) then (CallK CC 34 [v147, v149] h144 n145 fun v163 h164 n165 =>
k150 v163 h164 n165) else k150 undefV h144 n145) else (
oK (binop CC .eql 3 true v15 (.s (.int .i64 4))) fun v166 =>
oK (asBool v166) fun b167 => bif b167 then (
oK (rFA CC 71 1 (.ptr n 0)) fun v168 =>
oK (normO (rLoad CC 3 h12 v168)) fun v169 =>
oK (rFA CC 71 8 (.ptr n 0)) fun v170 =>
oK (normO (rLoad CC 23 h12 v170)) fun v171 =>
oK (lenV CC h12 23 v171) fun v172 =>
oK (sliceOp CC 23 v6 none (some v172) none) fun v173 =>
CallK CC 29 [t0, v169, v173] h12 (n13 + 10) fun v174 h175 n176 =>
(True ∧ True ∧ True ∧ True) ∧
oK (rFA CC 71 8 (.ptr n 0)) fun v177 =>
oK (normO (rLoad CC 23 h175 v177)) fun v178 =>
CallK CC 34 [v6, v178] h175 n176 fun v179 h180 n181 =>
oK (rUn CC .not v179) fun v182 =>
oK (bif (rWant false v182) then some v11 else some undefV) fun v183 =>
oK (bif (rWant false v182) then rFA CC 71 9 (.ptr n 0) else some undefV) fun v184 =>
oK (bif (rWant false v182) then normO (rLoad CC 23 h180 v184) else some undefV) fun v185 =>
let k186 := fun (v187 : V) (h188 : Heap) (n189 : Nat) => (
oK (bif (rWant false v182) then rUn CC .not v187 else some undefV) fun v190 =>
oK (rPick v182 (.s (.bool true)) v190) fun v191 =>
oK (asBool v191) fun b192 => bif b192 then (
K (.tup [(.s (.int .i64 (-77))), (.s (.bool false)), (.s (.int .i64 (-77)))]) h188 n189) else (
CallK CC 35 [v6] h188 n189 fun v193 h194 n195 =>
CallK CC 35 [v11] h194 n195 fun v196 h197 n198 =>
K (.tup [(.s (.int .i64 0)), (.s (.bool true)), v174]) h197 n198));
bif (rWant false v182) then (CallK CC 34 [v183, v185] h180 n181 fun v199 h200 n201 =>
k186 v199 h200 n201) else k186 undefV h180 n181) else (
oK (binop CC .eql 3 true v15 (.s (.int .i64 5))) fun v202 =>
oK (asBool v202) fun b203 => bif b203 then (
oK (rFA CC 71 1 (.ptr n 0)) fun v204 =>
oK (normO (rLoad CC 3 h12 v204)) fun v205 =>
oK (rFA CC 71 2 (.ptr n 0)) fun v206 =>
oK (normO (rLoad CC 3 h12 v206)) fun v207 =>
oK (rFA CC 71 3 (.ptr n 0)) fun v208 =>
oK (normO (rLoad CC 3 h12 v208)) fun v209 =>
CallK CC 30 [t0, v205, v207, v209] h12 n13 fun v210 h211 n212 =>
oK (rFA CC 71 8 (.ptr n 0)) fun v213 =>
oK (normO (rLoad CC 23 h211 v213)) fun v214 =>
CallK CC 34 [v6, v214] h211 n212 fun v215 h216 n217 =>
oK (rUn CC .not v215) fun v218 =>
oK (bif (rWant false v218) then some v11 else some undefV) fun v219 =>
oK (bif (rWant false v218) then rFA CC 71 9 (.ptr n 0) else some undefV) fun v220 =>
oK (bif (rWant false v218) then normO (rLoad CC 23 h216 v220) else some undefV) fun v221 =>
let k222 := fun (v223 : V) (h224 : Heap) (n225 : Nat) => (
oK (bif (rWant false v218) then rUn CC .not v223 else some undefV) fun v226 =>
oK (rPick v218 (.s (.bool true)) v226) fun v227 =>
oK (asBool v227) fun b228 => bif b228 then (
K (.tup [(.s (.int .i64 (-77))), (.s (.bool false)), (.s (.int .i64 (-77)))]) h224 n225) else (
CallK CC 35 [v6] h224 n225 fun v229 h230 n231 =>
CallK CC 35 [v11] h230 n231 fun v232 h233 n234 =>
K (.tup [(.s (.int .i64 0)), (.s (.bool true)), v210]) h233 n234));
bif (rWant false v218) then (CallK CC 34 [v219, v221] h216 n217 fun v235 h236 n237 =>
k222 v235 h236 n237) else k222 undefV h216 n217) else (
oK (binop CC .eql 3 true v15 (.s (.int .i64 6))) fun v238 =>
oK (asBool v238) fun b239 => bif b239 then (
oK (rFA CC 71 4 (.ptr n 0)) fun v240 =>
oK (normO (rLoad CC 3 h12 v240)) fun v241 =>
oK (rFA CC 71 2 (.ptr n 0)) fun v242 =>
oK (normO (rLoad CC 3 h12 v242)) fun v243 =>
oK (rFA CC 71 5 (.ptr n 0)) fun v244 =>
oK (normO (rLoad CC 3 h12 v244)) fun v245 =>
oK (rFA CC 71 6 (.ptr n 0)) fun v246 =>
oK (normO (rLoad CC 25 h12 v246)) fun v247 =>
CallK CC 31 [t0, v241, v243, v245, v247] h12 n13 fun v248 h249 n250 =>
oK (rFA CC 71 8 (.ptr n 0)) fun v251 =>
oK (normO (rLoad CC 23 h249 v251)) fun v252 =>
CallK CC 34 [v6, v252] h249 n250 fun v253 h254 n255 =>
oK (rUn CC .not v253) fun v256 =>
oK (bif (rWant false v256) then some v11 else some undefV) fun v257 =>
oK (bif (rWant false v256) then rFA CC 71 9 (.ptr n 0) else some undefV) fun v258 =>
oK (bif (rWant false v256) then normO (rLoad CC 23 h254 v258) else some undefV) fun v259 =>
let k260 := fun (v261 : V) (h262 : Heap) (n263 : Nat) => (
oK (bif (rWant false v256) then rUn CC .not v261 else some undefV) fun v264 =>
oK (rPick v256 (.s (.bool true)) v264) fun v265 =>
oK (asBool v265) fun b266 => bif b266 then (
K (.tup [(.s (.int .i64 (-77))), (.s (.bool false)), (.s (.int .i64 (-77)))]) h262 n263) else (
CallK CC 35 [v6] h262 n263 fun v267 h268 n269 =>
CallK CC 35 [v11] h268 n269 fun v270 h271 n272 =>
K (.tup [(.s (.int .i64 0)), v248, (.s (.int .i64 0))]) h271 n272));
bif (rWant false v256) then (CallK CC 34 [v257, v259] h254 n255 fun v273 h274 n275 =>
k260 v273 h274 n275) else k260 undefV h254 n255) else (
oK (binop CC .eql 3 true v15 (.s (.int .i64 7))) fun v276 =>
oK (asBool v276) fun b277 => bif b277 then (
oK (rFA CC 71 2 (.ptr n 0)) fun v278 =>
oK (normO (rLoad CC 3 h12 v278)) fun v279 =>
CallK CC 32 [t0, v279] h12 n13 fun v280 h281 n282 =>
oK (rFA CC 71 8 (.ptr n 0)) fun v283 =>
oK (normO (rLoad CC 23 h281 v283)) fun v284 =>
CallK CC 34 [v6, v284] h281 n282 fun v285 h286 n287 =>
oK (rUn CC .not v285) fun v288 =>
oK (bif (rWant false v288) then some v11 else some undefV) fun v289 =>
oK (bif (rWant false v288) then rFA CC 71 9 (.ptr n 0) else some undefV) fun v290 =>
oK (bif (rWant false v288) then normO (rLoad CC 23 h286 v290) else some undefV) fun v291 =>
let k292 := fun (v293 : V) (h294 : Heap) (n295 : Nat) => (
oK (bif (rWant false v288) then rUn CC .not v293 else some undefV) fun v296 =>
oK (rPick v288 (.s (.bool true)) v296) fun v297 =>
oK (asBool v297) fun b298 => bif b298 then (
K (.tup [(.s (.int .i64 (-77))), (.s (.bool false)), (.s (.int .i64 (-77)))]) h294 n295) else (
CallK CC 35 [v6] h294 n295 fun v299 h300 n301 =>
CallK CC 35 [v11] h300 n301 fun v302 h303 n304 =>
K (.tup [(.s (.int .i64 0)), (.s (.bool true)), (.s (.int .i64 0))]) h303 n304));
bif (rWant false v288) then (CallK CC 34 [v289, v291] h286 n287 fun v305 h306 n307 =>
k292 v305 h306 n307) else k292 undefV h286 n287) else (
oK (binop CC .eql 3 true v15 (.s (.int .i64 8))) fun v308 =>
oK (asBool v308) fun b309 => bif b309 then (
CallK CC 33 [t0] h12 n13 fun v310 h311 n312 =>
oK (rFA CC 71 8 (.ptr n 0)) fun v313 =>
oK (normO (rLoad CC 23 h311 v313)) fun v314 =>
CallK CC 34 [v6, v314] h311 n312 fun v315 h316 n317 =>
oK (rUn CC .not v315) fun v318 =>
oK (bif (rWant false v318) then some v11 else some undefV) fun v319 =>
oK (bif (rWant false v318) then rFA CC 71 9 (.ptr n 0) else some undefV) fun v320 =>
oK (bif (rWant false v318) then normO (rLoad CC 23 h316 v320) else some undefV) fun v321 =>
let k322 := fun (v323 : V) (h324 : Heap) (n325 : Nat) => (
oK (bif (rWant false v318) then rUn CC .not v323 else some undefV) fun v326 =>
oK (rPick v318 (.s (.bool true)) v326) fun v327 =>
oK (asBool v327) fun b328 => bif b328 then (
K (.tup [(.s (.int .i64 (-77))), (.s (.bool false)), (.s (.int .i64 (-77)))]) h324 n325) else (
CallK CC 35 [v6] h324 n325 fun v329 h330 n331 =>
CallK CC 35 [v11] h330 n331 fun v332 h333 n334 =>
K (.tup [v310, (.s (.bool true)), (.s (.int .i64 0))]) h333 n334));
bif (rWant false v318) then (CallK CC 34 [v319, v321] h316 n317 fun v335 h336 n337 =>
k322 v335 h336 n337) else k322 undefV h316 n317) else (
oK (rFA CC 71 8 (.ptr n 0)) fun v338 =>
oK (normO (rLoad CC 23 h12 v338)) fun v339 =>
CallK CC 34 [v6, v339] h12 n13 fun v340 h341 n342 =>
oK (rUn CC .not v340) fun v343 =>
oK (bif (rWant false v343) then some v11 else some undefV) fun v344 =>
oK (bif (rWant false v343) then rFA CC 71 9 (.ptr n 0) else some undefV) fun v345 =>
oK (bif (rWant false v343) then normO (rLoad CC 23 h341 v345) else some undefV) fun v346 =>
let k347 := fun (v348 : V) (h349 : Heap) (n350 : Nat) => (
oK (bif (rWant false v343) then rUn CC .not v348 else some undefV) fun v351 =>
oK (rPick v343 (.s (.bool true)) v351) fun v352 =>
oK (asBool v352) fun b353 => bif b353 then (
K (.tup [(.s (.int .i64 (-77))), (.s (.bool false)), (.s (.int .i64 (-77)))]) h349 n350) else (
CallK CC 35 [v6] h349 n350 fun v354 h355 n356 =>
CallK CC 35 [v11] h355 n356 fun v357 h358 n359 =>
K (.tup [(.s (.int .i64 0)), (.s (.bool true)), (.s (.int .i64 0))]) h358 n359));
bif (rWant false v343) then (CallK CC 34 [v344, v346] h341 n342 fun v360 h361 n362 =>
k347 v360 h361 n362) else k347 undefV h341 n342)))))))))) := Wp.eq_of (by kernel_rfl)
theorem F14_call {t0 t1 : V} {h : Heap} {n : Nat} {K : V → Heap → Nat → Prop} (H : (∀ b o, h.get b = some o → b < n) → Wp CC (bodyOf Go.Proofs.Tryz.f14) ⟨initTm Go.Proofs.Tryz.f14 [t0, t1], h, n, []⟩ (retW CC Go.Proofs.Tryz.f14 K)) : CallK CC 14 [t0, t1] h n K := by
  have := @callK_of CC CCok 14 Go.Proofs.Tryz.f14 (bodyOf Go.Proofs.Tryz.f14) [t0, t1] h n K F14
  refine this ?_ ?_ ?_
  · kernel_rfl
  · kernel_rfl
  · exact H

/-! F15 (*lockgate/helper.Draws).Add -/
theorem F15 : CC.F.get 15 = some Go.Proofs.Tryz.f15 := by kernel_rfl
theorem F15_eq (t0 t1 : V) (h : Heap) (n : Nat) (K : V → Heap → Nat → Prop) : Wp CC (bodyOf Go.Proofs.Tryz.f15) ⟨initTm Go.Proofs.Tryz.f15 [t0, t1], h, n, []⟩ (retW CC Go.Proofs.Tryz.f15 K) = (
oK (rNil t0) fun v1 =>
oK (rFA CC 87 0 v1) fun v2 =>
oK (normO (rLoad CC 24 h v2)) fun v3 =>
fillK 1 ((zr CC 73).rep 1) [(0, t1)] fun c4 =>
let h5 := h.set n (.cells (.lst c4) 1); let n6 := n + 1;
appendK CC h5 n6 24 24 v3 (.slice n 0 1 1 false) fun v7 h8 n9 =>
oK (rNil t0) fun v10 =>
oK (rFA CC 87 0 v10) fun v11 =>
oK (asPtr v11) fun p12 => oK (store CC h8 24 p12.1 p12.2 v7) fun h13 =>
K (.tup []) h13 n9) := Wp.eq_of (by kernel_rfl)
theorem F15_call {t0 t1 : V} {h : Heap} {n : Nat} {K : V → Heap → Nat → Prop} (H : (∀ b o, h.get b = some o → b < n) → Wp CC (bodyOf Go.Proofs.Tryz.f15) ⟨initTm Go.Proofs.Tryz.f15 [t0, t1], h, n, []⟩ (retW CC Go.Proofs.Tryz.f15 K)) : CallK CC 15 [t0, t1] h n K := by
  have := @callK_of CC CCok 15 Go.Proofs.Tryz.f15 (bodyOf Go.Proofs.Tryz.f15) [t0, t1] h n K F15
  refine this ?_ ?_ ?_
  · kernel_rfl
  · kernel_rfl
  · exact H

/-! F16 lockgate/frame.Start -/
theorem F16 : CC.F.get 16 = some Go.Proofs.Tryz.f16 := by kernel_rfl
theorem F16_eq (t0 t1 : V) (h : Heap) (n : Nat) (K : V → Heap → Nat → Prop) : Wp CC (bodyOf Go.Proofs.Tryz.f16) ⟨initTm Go.Proofs.Tryz.f16 [t0, t1], h, n, []⟩ (retW CC Go.Proofs.Tryz.f16 K) = (
let h1 := h.set n (.cells (.lst (zr CC 41).toList) 804); let n2 := n + 1;
oK (normO (build CC 27 [(0, (.s (.int .i64 5)))])) fun v3 =>
oK (normO (build CC 27 [(0, (.s (.int .i64 4)))])) fun v4 =>
oK (normO (build CC 35 [(1, v3), (10, v4)])) fun v5 =>
oK (normO (build CC 41 [(0, t0), (2, t1), (3, v5)])) fun v6 =>
oK (asPtr (.ptr n 0)) fun p7 => oK (store CC h1 41 p7.1 p7.2 v6) fun h8 =>
oK (resultsOf CC (mkTm [t0, t1, undefV, undefV, (.ptr n 0), t0, t1, v3, v4, v5, v6]) h8 [.cell 4 41]) fun vs => K (oneOf vs) h8 n2) := Wp.eq_of (by kernel_rfl)
theorem F16_call {t0 t1 : V} {h : Heap} {n : Nat} {K : V → Heap → Nat → Prop} (H : (∀ b o, h.get b = some o → b < n) → Wp CC (bodyOf Go.Proofs.Tryz.f16) ⟨initTm Go.Proofs.Tryz.f16 [t0, t1], h, n, []⟩ (retW CC Go.Proofs.Tryz.f16 K)) : CallK CC 16 [t0, t1] h n K := by
  have := @callK_of CC CCok 16 Go.Proofs.Tryz.f16 (bodyOf Go.Proofs.Tryz.f16) [t0, t1] h n K F16
  refine this ?_ ?_ ?_
  · kernel_rfl
  · kernel_rfl
  · exact H

/-! F17 lockgate/mem.StackFill -/
theorem F17 : CC.F.get 17 = some Go.Proofs.Tryz.f17 := by kernel_rfl
theorem F17_eq (t0 t1 t2 : V) (h : Heap) (n : Nat) (K : V → Heap → Nat → Prop) : Wp CC (bodyOf Go.Proofs.Tryz.f17) ⟨initTm Go.Proofs.Tryz.f17 [t0, t1, t2], h, n, []⟩ (retW CC Go.Proofs.Tryz.f17 K) = (
oK (lenV CC h 23 t2) fun v1 =>
oK (binop CC .gtr 3 true v1 (.s (.int .i64 64))) fun v2 =>
oK (bif (rWant false v2) then some t1 else some undefV) fun v3 =>
oK (bif (rWant false v2) then some t2 else some undefV) fun v4 =>
oK (bif (rWant false v2) then lenV CC h 23 v4 else some undefV) fun v5 =>
let k6 := fun (v7 : V) (h8 : Heap) (n9 : Nat) => (
oK (bif (rWant false v2) then rUn CC .not v7 else some undefV) fun v10 =>
oK (rPick v2 (.s (.bool true)) v10) fun v11 =>
oK (asBool v11) fun b12 => bif b12 then (
K (.s (.int .i64 22)) h8 n9) else (
CallK CC 37 [t0, t1, t2] h8 n9 fun v13 h14 n15 =>
K (.s (.int .i64 0)) h14 n15));
bif (rWant false v2) then (CallK CC 36 [v3, v5] h n fun v16 h17 n18 =>
k6 v16 h17 n18) else k6 undefV h n) := Wp.eq_of (by kernel_rfl)
theorem F17_call {t0 t1 t2 : V} {h : Heap} {n : Nat} {K : V → Heap → Nat → Prop} (H : (∀ b o, h.get b = some o → b < n) → Wp CC (bodyOf Go.Proofs.Tryz.f17) ⟨initTm Go.Proofs.Tryz.f17 [t0, t1, t2], h, n, []⟩ (retW CC Go.Proofs.Tryz.f17 K)) : CallK CC 17 [t0, t1, t2] h n K := by
  have := @callK_of CC CCok 17 Go.Proofs.Tryz.f17 (bodyOf Go.Proofs.Tryz.f17) [t0, t1, t2] h n K F17
  refine this ?_ ?_ ?_
  · kernel_rfl
  · kernel_rfl
  · exact H

/-! F18 lockgate/mem.StackStore -/
theorem F18 : CC.F.get 18 = some Go.Proofs.Tryz.f18 := by kernel_rfl
theorem F18_eq (t0 t1 t2 t3 : V) (h : Heap) (n : Nat) (K : V → Heap → Nat → Prop) : Wp CC (bodyOf Go.Proofs.Tryz.f18) ⟨initTm Go.Proofs.Tryz.f18 [t0, t1, t2, t3], h, n, []⟩ (retW CC Go.Proofs.Tryz.f18 K) = (
oK (V.cells t3) fun c1 =>
let h2 := h.set n (.cells (.lst c1.toList) 3); let n3 := n + 1;
oK (rFA CC 27 0 (.ptr n 0)) fun v4 =>
oK (normO (rLoad CC 3 h2 v4)) fun v5 =>
oK (binop CC .eql 3 true v5 (.s (.int .i64 0))) fun v6 =>
oK (asBool v6) fun b7 => bif b7 then (
K (.s (.int .i64 20)) h2 n3) else (
CallK CC 38 [t2] h2 n3 fun v8 h9 n10 =>
oK (rUn CC .not v8) fun v11 =>
oK (bif (rWant false v11) then some t1 else some undefV) fun v12 =>
oK (bif (rWant false v11) then some t2 else some undefV) fun v13 =>
let k14 := fun (v15 : V) (h16 : Heap) (n17 : Nat) => (
oK (bif (rWant false v11) then rUn CC .not v15 else some undefV) fun v18 =>
oK (rPick v11 (.s (.bool true)) v18) fun v19 =>
oK (asBool v19) fun b20 => bif b20 then (
K (.s (.int .i64 22)) h16 n17) else (
oK (rFA CC 27 0 (.ptr n 0)) fun v21 =>
oK (normO (rLoad CC 3 h16 v21)) fun v22 =>
oK (binop CC .eql 3 true v22 (.s (.int .i64 1))) fun v23 =>
oK (asBool v23) fun b24 => bif b24 then (
let h25 := h16.set n17 (.cells (.lst (zr CC 36).toList) 8); let n26 := n17 + 1;
LoopK CC none (subC [1, 0, 0, 1, 1, 1, 1, 1, 0, 1, 0, 1, 0, 0] (bodyOf Go.Proofs.Tryz.f18)) ⟨mkTm [t0, t1, t2, t3, undefV, undefV, undefV, (.ptr n 0), (.s (.int .i64 0)), (.ptr n17 0), undefV, undefV, v6, v4, v5, v6, v19, t2, v8, v11, v11, v12, v13, v15, v18, v19, v23, v21, v22, v23, (.s (.int .i64 0)), undefV, undefV, undefV, undefV, undefV, undefV, undefV, undefV, undefV, undefV, undefV, undefV, undefV, undefV, undefV, undefV, undefV, undefV, undefV, undefV, undefV, undefV, undefV, undefV, undefV, undefV], h25, n26, []⟩ (resume CC none [.blk 1, .sq (subC [1, 0, 0, 1, 1, 1, 1, 1, 0, 1, 1] (bodyOf Go.Proofs.Tryz.f18)), .blk 0, .sq (subC [1, 1] (bodyOf Go.Proofs.Tryz.f18))] (retW CC Go.Proofs.Tryz.f18 K))) else (
CallK CC 39 [t0, t1, t2] h16 n17 fun v27 h28 n29 =>
oK (binop CC .eql 112 true v27 (.s (.pointer none))) fun v30 =>
oK (asBool v30) fun b31 => bif b31 then (
K (.s (.int .i64 24)) h28 n29) else (
oK (normO (rLoad CC 27 h28 (.ptr n 0))) fun v32 =>
oK (normO (build CC 38 [(0, v32)])) fun v33 =>
oK (rNil v27) fun v34 =>
oK (asPtr v34) fun p35 => oK (store CC h28 38 p35.1 p35.2 v33) fun h36 =>
K (.s (.int .i64 0)) h36 n29))));
bif (rWant false v11) then (CallK CC 36 [v12, v13] h9 n10 fun v37 h38 n39 =>
k14 v37 h38 n39) else k14 undefV h9 n10)) := Wp.eq_of (by kernel_rfl)
theorem F18_call {t0 t1 t2 t3 : V} {h : Heap} {n : Nat} {K : V → Heap → Nat → Prop} (H : (∀ b o, h.get b = some o → b < n) → Wp CC (bodyOf Go.Proofs.Tryz.f18) ⟨initTm Go.Proofs.Tryz.f18 [t0, t1, t2, t3], h, n, []⟩ (retW CC Go.Proofs.Tryz.f18 K)) : CallK CC 18 [t0, t1, t2, t3] h n K := by
  have := @callK_of CC CCok 18 Go.Proofs.Tryz.f18 (bodyOf Go.Proofs.Tryz.f18) [t0, t1, t2, t3] h n K F18
  refine this ?_ ?_ ?_
  · kernel_rfl
  · kernel_rfl
  · exact H

def F18_L10011111010100 (t0 t1 t2 t7 t9 t30 : V) (h : Heap) (n : Nat) (s : St) : Prop := ∃ f : Nat → V, s = ⟨mkTm [t0, t1, t2, (f 3), (f 4), (f 5), (f 6), t7, (f 8), t9, (f 10), (f 11), (f 12), (f 13), (f 14), (f 15), (f 16), (f 17), (f 18), (f 19), (f 20), (f 21), (f 22), (f 23), (f 24), (f 25), (f 26), (f 27), (f 28), (f 29), t30, (f 31), (f 32), (f 33), (f 34), (f 35), (f 36), (f 37), (f 38), (f 39), (f 40), (f 41), (f 42), (f 43), (f 44), (f 45), (f 46), (f 47), (f 48), (f 49), (f 50), (f 51), (f 52), (f 53), (f 54), (f 55), (f 56)], h, n, []⟩
theorem F18_L10011111010100_of {t0 t1 t2 t7 t9 t30 : V} {t3 t4 t5 t6 t8 t10 t11 t12 t13 t14 t15 t16 t17 t18 t19 t20 t21 t22 t23 t24 t25 t26 t27 t28 t29 t31 t32 t33 t34 t35 t36 t37 t38 t39 t40 t41 t42 t43 t44 t45 t46 t47 t48 t49 t50 t51 t52 t53 t54 t55 t56 : V} {h : Heap} {n : Nat} : F18_L10011111010100 t0 t1 t2 t7 t9 t30 h n ⟨mkTm [t0, t1, t2, t3, t4, t5, t6, t7, t8, t9, t10, t11, t12, t13, t14, t15, t16, t17, t18, t19, t20, t21, t22, t23, t24, t25, t26, t27, t28, t29, t30, t31, t32, t33, t34, t35, t36, t37, t38, t39, t40, t41, t42, t43, t44, t45, t46, t47, t48, t49, t50, t51, t52, t53, t54, t55, t56], h, n, []⟩ :=
  ⟨fun i => ([t0, t1, t2, t3, t4, t5, t6, t7, t8, t9, t10, t11, t12, t13, t14, t15, t16, t17, t18, t19, t20, t21, t22, t23, t24, t25, t26, t27, t28, t29, t30, t31, t32, t33, t34, t35, t36, t37, t38, t39, t40, t41, t42, t43, t44, t45, t46, t47, t48, t49, t50, t51, t52, t53, t54, t55, t56] : List V).getD i undefV, by kernel_rfl⟩
theorem F18_L10011111010100_elim {t0 t1 t2 t7 t9 t30 : V} {h : Heap} {n : Nat} {s : St} {P : St → Prop} (hs : F18_L10011111010100 t0 t1 t2 t7 t9 t30 h n s) (H : ∀ t3 t4 t5 t6 t8 t10 t11 t12 t13 t14 t15 t16 t17 t18 t19 t20 t21 t22 t23 t24 t25 t26 t27 t28 t29 t31 t32 t33 t34 t35 t36 t37 t38 t39 t40 t41 t42 t43 t44 t45 t46 t47 t48 t49 t50 t51 t52 t53 t54 t55 t56 : V, P ⟨mkTm [t0, t1, t2, t3, t4, t5, t6, t7, t8, t9, t10, t11, t12, t13, t14, t15, t16, t17, t18, t19, t20, t21, t22, t23, t24, t25, t26, t27, t28, t29, t30, t31, t32, t33, t34, t35, t36, t37, t38, t39, t40, t41, t42, t43, t44, t45, t46, t47, t48, t49, t50, t51, t52, t53, t54, t55, t56], h, n, []⟩) : P s := by
  obtain ⟨f, rfl⟩ := hs
  exact H (f 3) (f 4) (f 5) (f 6) (f 8) (f 10) (f 11) (f 12) (f 13) (f 14) (f 15) (f 16) (f 17) (f 18) (f 19) (f 20) (f 21) (f 22) (f 23) (f 24) (f 25) (f 26) (f 27) (f 28) (f 29) (f 31) (f 32) (f 33) (f 34) (f 35) (f 36) (f 37) (f 38) (f 39) (f 40) (f 41) (f 42) (f 43) (f 44) (f 45) (f 46) (f 47) (f 48) (f 49) (f 50) (f 51) (f 52) (f 53) (f 54) (f 55) (f 56)

theorem F18_b10011111010100 (t0 t1 t2 t3 t4 t5 t6 t7 t8 t9 t10 t11 t12 t13 t14 t15 t16 t17 t18 t19 t20 t21 t22 t23 t24 t25 t26 t27 t28 t29 t30 t31 t32 t33 t34 t35 t36 t37 t38 t39 t40 t41 t42 t43 t44 t45 t46 t47 t48 t49 t50 t51 t52 t53 t54 t55 t56 : V) (h : Heap) (n : Nat) (Q : X → St → Prop) : Wp CC (subC [1, 0, 0, 1, 1, 1, 1, 1, 0, 1, 0, 1, 0, 0] (bodyOf Go.Proofs.Tryz.f18)) ⟨mkTm [t0, t1, t2, t3, t4, t5, t6, t7, t8, t9, t10, t11, t12, t13, t14, t15, t16, t17, t18, t19, t20, t21, t22, t23, t24, t25, t26, t27, t28, t29, t30, t31, t32, t33, t34, t35, t36, t37, t38, t39, t40, t41, t42, t43, t44, t45, t46, t47, t48, t49, t50, t51, t52, t53, t54, t55, t56], h, n, []⟩ Q = (
oK (binop CC .lss 3 true t30 (.s (.int .i64 8))) fun v40 =>
oK (asBool v40) fun b41 => bif b41 then (
oK (rFA CC 27 1 t7) fun v42 =>
oK (normO (rLoad CC 25 h v42)) fun v43 =>
oK (binop CC .mul 3 true (.s (.int .i64 8)) t30) fun v44 =>
oK (binop CC .shr 25 false v43 v44) fun v45 =>
oK (convert CC h 25 5 v45) fun v46 =>
oK (indexAddr CC 36 t9 t30) fun v47 =>
oK (asPtr v47) fun p48 => oK (store CC h 5 p48.1 p48.2 v46) fun h49 =>
oK (binop CC .add 3 true t30 (.s (.int .i64 1))) fun v50 =>
Q .normal ⟨mkTm [t0, t1, t2, t3, t4, t5, t6, t7, t8, t9, t30, t11, t12, t13, t14, t15, t16, t17, t18, t19, t20, t21, t22, t23, t24, t25, t26, t27, t28, t29, v50, v40, t30, t30, v42, v43, t30, v44, v45, v46, v47, v50, t42, t43, t44, t45, t46, t47, t48, t49, t50, t51, t52, t53, t54, t55, t56], h49, n, []⟩) else (
Q (.exit 1) ⟨mkTm [t0, t1, t2, t3, t4, t5, t6, t7, t8, t9, t10, t11, t12, t13, t14, t15, t16, t17, t18, t19, t20, t21, t22, t23, t24, t25, t26, t27, t28, t29, t30, v40, t32, t33, t34, t35, t36, t37, t38, t39, t40, t41, t42, t43, t44, t45, t46, t47, t48, t49, t50, t51, t52, t53, t54, t55, t56], h, n, []⟩)) := Wp.eq_of (by kernel_rfl)

theorem F18_r10011111010100_1 (t0 t1 t2 t3 t4 t5 t6 t7 t8 t9 t10 t11 t12 t13 t14 t15 t16 t17 t18 t19 t20 t21 t22 t23 t24 t25 t26 t27 t28 t29 t30 t31 t32 t33 t34 t35 t36 t37 t38 t39 t40 t41 t42 t43 t44 t45 t46 t47 t48 t49 t50 t51 t52 t53 t54 t55 t56 : V) (h : Heap) (n : Nat) (K : V → Heap → Nat → Prop) : resume CC none [.blk 1, .sq (subC [1, 0, 0, 1, 1, 1, 1, 1, 0, 1, 1] (bodyOf Go.Proofs.Tryz.f18)), .blk 0, .sq (subC [1, 1] (bodyOf Go.Proofs.Tryz.f18))] (retW CC Go.Proofs.Tryz.f18 K) (.exit 1) ⟨mkTm [t0, t1, t2, t3, t4, t5, t6, t7, t8, t9, t10, t11, t12, t13, t14, t15, t16, t17, t18, t19, t20, t21, t22, t23, t24, t25, t26, t27, t28, t29, t30, t31, t32, t33, t34, t35, t36, t37, t38, t39, t40, t41, t42, t43, t44, t45, t46, t47, t48, t49, t50, t51, t52, t53, t54, t55, t56], h, n, []⟩ = (
oK (sliceOp CC 36 t9 none (some t2) none) fun v51 =>
CallK CC 37 [t0, t1, v51] h n fun v52 h53 n54 =>
K (.s (.int .i64 0)) h53 n54) := by kernel_rfl

theorem F18_r10011111010100_0 (t0 t1 t2 t3 t4 t5 t6 t7 t8 t9 t10 t11 t12 t13 t14 t15 t16 t17 t18 t19 t20 t21 t22 t23 t24 t25 t26 t27 t28 t29 t30 t31 t32 t33 t34 t35 t36 t37 t38 t39 t40 t41 t42 t43 t44 t45 t46 t47 t48 t49 t50 t51 t52 t53 t54 t55 t56 : V) (h : Heap) (n : Nat) (K : V → Heap → Nat → Prop) : resume CC none [.blk 1, .sq (subC [1, 0, 0, 1, 1, 1, 1, 1, 0, 1, 1] (bodyOf Go.Proofs.Tryz.f18)), .blk 0, .sq (subC [1, 1] (bodyOf Go.Proofs.Tryz.f18))] (retW CC Go.Proofs.Tryz.f18 K) (.exit 0) ⟨mkTm [t0, t1, t2, t3, t4, t5, t6, t7, t8, t9, t10, t11, t12, t13, t14, t15, t16, t17, t18, t19, t20, t21, t22, t23, t24, t25, t26, t27, t28, t29, t30, t31, t32, t33, t34, t35, t36, t37, t38, t39, t40, t41, t42, t43, t44, t45, t46, t47, t48, t49, t50, t51, t52, t53, t54, t55, t56], h, n, []⟩ = (
CallK CC 39 [t0, t1, t2] h n fun v55 h56 n57 =>
oK (binop CC .eql 112 true v55 (.s (.pointer none))) fun v58 =>
oK (asBool v58) fun b59 => bif b59 then (
K (.s (.int .i64 24)) h56 n57) else (
oK (normO (rLoad CC 27 h56 t7)) fun v60 =>
oK (normO (build CC 38 [(0, v60)])) fun v61 =>
oK (rNil v55) fun v62 =>
oK (asPtr v62) fun p63 => oK (store CC h56 38 p63.1 p63.2 v61) fun h64 =>
K (.s (.int .i64 0)) h64 n57)) := by kernel_rfl

/-! F19 lockgate/lockgatelaw12.Long -/
theorem F19 : CC.F.get 19 = some Go.Proofs.Tryz.f19 := by kernel_rfl
theorem F19_eq (t0 : V) (h : Heap) (n : Nat) (K : V → Heap → Nat → Prop) : Wp CC (bodyOf Go.Proofs.Tryz.f19) ⟨initTm Go.Proofs.Tryz.f19 [t0], h, n, []⟩ (retW CC Go.Proofs.Tryz.f19 K) = (
oK (lenV CC h 22 t0) fun v1 =>
oK (binop CC .gtr 3 true v1 (.s (.int .i64 200))) fun v2 =>
oK (asBool v2) fun b3 => bif b3 then (
K (.s (.bool true)) h n) else (
LoopK CC none (subC [1, 1, 0, 1, 0, 0] (bodyOf Go.Proofs.Tryz.f19)) ⟨mkTm [t0, undefV, (.s (.bool false)), (.s (.int .i64 0)), t0, v1, v2, undefV, undefV, undefV, undefV, undefV, undefV, undefV, undefV, undefV, undefV, undefV, undefV, undefV, undefV, undefV, undefV, undefV, undefV, undefV, undefV, undefV, undefV], h, n, []⟩ (resume CC none [.blk 0, .sq (subC [1, 1, 1] (bodyOf Go.Proofs.Tryz.f19))] (retW CC Go.Proofs.Tryz.f19 K)))) := Wp.eq_of (by kernel_rfl)
theorem F19_call {t0 : V} {h : Heap} {n : Nat} {K : V → Heap → Nat → Prop} (H : (∀ b o, h.get b = some o → b < n) → Wp CC (bodyOf Go.Proofs.Tryz.f19) ⟨initTm Go.Proofs.Tryz.f19 [t0], h, n, []⟩ (retW CC Go.Proofs.Tryz.f19 K)) : CallK CC 19 [t0] h n K := by
  have := @callK_of CC CCok 19 Go.Proofs.Tryz.f19 (bodyOf Go.Proofs.Tryz.f19) [t0] h n K F19
  refine this ?_ ?_ ?_
  · kernel_rfl
  · kernel_rfl
  · exact H

def F19_L110100 (t0 t3 : V) (h : Heap) (n : Nat) (s : St) : Prop := ∃ f : Nat → V, s = ⟨mkTm [t0, (f 1), (f 2), t3, (f 4), (f 5), (f 6), (f 7), (f 8), (f 9), (f 10), (f 11), (f 12), (f 13), (f 14), (f 15), (f 16), (f 17), (f 18), (f 19), (f 20), (f 21), (f 22), (f 23), (f 24), (f 25), (f 26), (f 27), (f 28)], h, n, []⟩
theorem F19_L110100_of {t0 t3 : V} {t1 t2 t4 t5 t6 t7 t8 t9 t10 t11 t12 t13 t14 t15 t16 t17 t18 t19 t20 t21 t22 t23 t24 t25 t26 t27 t28 : V} {h : Heap} {n : Nat} : F19_L110100 t0 t3 h n ⟨mkTm [t0, t1, t2, t3, t4, t5, t6, t7, t8, t9, t10, t11, t12, t13, t14, t15, t16, t17, t18, t19, t20, t21, t22, t23, t24, t25, t26, t27, t28], h, n, []⟩ :=
  ⟨fun i => ([t0, t1, t2, t3, t4, t5, t6, t7, t8, t9, t10, t11, t12, t13, t14, t15, t16, t17, t18, t19, t20, t21, t22, t23, t24, t25, t26, t27, t28] : List V).getD i undefV, by kernel_rfl⟩
theorem F19_L110100_elim {t0 t3 : V} {h : Heap} {n : Nat} {s : St} {P : St → Prop} (hs : F19_L110100 t0 t3 h n s) (H : ∀ t1 t2 t4 t5 t6 t7 t8 t9 t10 t11 t12 t13 t14 t15 t16 t17 t18 t19 t20 t21 t22 t23 t24 t25 t26 t27 t28 : V, P ⟨mkTm [t0, t1, t2, t3, t4, t5, t6, t7, t8, t9, t10, t11, t12, t13, t14, t15, t16, t17, t18, t19, t20, t21, t22, t23, t24, t25, t26, t27, t28], h, n, []⟩) : P s := by
  obtain ⟨f, rfl⟩ := hs
  exact H (f 1) (f 2) (f 4) (f 5) (f 6) (f 7) (f 8) (f 9) (f 10) (f 11) (f 12) (f 13) (f 14) (f 15) (f 16) (f 17) (f 18) (f 19) (f 20) (f 21) (f 22) (f 23) (f 24) (f 25) (f 26) (f 27) (f 28)

theorem F19_b110100 (t0 t1 t2 t3 t4 t5 t6 t7 t8 t9 t10 t11 t12 t13 t14 t15 t16 t17 t18 t19 t20 t21 t22 t23 t24 t25 t26 t27 t28 : V) (h : Heap) (n : Nat) (Q : X → St → Prop) : Wp CC (subC [1, 1, 0, 1, 0, 0] (bodyOf Go.Proofs.Tryz.f19)) ⟨mkTm [t0, t1, t2, t3, t4, t5, t6, t7, t8, t9, t10, t11, t12, t13, t14, t15, t16, t17, t18, t19, t20, t21, t22, t23, t24, t25, t26, t27, t28], h, n, []⟩ Q = (
oK (lenV CC h 22 t0) fun v4 =>
oK (binop CC .lss 3 false t3 v4) fun v5 =>
oK (asBool v5) fun b6 => bif b6 then (
oK (indexAddr CC 22 t0 t3) fun v7 =>
oK (rFA CC 71 8 v7) fun v8 =>
oK (normO (rLoad CC 23 h v8)) fun v9 =>
oK (lenV CC h 23 v9) fun v10 =>
oK (binop CC .gtr 3 true v10 (.s (.int .i64 100))) fun v11 =>
oK (bif (rWant false v11) then some t0 else some undefV) fun v12 =>
oK (bif (rWant false v11) then some t3 else some undefV) fun v13 =>
oK (bif (rWant false v11) then indexAddr CC 22 v12 v13 else some undefV) fun v14 =>
oK (bif (rWant false v11) then rFA CC 71 9 v14 else some undefV) fun v15 =>
oK (bif (rWant false v11) then normO (rLoad CC 23 h v15) else some undefV) fun v16 =>
oK (bif (rWant false v11) then lenV CC h 23 v16 else some undefV) fun v17 =>
oK (bif (rWant false v11) then binop CC .gtr 3 true v17 (.s (.int .i64 200)) else some undefV) fun v18 =>
oK (rPick v11 (.s (.bool true)) v18) fun v19 =>
oK (asBool v19) fun b20 => bif b20 then (
Q .ret ⟨mkTm [t0, t1, (.s (.bool true)), t3, t4, t5, t6, t3, t0, v4, v5, t11, t12, t0, t3, v7, v8, v9, v10, v11, v11, v12, v13, v14, v15, v16, v17, v18, v19], h, n, []⟩) else (
oK (binop CC .add 3 true t3 (.s (.int .i64 1))) fun v21 =>
Q .normal ⟨mkTm [t0, t1, t2, v21, t4, t5, t6, t3, t0, v4, v5, t3, v21, t0, t3, v7, v8, v9, v10, v11, v11, v12, v13, v14, v15, v16, v17, v18, v19], h, n, []⟩)) else (
Q (.exit 0) ⟨mkTm [t0, t1, t2, t3, t4, t5, t6, t3, t0, v4, v5, t11, t12, t13, t14, t15, t16, t17, t18, t19, t20, t21, t22, t23, t24, t25, t26, t27, t28], h, n, []⟩)) := Wp.eq_of (by kernel_rfl)

theorem F19_r110100_0 (t0 t1 t2 t3 t4 t5 t6 t7 t8 t9 t10 t11 t12 t13 t14 t15 t16 t17 t18 t19 t20 t21 t22 t23 t24 t25 t26 t27 t28 : V) (h : Heap) (n : Nat) (K : V → Heap → Nat → Prop) : resume CC none [.blk 0, .sq (subC [1, 1, 1] (bodyOf Go.Proofs.Tryz.f19))] (retW CC Go.Proofs.Tryz.f19 K) (.exit 0) ⟨mkTm [t0, t1, t2, t3, t4, t5, t6, t7, t8, t9, t10, t11, t12, t13, t14, t15, t16, t17, t18, t19, t20, t21, t22, t23, t24, t25, t26, t27, t28], h, n, []⟩ = (
K (.s (.bool false)) h n) := by kernel_rfl

/-! F21 slices.Clone[[]byte,byte] -/
theorem F21 : CC.F.get 21 = some Go.Proofs.Tryz.f21 := by kernel_rfl
theorem F21_eq (t0 : V) (h : Heap) (n : Nat) (K : V → Heap → Nat → Prop) : Wp CC (bodyOf Go.Proofs.Tryz.f21) ⟨initTm Go.Proofs.Tryz.f21 [t0], h, n, []⟩ (retW CC Go.Proofs.Tryz.f21 K) = (
oK (binop CC .eql 23 true t0 (.s (.slice none 0 0))) fun v1 =>
oK (asBool v1) fun b2 => bif b2 then (
K (.s (.slice none 0 0)) h n) else (
fillK 1 ((zr CC 5).rep 0) [] fun c3 =>
let h4 := h.set n (.cells (.lst c3) 1); let n5 := n + 1;
appendK CC h4 n5 23 23 (.slice n 0 0 0 false) t0 fun v6 h7 n8 =>
K v6 h7 n8)) := Wp.eq_of (by kernel_rfl)
theorem F21_call {t0 : V} {h : Heap} {n : Nat} {K : V → Heap → Nat → Prop} (H : (∀ b o, h.get b = some o → b < n) → Wp CC (bodyOf Go.Proofs.Tryz.f21) ⟨initTm Go.Proofs.Tryz.f21 [t0], h, n, []⟩ (retW CC Go.Proofs.Tryz.f21 K)) : CallK CC 21 [t0] h n K := by
  have := @callK_of CC CCok 21 Go.Proofs.Tryz.f21 (bodyOf Go.Proofs.Tryz.f21) [t0] h n K F21
  refine this ?_ ?_ ?_
  · kernel_rfl
  · kernel_rfl
  · exact H

/-! F23 lockgate/cells.New -/
theorem F23 : CC.F.get 23 = some Go.Proofs.Tryz.f23 := by kernel_rfl
theorem F23_eq (h : Heap) (n : Nat) (K : V → Heap → Nat → Prop) : Wp CC (bodyOf Go.Proofs.Tryz.f23) ⟨initTm Go.Proofs.Tryz.f23 ([] : List V), h, n, []⟩ (retW CC Go.Proofs.Tryz.f23 K) = (
let h1 := h.set n (.map [] 0); let n2 := n + 1;
oK (normO (build CC 117 [(0, (.map n))])) fun v3 =>
oK (V.cells v3) fun c4 =>
let h5 := h1.set n2 (.cells (.lst c4.toList) 2); let n6 := n2 + 1;
K (.ptr n2 0) h5 n6) := Wp.eq_of (by kernel_rfl)
theorem F23_call {h : Heap} {n : Nat} {K : V → Heap → Nat → Prop} (H : (∀ b o, h.get b = some o → b < n) → Wp CC (bodyOf Go.Proofs.Tryz.f23) ⟨initTm Go.Proofs.Tryz.f23 ([] : List V), h, n, []⟩ (retW CC Go.Proofs.Tryz.f23 K)) : CallK CC 23 [] h n K := by
  have := @callK_of CC CCok 23 Go.Proofs.Tryz.f23 (bodyOf Go.Proofs.Tryz.f23) [] h n K F23
  refine this ?_ ?_ ?_
  · kernel_rfl
  · kernel_rfl
  · exact H

/-! F24 lockgate/lockgatekit.LentBytes -/
theorem F24 : CC.F.get 24 = some Go.Proofs.Tryz.f24 := by kernel_rfl
theorem F24_eq (t0 : V) (h : Heap) (n : Nat) (K : V → Heap → Nat → Prop) : Wp CC (bodyOf Go.Proofs.Tryz.f24) ⟨initTm Go.Proofs.Tryz.f24 [t0], h, n, []⟩ (retW CC Go.Proofs.Tryz.f24 K) = (
CallK CC 45 [t0] h n fun v1 h2 n3 =>
LoopK CC none (subC [1, 1, 0, 1, 0, 0] (bodyOf Go.Proofs.Tryz.f24)) ⟨mkTm [t0, undefV, (.s (.slice none 0 0)), v1, (.s (.int .i64 0)), t0, v1, undefV, undefV, undefV, undefV, undefV, undefV, undefV, undefV, undefV, undefV], h2, n3, []⟩ (resume CC none [.blk 0, .sq (subC [1, 1, 1] (bodyOf Go.Proofs.Tryz.f24))] (retW CC Go.Proofs.Tryz.f24 K))) := Wp.eq_of (by kernel_rfl)
theorem F24_call {t0 : V} {h : Heap} {n : Nat} {K : V → Heap → Nat → Prop} (H : (∀ b o, h.get b = some o → b < n) → Wp CC (bodyOf Go.Proofs.Tryz.f24) ⟨initTm Go.Proofs.Tryz.f24 [t0], h, n, []⟩ (retW CC Go.Proofs.Tryz.f24 K)) : CallK CC 24 [t0] h n K := by
  have := @callK_of CC CCok 24 Go.Proofs.Tryz.f24 (bodyOf Go.Proofs.Tryz.f24) [t0] h n K F24
  refine this ?_ ?_ ?_
  · kernel_rfl
  · kernel_rfl
  · exact H

def F24_L110100 (t3 t4 : V) (h : Heap) (n : Nat) (s : St) : Prop := ∃ f : Nat → V, s = ⟨mkTm [(f 0), (f 1), (f 2), t3, t4, (f 5), (f 6), (f 7), (f 8), (f 9), (f 10), (f 11), (f 12), (f 13), (f 14), (f 15), (f 16)], h, n, []⟩
theorem F24_L110100_of {t3 t4 : V} {t0 t1 t2 t5 t6 t7 t8 t9 t10 t11 t12 t13 t14 t15 t16 : V} {h : Heap} {n : Nat} : F24_L110100 t3 t4 h n ⟨mkTm [t0, t1, t2, t3, t4, t5, t6, t7, t8, t9, t10, t11, t12, t13, t14, t15, t16], h, n, []⟩ :=
  ⟨fun i => ([t0, t1, t2, t3, t4, t5, t6, t7, t8, t9, t10, t11, t12, t13, t14, t15, t16] : List V).getD i undefV, by kernel_rfl⟩
theorem F24_L110100_elim {t3 t4 : V} {h : Heap} {n : Nat} {s : St} {P : St → Prop} (hs : F24_L110100 t3 t4 h n s) (H : ∀ t0 t1 t2 t5 t6 t7 t8 t9 t10 t11 t12 t13 t14 t15 t16 : V, P ⟨mkTm [t0, t1, t2, t3, t4, t5, t6, t7, t8, t9, t10, t11, t12, t13, t14, t15, t16], h, n, []⟩) : P s := by
  obtain ⟨f, rfl⟩ := hs
  exact H (f 0) (f 1) (f 2) (f 5) (f 6) (f 7) (f 8) (f 9) (f 10) (f 11) (f 12) (f 13) (f 14) (f 15) (f 16)

theorem F24_b110100 (t0 t1 t2 t3 t4 t5 t6 t7 t8 t9 t10 t11 t12 t13 t14 t15 t16 : V) (h : Heap) (n : Nat) (Q : X → St → Prop) : Wp CC (subC [1, 1, 0, 1, 0, 0] (bodyOf Go.Proofs.Tryz.f24)) ⟨mkTm [t0, t1, t2, t3, t4, t5, t6, t7, t8, t9, t10, t11, t12, t13, t14, t15, t16], h, n, []⟩ Q = (
oK (binop CC .lss 3 true t4 (.s (.int .i64 5))) fun v4 =>
oK (asBool v4) fun b5 => bif b5 then (
CallK CC 46 [t4] h n fun v6 h7 n8 =>
fillK 1 ((zr CC 5).rep 1) [(0, v6)] fun c9 =>
let h10 := h7.set n8 (.cells (.lst c9) 1); let n11 := n8 + 1;
appendK CC h10 n11 23 23 t3 (.slice n8 0 1 1 false) fun v12 h13 n14 =>
oK (binop CC .add 3 true t4 (.s (.int .i64 1))) fun v15 =>
Q .normal ⟨mkTm [t0, t1, t2, v12, v15, t5, t6, t4, v4, t4, v15, t3, t4, v6, (.slice n8 0 1 1 false), v12, t16], h13, n14, []⟩) else (
Q (.exit 0) ⟨mkTm [t0, t1, t2, t3, t4, t5, t6, t4, v4, t9, t10, t11, t12, t13, t14, t15, t16], h, n, []⟩)) := Wp.eq_of (by kernel_rfl)

theorem F24_r110100_0 (t0 t1 t2 t3 t4 t5 t6 t7 t8 t9 t10 t11 t12 t13 t14 t15 t16 : V) (h : Heap) (n : Nat) (K : V → Heap → Nat → Prop) : resume CC none [.blk 0, .sq (subC [1, 1, 1] (bodyOf Go.Proofs.Tryz.f24))] (retW CC Go.Proofs.Tryz.f24 K) (.exit 0) ⟨mkTm [t0, t1, t2, t3, t4, t5, t6, t7, t8, t9, t10, t11, t12, t13, t14, t15, t16], h, n, []⟩ = (
K t3 h n) := by kernel_rfl

/-! F25 (*lockgate/maps.Maps).Create -/
theorem F25 : CC.F.get 25 = some Go.Proofs.Tryz.f25 := by kernel_rfl
theorem F25_eq (t0 t1 : V) (h : Heap) (n : Nat) (K : V → Heap → Nat → Prop) : Wp CC (bodyOf Go.Proofs.Tryz.f25) ⟨initTm Go.Proofs.Tryz.f25 [t0, t1], h, n, []⟩ (retW CC Go.Proofs.Tryz.f25 K) = (
oK (V.cells t1) fun c1 =>
let h2 := h.set n (.cells (.lst c1.toList) 4); let n3 := n + 1;
oK (rNil t0) fun v4 =>
oK (rFA CC 98 1 v4) fun v5 =>
oK (normO (rLoad CC 95 h2 v5)) fun v6 =>
oK (lenV CC h2 95 v6) fun v7 =>
oK (binop CC .geq 3 true v7 (.s (.int .i64 8))) fun v8 =>
oK (asBool v8) fun b9 => bif b9 then (
K (.tup [(.s (.int .i64 0)), (.s (.int .i64 9))]) h2 n3) else (
oK (rFA CC 69 0 (.ptr n 0)) fun v10 =>
oK (normO (rLoad CC 3 h2 v10)) fun v11 =>
CallK CC 47 [v11, (.s (.int .i64 1)), (.s (.int .i64 4))] h2 n3 fun v12 h13 n14 =>
oK (rUn CC .not v12) fun v15 =>
oK (asBool v15) fun b16 => bif b16 then (
K (.tup [(.s (.int .i64 0)), (.s (.int .i64 13))]) h13 n14) else (
oK (normO (rLoad CC 69 h13 (.ptr n 0))) fun v17 =>
CallK CC 48 [v17] h13 n14 fun v18 h19 n20 =>
oK (rUn CC .not v18) fun v21 =>
oK (asBool v21) fun b22 => bif b22 then (
K (.tup [(.s (.int .i64 0)), (.s (.int .i64 14))]) h19 n20) else (
oK (normO (rLoad CC 69 h19 (.ptr n 0))) fun v23 =>
oK (normO (build CC 124 [(0, v23)])) fun v24 =>
oK (V.cells v24) fun c25 =>
let h26 := h19.set n20 (.cells (.lst c25.toList) 6); let n27 := n20 + 1;
oK (rFA CC 69 0 (.ptr n 0)) fun v28 =>
oK (normO (rLoad CC 3 h26 v28)) fun v29 =>
oK (binop CC .eql 3 true v29 (.s (.int .i64 1))) fun v30 =>
oK (asBool v30) fun b31 => bif b31 then (
oK (rNil t0) fun v32 =>
oK (rFA CC 98 0 v32) fun v33 =>
oK (normO (rLoad CC 93 h26 v33)) fun v34 =>
oK (rFA CC 69 3 (.ptr n 0)) fun v35 =>
oK (normO (rLoad CC 3 h26 v35)) fun v36 =>
oK (rFA CC 69 2 (.ptr n 0)) fun v37 =>
oK (normO (rLoad CC 3 h26 v37)) fun v38 =>
CallK CC 49 [v34, v36, v38] h26 (n27 + 14) fun v39 h40 n41 =>
(True ∧ True ∧ True ∧ True) ∧
oK (rNil (.ptr n20 0)) fun v42 =>
oK (rFA CC 124 1 v42) fun v43 =>
oK (asPtr v43) fun p44 => oK (store CC h40 20 p44.1 p44.2 (.iface 125 v39)) fun h45 =>
(True ∧ True ∧ True ∧ True) ∧
oK (rNil t0) fun v46 =>
oK (rFA CC 98 1 v46) fun v47 =>
oK (normO (rLoad CC 95 h45 v47)) fun v48 =>
fillK 1 ((zr CC 121).rep 1) [(0, (.ptr n20 0))] fun c49 =>
let h50 := h45.set n41 (.cells (.lst c49) 1); let n51 := n41 + 1;
appendK CC h50 n51 95 95 v48 (.slice n41 0 1 1 false) fun v52 h53 n54 =>
oK (rNil t0) fun v55 =>
oK (rFA CC 98 1 v55) fun v56 =>
oK (asPtr v56) fun p57 => oK (store CC h53 95 p57.1 p57.2 v52) fun h58 =>
oK (rNil t0) fun v59 =>
oK (rFA CC 98 1 v59) fun v60 =>
oK (normO (rLoad CC 95 h58 v60)) fun v61 =>
oK (lenV CC h58 95 v61) fun v62 =>
K (.tup [v62, (.s (.int .i64 0))]) h58 n54) else (
oK (binop CC .eql 3 true v29 (.s (.int .i64 2))) fun v63 =>
oK (asBool v63) fun b64 => bif b64 then (
oK (rFA CC 69 1 (.ptr n 0)) fun v65 =>
oK (normO (rLoad CC 3 h26 v65)) fun v66 =>
oK (rFA CC 69 3 (.ptr n 0)) fun v67 =>
oK (normO (rLoad CC 3 h26 v67)) fun v68 =>
CallK CC 50 [v66, v68] h26 n27 fun v69 h70 n71 =>
oK (rNil (.ptr n20 0)) fun v72 =>
oK (rFA CC 124 1 v72) fun v73 =>
oK (asPtr v73) fun p74 => oK (store CC h70 20 p74.1 p74.2 (.iface 127 v69)) fun h75 =>
oK (rNil t0) fun v76 =>
oK (rFA CC 98 1 v76) fun v77 =>
oK (normO (rLoad CC 95 h75 v77)) fun v78 =>
fillK 1 ((zr CC 121).rep 1) [(0, (.ptr n20 0))] fun c79 =>
let h80 := h75.set n71 (.cells (.lst c79) 1); let n81 := n71 + 1;
appendK CC h80 n81 95 95 v78 (.slice n71 0 1 1 false) fun v82 h83 n84 =>
oK (rNil t0) fun v85 =>
oK (rFA CC 98 1 v85) fun v86 =>
oK (asPtr v86) fun p87 => oK (store CC h83 95 p87.1 p87.2 v82) fun h88 =>
oK (rNil t0) fun v89 =>
oK (rFA CC 98 1 v89) fun v90 =>
oK (normO (rLoad CC 95 h88 v90)) fun v91 =>
oK (lenV CC h88 95 v91) fun v92 =>
K (.tup [v92, (.s (.int .i64 0))]) h88 n84) else (
oK (binop CC .eql 3 true v29 (.s (.int .i64 3))) fun v93 =>
oK (asBool v93) fun b94 => bif b94 then (
oK (rFA CC 69 1 (.ptr n 0)) fun v95 =>
oK (normO (rLoad CC 3 h26 v95)) fun v96 =>
oK (rFA CC 69 3 (.ptr n 0)) fun v97 =>
oK (normO (rLoad CC 3 h26 v97)) fun v98 =>
CallK CC 51 [v96, v98] h26 n27 fun v99 h100 n101 =>
oK (rNil (.ptr n20 0)) fun v102 =>
oK (rFA CC 124 1 v102) fun v103 =>
oK (asPtr v103) fun p104 => oK (store CC h100 20 p104.1 p104.2 (.iface 129 v99)) fun h105 =>
oK (rNil t0) fun v106 =>
oK (rFA CC 98 1 v106) fun v107 =>
oK (normO (rLoad CC 95 h105 v107)) fun v108 =>
fillK 1 ((zr CC 121).rep 1) [(0, (.ptr n20 0))] fun c109 =>
let h110 := h105.set n101 (.cells (.lst c109) 1); let n111 := n101 + 1;
appendK CC h110 n111 95 95 v108 (.slice n101 0 1 1 false) fun v112 h113 n114 =>
oK (rNil t0) fun v115 =>
oK (rFA CC 98 1 v115) fun v116 =>
oK (asPtr v116) fun p117 => oK (store CC h113 95 p117.1 p117.2 v112) fun h118 =>
oK (rNil t0) fun v119 =>
oK (rFA CC 98 1 v119) fun v120 =>
oK (normO (rLoad CC 95 h118 v120)) fun v121 =>
oK (lenV CC h118 95 v121) fun v122 =>
K (.tup [v122, (.s (.int .i64 0))]) h118 n114) else (
oK (rFA CC 69 3 (.ptr n 0)) fun v123 =>
oK (normO (rLoad CC 3 h26 v123)) fun v124 =>
oK (asNat v124) fun l125 => oK (asNat v124) fun c126 =>
bif Nat.ble l125 c126 && (Nat.ble (8 * c126) 281474976710656 && (Nat.blt c126 9223372036854775808 && true)) then (
let h127 := h26.set n27 (.cells (.lst ((zr CC 3).rep c126).toList) 1); let n128 := n27 + 1;
oK (rNil (.ptr n20 0)) fun v129 =>
oK (rFA CC 124 2 v129) fun v130 =>
oK (asPtr v130) fun p131 => oK (store CC h127 122 p131.1 p131.2 (.slice n27 0 l125 c126 false)) fun h132 =>
oK (rNil t0) fun v133 =>
oK (rFA CC 98 1 v133) fun v134 =>
oK (normO (rLoad CC 95 h132 v134)) fun v135 =>
fillK 1 ((zr CC 121).rep 1) [(0, (.ptr n20 0))] fun c136 =>
let h137 := h132.set n128 (.cells (.lst c136) 1); let n138 := n128 + 1;
appendK CC h137 n138 95 95 v135 (.slice n128 0 1 1 false) fun v139 h140 n141 =>
oK (rNil t0) fun v142 =>
oK (rFA CC 98 1 v142) fun v143 =>
oK (asPtr v143) fun p144 => oK (store CC h140 95 p144.1 p144.2 v139) fun h145 =>
oK (rNil t0) fun v146 =>
oK (rFA CC 98 1 v146) fun v147 =>
oK (normO (rLoad CC 95 h145 v147)) fun v148 =>
oK (lenV CC h145 95 v148) fun v149 =>
K (.tup [v149, (.s (.int .i64 0))]) h145 n141) else False))))))) := Wp.eq_of (by kernel_rfl)
theorem F25_call {t0 t1 : V} {h : Heap} {n : Nat} {K : V → Heap → Nat → Prop} (H : (∀ b o, h.get b = some o → b < n) → Wp CC (bodyOf Go.Proofs.Tryz.f25) ⟨initTm Go.Proofs.Tryz.f25 [t0, t1], h, n, []⟩ (retW CC Go.Proofs.Tryz.f25 K)) : CallK CC 25 [t0, t1] h n K := by
  have := @callK_of CC CCok 25 Go.Proofs.Tryz.f25 (bodyOf Go.Proofs.Tryz.f25) [t0, t1] h n K F25
  refine this ?_ ?_ ?_
  · kernel_rfl
  · kernel_rfl
  · exact H

/-! F26 (*lockgate/maps.Maps).Find -/
theorem F26 : CC.F.get 26 = some Go.Proofs.Tryz.f26 := by kernel_rfl
theorem F26_eq (t0 t1 t2 : V) (h : Heap) (n : Nat) (K : V → Heap → Nat → Prop) : Wp CC (bodyOf Go.Proofs.Tryz.f26) ⟨initTm Go.Proofs.Tryz.f26 [t0, t1, t2], h, n, []⟩ (retW CC Go.Proofs.Tryz.f26 K) = (
CallK CC 52 [t0, t1] h n fun v1 h2 n3 =>
CallK CC 53 [v1, t2, (.s (.bool true))] h2 n3 fun v4 h5 n6 =>
oK (rExt v4 0) fun v7 =>
oK (rExt v4 1) fun v8 =>
K (.tup [v7, v8]) h5 n6) := Wp.eq_of (by kernel_rfl)
theorem F26_call {t0 t1 t2 : V} {h : Heap} {n : Nat} {K : V → Heap → Nat → Prop} (H : (∀ b o, h.get b = some o → b < n) → Wp CC (bodyOf Go.Proofs.Tryz.f26) ⟨initTm Go.Proofs.Tryz.f26 [t0, t1, t2], h, n, []⟩ (retW CC Go.Proofs.Tryz.f26 K)) : CallK CC 26 [t0, t1, t2] h n K := by
  have := @callK_of CC CCok 26 Go.Proofs.Tryz.f26 (bodyOf Go.Proofs.Tryz.f26) [t0, t1, t2] h n K F26
  refine this ?_ ?_ ?_
  · kernel_rfl
  · kernel_rfl
  · exact H

/-! F27 (*lockgate/maps.Maps).Peek -/
theorem F27 : CC.F.get 27 = some Go.Proofs.Tryz.f27 := by kernel_rfl
theorem F27_eq (t0 t1 t2 : V) (h : Heap) (n : Nat) (K : V → Heap → Nat → Prop) : Wp CC (bodyOf Go.Proofs.Tryz.f27) ⟨initTm Go.Proofs.Tryz.f27 [t0, t1, t2], h, n, []⟩ (retW CC Go.Proofs.Tryz.f27 K) = (
CallK CC 52 [t0, t1] h n fun v1 h2 n3 =>
CallK CC 53 [v1, t2, (.s (.bool false))] h2 n3 fun v4 h5 n6 =>
oK (rExt v4 0) fun v7 =>
oK (rExt v4 1) fun v8 =>
K (.tup [v7, v8]) h5 n6) := Wp.eq_of (by kernel_rfl)
theorem F27_call {t0 t1 t2 : V} {h : Heap} {n : Nat} {K : V → Heap → Nat → Prop} (H : (∀ b o, h.get b = some o → b < n) → Wp CC (bodyOf Go.Proofs.Tryz.f27) ⟨initTm Go.Proofs.Tryz.f27 [t0, t1, t2], h, n, []⟩ (retW CC Go.Proofs.Tryz.f27 K)) : CallK CC 27 [t0, t1, t2] h n K := by
  have := @callK_of CC CCok 27 Go.Proofs.Tryz.f27 (bodyOf Go.Proofs.Tryz.f27) [t0, t1, t2] h n K F27
  refine this ?_ ?_ ?_
  · kernel_rfl
  · kernel_rfl
  · exact H

/-! F28 (*lockgate/maps.Maps).Update -/
theorem F28 : CC.F.get 28 = some Go.Proofs.Tryz.f28 := by kernel_rfl
theorem F28_eq (t0 t1 t2 t3 : V) (h : Heap) (n : Nat) (K : V → Heap → Nat → Prop) : Wp CC (bodyOf Go.Proofs.Tryz.f28) ⟨initTm Go.Proofs.Tryz.f28 [t0, t1, t2, t3], h, n, []⟩ (retW CC Go.Proofs.Tryz.f28 K) = (
CallK CC 52 [t0, t1] h n fun v1 h2 n3 =>
oK (binop CC .eql 121 true v1 (.s (.pointer none))) fun v4 =>
oK (asBool v4) fun b5 => bif b5 then (
K (.s (.int .i64 10)) h2 n3) else (
oK (rNil v1) fun v6 =>
oK (rFA CC 124 1 v6) fun v7 =>
oK (normO (rLoad CC 20 h2 v7)) fun v8 =>
oK (binop CC .eql 20 true v8 (.s .nilIface)) fun v9 =>
oK (asBool v9) fun b10 => bif b10 then (
K (.s (.int .i64 13)) h2 n3) else (
oK (lenV CC h2 23 t2) fun v11 =>
oK (rNil v1) fun v12 =>
oK (rFA CC 124 0 v12) fun v13 =>
oK (rFA CC 69 1 v13) fun v14 =>
oK (normO (rLoad CC 3 h2 v14)) fun v15 =>
oK (binop CC .neq 3 false v11 v15) fun v16 =>
oK (bif (rWant false v16) then some t3 else some undefV) fun v17 =>
oK (bif (rWant false v16) then lenV CC h2 23 v17 else some undefV) fun v18 =>
oK (bif (rWant false v16) then some v1 else some undefV) fun v19 =>
oK (bif (rWant false v16) then rNil v19 else some undefV) fun v20 =>
oK (bif (rWant false v16) then rFA CC 124 0 v20 else some undefV) fun v21 =>
oK (bif (rWant false v16) then rFA CC 69 2 v21 else some undefV) fun v22 =>
oK (bif (rWant false v16) then normO (rLoad CC 3 h2 v22) else some undefV) fun v23 =>
oK (bif (rWant false v16) then binop CC .neq 3 false v18 v23 else some undefV) fun v24 =>
oK (rPick v16 (.s (.bool true)) v24) fun v25 =>
oK (asBool v25) fun b26 => bif b26 then (
K (.s (.int .i64 14)) h2 n3) else (
CallK CC 53 [v1, t2, (.s (.bool true))] h2 n3 fun v27 h28 n29 =>
oK (rExt v27 0) fun v30 =>
oK (rExt v27 1) fun v31 =>
oK (asBool v31) fun b32 => bif b32 then (
oK (rNil t0) fun v33 =>
oK (rFA CC 98 0 v33) fun v34 =>
oK (normO (rLoad CC 93 h28 v34)) fun v35 =>
oK (rNil t0) fun v36 =>
oK (rFA CC 98 2 v36) fun v37 =>
oK (normO (rLoad CC 3 h28 v37)) fun v38 =>
CallK CC 54 [v35, v30, t3, v38] h28 (n29 + 11) fun v39 h40 n41 =>
(True ∧ True ∧ True) ∧
oK (normO (build CC 136 [(0, (.s (.int .i64 2))), (3, v30)])) fun v42 =>
CallK CC 55 [t0, v42] h40 n41 fun v43 h44 n45 =>
K (.s (.int .i64 0)) h44 n45) else (
oK (rNil v1) fun v46 =>
oK (rFA CC 124 1 v46) fun v47 =>
oK (normO (rLoad CC 20 h28 v47)) fun v48 =>
oK (typeAssert CC v48 125 true) fun v49 =>
oK (rExt v49 1) fun v50 =>
oK (rExt v49 0) fun v51 =>
oK (asBool v50) fun b52 => bif b52 then (
K (.s (.int .i64 15)) h28 n29) else (
oK (typeAssert CC v48 127 true) fun v53 =>
oK (rExt v53 1) fun v54 =>
oK (rExt v53 0) fun v55 =>
oK (asBool v54) fun b56 => bif b56 then (
oK (rNil v1) fun v57 =>
oK (rFA CC 124 0 v57) fun v58 =>
oK (rFA CC 69 3 v58) fun v59 =>
oK (normO (rLoad CC 3 h28 v59)) fun v60 =>
CallK CC 56 [v55] h28 (n29 + 8) fun v61 h62 n63 =>
(normO (rLoad CC 3 h62 v59) = some v60 ∧ True) ∧
oK (binop CC .eql 3 false v61 v60) fun v64 =>
oK (asBool v64) fun b65 => bif b65 then (
K (.s (.int .i64 12)) h62 n63) else (
CallK CC 57 [t0, t1, t2, t3] h62 n63 fun v66 h67 n68 =>
K (.s (.int .i64 0)) h67 n68)) else (
CallK CC 57 [t0, t1, t2, t3] h28 n29 fun v69 h70 n71 =>
K (.s (.int .i64 0)) h70 n71))))))) := Wp.eq_of (by kernel_rfl)
theorem F28_call {t0 t1 t2 t3 : V} {h : Heap} {n : Nat} {K : V → Heap → Nat → Prop} (H : (∀ b o, h.get b = some o → b < n) → Wp CC (bodyOf Go.Proofs.Tryz.f28) ⟨initTm Go.Proofs.Tryz.f28 [t0, t1, t2, t3], h, n, []⟩ (retW CC Go.Proofs.Tryz.f28 K)) : CallK CC 28 [t0, t1, t2, t3] h n K := by
  have := @callK_of CC CCok 28 Go.Proofs.Tryz.f28 (bodyOf Go.Proofs.Tryz.f28) [t0, t1, t2, t3] h n K F28
  refine this ?_ ?_ ?_
  · kernel_rfl
  · kernel_rfl
  · exact H

/-! F29 (*lockgate/maps.Maps).Delete -/
theorem F29 : CC.F.get 29 = some Go.Proofs.Tryz.f29 := by kernel_rfl
theorem F29_eq (t0 t1 t2 : V) (h : Heap) (n : Nat) (K : V → Heap → Nat → Prop) : Wp CC (bodyOf Go.Proofs.Tryz.f29) ⟨initTm Go.Proofs.Tryz.f29 [t0, t1, t2], h, n, []⟩ (retW CC Go.Proofs.Tryz.f29 K) = (
CallK CC 52 [t0, t1] h n fun v1 h2 n3 =>
oK (binop CC .eql 121 true v1 (.s (.pointer none))) fun v4 =>
oK (asBool v4) fun b5 => bif b5 then (
K (.s (.int .i64 10)) h2 n3) else (
oK (rNil v1) fun v6 =>
oK (rFA CC 124 1 v6) fun v7 =>
oK (normO (rLoad CC 20 h2 v7)) fun v8 =>
oK (typeAssert CC v8 139 true) fun v9 =>
oK (rExt v9 0) fun v10 =>
oK (rExt v9 1) fun v11 =>
oK (rUn CC .not v11) fun v12 =>
oK (asBool v12) fun b13 => bif b13 then (
K (.s (.int .i64 13)) h2 n3) else (
oK (lenV CC h2 23 t2) fun v14 =>
oK (rNil v1) fun v15 =>
oK (rFA CC 124 0 v15) fun v16 =>
oK (rFA CC 69 1 v16) fun v17 =>
oK (normO (rLoad CC 3 h2 v17)) fun v18 =>
oK (binop CC .neq 3 false v14 v18) fun v19 =>
oK (asBool v19) fun b20 => bif b20 then (
K (.s (.int .i64 14)) h2 n3) else (
invokeW CC v10 "Del" [t2] h2 n3 fun v21 h22 n23 =>
oK (rExt v21 0) fun v24 =>
oK (rExt v21 1) fun v25 =>
oK (rUn CC .not v25) fun v26 =>
oK (asBool v26) fun b27 => bif b27 then (
K (.s (.int .i64 10)) h22 n23) else (
oK (rNil t0) fun v28 =>
oK (rFA CC 98 0 v28) fun v29 =>
oK (normO (rLoad CC 93 h22 v29)) fun v30 =>
CallK CC 58 [v30, v24] h22 n23 fun v31 h32 n33 =>
CallK CC 59 [t0, t1, t2] h32 n33 fun v34 h35 n36 =>
K (.s (.int .i64 0)) h35 n36))))) := Wp.eq_of (by kernel_rfl)
theorem F29_call {t0 t1 t2 : V} {h : Heap} {n : Nat} {K : V → Heap → Nat → Prop} (H : (∀ b o, h.get b = some o → b < n) → Wp CC (bodyOf Go.Proofs.Tryz.f29) ⟨initTm Go.Proofs.Tryz.f29 [t0, t1, t2], h, n, []⟩ (retW CC Go.Proofs.Tryz.f29 K)) : CallK CC 29 [t0, t1, t2] h n K := by
  have := @callK_of CC CCok 29 Go.Proofs.Tryz.f29 (bodyOf Go.Proofs.Tryz.f29) [t0, t1, t2] h n K F29
  refine this ?_ ?_ ?_
  · kernel_rfl
  · kernel_rfl
  · exact H

/-! F30 (*lockgate/maps.Maps).SetProg -/
theorem F30 : CC.F.get 30 = some Go.Proofs.Tryz.f30 := by kernel_rfl
theorem F30_eq (t0 t1 t2 t3 : V) (h : Heap) (n : Nat) (K : V → Heap → Nat → Prop) : Wp CC (bodyOf Go.Proofs.Tryz.f30) ⟨initTm Go.Proofs.Tryz.f30 [t0, t1, t2, t3], h, n, []⟩ (retW CC Go.Proofs.Tryz.f30 K) = (
CallK CC 52 [t0, t1] h n fun v1 h2 n3 =>
oK (binop CC .eql 121 true v1 (.s (.pointer none))) fun v4 =>
oK (asBool v4) fun b5 => bif b5 then (
K (.s (.int .i64 10)) h2 n3) else (
oK (rNil v1) fun v6 =>
oK (rFA CC 124 1 v6) fun v7 =>
oK (normO (rLoad CC 20 h2 v7)) fun v8 =>
oK (binop CC .neq 20 true v8 (.s .nilIface)) fun v9 =>
oK (asBool v9) fun b10 => bif b10 then (
K (.s (.int .i64 13)) h2 n3) else (
oK (rNil v1) fun v11 =>
oK (rFA CC 124 0 v11) fun v12 =>
oK (rFA CC 69 3 v12) fun v13 =>
oK (normO (rLoad CC 3 h2 v13)) fun v14 =>
oK (binop CC .sub 3 true v14 (.s (.int .i64 1))) fun v15 =>
CallK CC 47 [t2, (.s (.int .i64 0)), v15] h2 n3 fun v16 h17 n18 =>
oK (rUn CC .not v16) fun v19 =>
oK (asBool v19) fun b20 => bif b20 then (
K (.s (.int .i64 15)) h17 n18) else (
oK (binop CC .lss 3 true t3 (.s (.int .i64 0))) fun v21 =>
oK (asBool v21) fun b22 => bif b22 then (
K (.s (.int .i64 1)) h17 n18) else (
oK (rNil v1) fun v23 =>
oK (rFA CC 124 2 v23) fun v24 =>
oK (normO (rLoad CC 122 h17 v24)) fun v25 =>
oK (indexAddr CC 122 v25 t2) fun v26 =>
oK (asPtr v26) fun p27 => oK (store CC h17 3 p27.1 p27.2 t3) fun h28 =>
oK (normO (build CC 136 [(0, (.s (.int .i64 3))), (1, t1), (2, t2)])) fun v29 =>
CallK CC 55 [t0, v29] h28 n18 fun v30 h31 n32 =>
K (.s (.int .i64 0)) h31 n32))))) := Wp.eq_of (by kernel_rfl)
theorem F30_call {t0 t1 t2 t3 : V} {h : Heap} {n : Nat} {K : V → Heap → Nat → Prop} (H : (∀ b o, h.get b = some o → b < n) → Wp CC (bodyOf Go.Proofs.Tryz.f30) ⟨initTm Go.Proofs.Tryz.f30 [t0, t1, t2, t3], h, n, []⟩ (retW CC Go.Proofs.Tryz.f30 K)) : CallK CC 30 [t0, t1, t2, t3] h n K := by
  have := @callK_of CC CCok 30 Go.Proofs.Tryz.f30 (bodyOf Go.Proofs.Tryz.f30) [t0, t1, t2, t3] h n K F30
  refine this ?_ ?_ ?_
  · kernel_rfl
  · kernel_rfl
  · exact H

/-! F31 (*lockgate/maps.Maps).Store -/
theorem F31 : CC.F.get 31 = some Go.Proofs.Tryz.f31 := by kernel_rfl
theorem F31_eq (t0 t1 t2 t3 t4 : V) (h : Heap) (n : Nat) (K : V → Heap → Nat → Prop) : Wp CC (bodyOf Go.Proofs.Tryz.f31) ⟨initTm Go.Proofs.Tryz.f31 [t0, t1, t2, t3, t4], h, n, []⟩ (retW CC Go.Proofs.Tryz.f31 K) = (
oK (rNil t0) fun v1 =>
oK (rFA CC 98 0 v1) fun v2 =>
oK (normO (rLoad CC 93 h v2)) fun v3 =>
oK (rNil t0) fun v4 =>
oK (rFA CC 98 2 v4) fun v5 =>
oK (normO (rLoad CC 3 h v5)) fun v6 =>
CallK CC 60 [v3, t1, t2, t3, t4, v6] h (n + 14) fun v7 h8 n9 =>
(True ∧ True ∧ True) ∧
oK (rUn CC .not v7) fun v10 =>
oK (asBool v10) fun b11 => bif b11 then (
K (.s (.bool false)) h8 n9) else (
oK (normO (build CC 136 [(0, (.s (.int .i64 2))), (3, t1)])) fun v12 =>
CallK CC 55 [t0, v12] h8 n9 fun v13 h14 n15 =>
K (.s (.bool true)) h14 n15)) := Wp.eq_of (by kernel_rfl)
theorem F31_call {t0 t1 t2 t3 t4 : V} {h : Heap} {n : Nat} {K : V → Heap → Nat → Prop} (H : (∀ b o, h.get b = some o → b < n) → Wp CC (bodyOf Go.Proofs.Tryz.f31) ⟨initTm Go.Proofs.Tryz.f31 [t0, t1, t2, t3, t4], h, n, []⟩ (retW CC Go.Proofs.Tryz.f31 K)) : CallK CC 31 [t0, t1, t2, t3, t4] h n K := by
  have := @callK_of CC CCok 31 Go.Proofs.Tryz.f31 (bodyOf Go.Proofs.Tryz.f31) [t0, t1, t2, t3, t4] h n K F31
  refine this ?_ ?_ ?_
  · kernel_rfl
  · kernel_rfl
  · exact H

/-! F32 (*lockgate/maps.Maps).Tick -/
theorem F32 : CC.F.get 32 = some Go.Proofs.Tryz.f32 := by kernel_rfl
theorem F32_eq (t0 t1 : V) (h : Heap) (n : Nat) (K : V → Heap → Nat → Prop) : Wp CC (bodyOf Go.Proofs.Tryz.f32) ⟨initTm Go.Proofs.Tryz.f32 [t0, t1], h, n, []⟩ (retW CC Go.Proofs.Tryz.f32 K) = (
oK (rNil t0) fun v1 =>
oK (rFA CC 98 2 v1) fun v2 =>
oK (normO (rLoad CC 3 h v2)) fun v3 =>
oK (rMax CC #[3, 3] 3 [t1, (.s (.int .i64 0))]) fun v4 =>
oK (rMin CC #[3, 3] 3 [v4, (.s (.int .i64 1099511627776))]) fun v5 =>
oK (binop CC .add 3 false v3 v5) fun v6 =>
oK (rNil t0) fun v7 =>
oK (rFA CC 98 2 v7) fun v8 =>
oK (asPtr v8) fun p9 => oK (store CC h 3 p9.1 p9.2 v6) fun h10 =>
K (.tup []) h10 n) := Wp.eq_of (by kernel_rfl)
theorem F32_call {t0 t1 : V} {h : Heap} {n : Nat} {K : V → Heap → Nat → Prop} (H : (∀ b o, h.get b = some o → b < n) → Wp CC (bodyOf Go.Proofs.Tryz.f32) ⟨initTm Go.Proofs.Tryz.f32 [t0, t1], h, n, []⟩ (retW CC Go.Proofs.Tryz.f32 K)) : CallK CC 32 [t0, t1] h n K := by
  have := @callK_of CC CCok 32 Go.Proofs.Tryz.f32 (bodyOf Go.Proofs.Tryz.f32) [t0, t1] h n K F32
  refine this ?_ ?_ ?_
  · kernel_rfl
  · kernel_rfl
  · exact H

/-! F33 (*lockgate/maps.Maps).Sweep -/
theorem F33 : CC.F.get 33 = some Go.Proofs.Tryz.f33 := by kernel_rfl
theorem F33_eq (t0 : V) (h : Heap) (n : Nat) (K : V → Heap → Nat → Prop) : Wp CC (bodyOf Go.Proofs.Tryz.f33) ⟨initTm Go.Proofs.Tryz.f33 [t0], h, n, []⟩ (retW CC Go.Proofs.Tryz.f33 K) = (
oK (rNil t0) fun v1 =>
oK (rFA CC 98 0 v1) fun v2 =>
oK (normO (rLoad CC 93 h v2)) fun v3 =>
CallK CC 61 [v3] h n fun v4 h5 n6 =>
K v4 h5 n6) := Wp.eq_of (by kernel_rfl)
theorem F33_call {t0 : V} {h : Heap} {n : Nat} {K : V → Heap → Nat → Prop} (H : (∀ b o, h.get b = some o → b < n) → Wp CC (bodyOf Go.Proofs.Tryz.f33) ⟨initTm Go.Proofs.Tryz.f33 [t0], h, n, []⟩ (retW CC Go.Proofs.Tryz.f33 K)) : CallK CC 33 [t0] h n K := by
  have := @callK_of CC CCok 33 Go.Proofs.Tryz.f33 (bodyOf Go.Proofs.Tryz.f33) [t0] h n K F33
  refine this ?_ ?_ ?_
  · kernel_rfl
  · kernel_rfl
  · exact H

/-! F34 lockgate/lockgatekit.KeptBytes -/
theorem F34 : CC.F.get 34 = some Go.Proofs.Tryz.f34 := by kernel_rfl
theorem F34_eq (t0 t1 : V) (h : Heap) (n : Nat) (K : V → Heap → Nat → Prop) : Wp CC (bodyOf Go.Proofs.Tryz.f34) ⟨initTm Go.Proofs.Tryz.f34 [t0, t1], h, n, []⟩ (retW CC Go.Proofs.Tryz.f34 K) = (
oK (lenV CC h 23 t0) fun v1 =>
oK (lenV CC h 23 t1) fun v2 =>
oK (binop CC .add 3 true v2 (.s (.int .i64 5))) fun v3 =>
oK (binop CC .neq 3 false v1 v3) fun v4 =>
oK (bif (rWant false v4) then some t0 else some undefV) fun v5 =>
oK (bif (rWant false v4) then some t1 else some undefV) fun v6 =>
oK (bif (rWant false v4) then lenV CC h 23 v6 else some undefV) fun v7 =>
oK (bif (rWant false v4) then sliceOp CC 23 v5 none (some v7) none else some undefV) fun v8 =>
oK (bif (rWant false v4) then some t1 else some undefV) fun v9 =>
let k10 := fun (v11 : V) (h12 : Heap) (n13 : Nat) => (
oK (bif (rWant false v4) then rUn CC .not v11 else some undefV) fun v14 =>
oK (rPick v4 (.s (.bool true)) v14) fun v15 =>
oK (asBool v15) fun b16 => bif b16 then (
K (.s (.bool false)) h12 n13) else (
LoopK CC none (subC [1, 1, 0, 1, 0, 0] (bodyOf Go.Proofs.Tryz.f34)) ⟨mkTm [t0, t1, undefV, undefV, (.s (.bool false)), (.s (.int .i64 0)), t0, v1, t1, v2, v3, v4, v4, v5, v6, v7, v8, v9, v11, v14, v15, undefV, undefV, undefV, undefV, undefV, undefV, undefV, undefV, undefV, undefV, undefV, undefV, undefV, undefV], h12, n13, []⟩ (resume CC none [.blk 0, .sq (subC [1, 1, 1] (bodyOf Go.Proofs.Tryz.f34))] (retW CC Go.Proofs.Tryz.f34 K))));
bif (rWant false v4) then (CallK CC 10 [v8, v9] h n fun v17 h18 n19 =>
k10 v17 h18 n19) else k10 undefV h n) := Wp.eq_of (by kernel_rfl)
theorem F34_call {t0 t1 : V} {h : Heap} {n : Nat} {K : V → Heap → Nat → Prop} (H : (∀ b o, h.get b = some o → b < n) → Wp CC (bodyOf Go.Proofs.Tryz.f34) ⟨initTm Go.Proofs.Tryz.f34 [t0, t1], h, n, []⟩ (retW CC Go.Proofs.Tryz.f34 K)) : CallK CC 34 [t0, t1] h n K := by
  have := @callK_of CC CCok 34 Go.Proofs.Tryz.f34 (bodyOf Go.Proofs.Tryz.f34) [t0, t1] h n K F34
  refine this ?_ ?_ ?_
  · kernel_rfl
  · kernel_rfl
  · exact H

def F34_L110100 (t0 t1 t5 : V) (h : Heap) (n : Nat) (s : St) : Prop := ∃ f : Nat → V, s = ⟨mkTm [t0, t1, (f 2), (f 3), (f 4), t5, (f 6), (f 7), (f 8), (f 9), (f 10), (f 11), (f 12), (f 13), (f 14), (f 15), (f 16), (f 17), (f 18), (f 19), (f 20), (f 21), (f 22), (f 23), (f 24), (f 25), (f 26), (f 27), (f 28), (f 29), (f 30), (f 31), (f 32), (f 33), (f 34)], h, n, []⟩
theorem F34_L110100_of {t0 t1 t5 : V} {t2 t3 t4 t6 t7 t8 t9 t10 t11 t12 t13 t14 t15 t16 t17 t18 t19 t20 t21 t22 t23 t24 t25 t26 t27 t28 t29 t30 t31 t32 t33 t34 : V} {h : Heap} {n : Nat} : F34_L110100 t0 t1 t5 h n ⟨mkTm [t0, t1, t2, t3, t4, t5, t6, t7, t8, t9, t10, t11, t12, t13, t14, t15, t16, t17, t18, t19, t20, t21, t22, t23, t24, t25, t26, t27, t28, t29, t30, t31, t32, t33, t34], h, n, []⟩ :=
  ⟨fun i => ([t0, t1, t2, t3, t4, t5, t6, t7, t8, t9, t10, t11, t12, t13, t14, t15, t16, t17, t18, t19, t20, t21, t22, t23, t24, t25, t26, t27, t28, t29, t30, t31, t32, t33, t34] : List V).getD i undefV, by kernel_rfl⟩
theorem F34_L110100_elim {t0 t1 t5 : V} {h : Heap} {n : Nat} {s : St} {P : St → Prop} (hs : F34_L110100 t0 t1 t5 h n s) (H : ∀ t2 t3 t4 t6 t7 t8 t9 t10 t11 t12 t13 t14 t15 t16 t17 t18 t19 t20 t21 t22 t23 t24 t25 t26 t27 t28 t29 t30 t31 t32 t33 t34 : V, P ⟨mkTm [t0, t1, t2, t3, t4, t5, t6, t7, t8, t9, t10, t11, t12, t13, t14, t15, t16, t17, t18, t19, t20, t21, t22, t23, t24, t25, t26, t27, t28, t29, t30, t31, t32, t33, t34], h, n, []⟩) : P s := by
  obtain ⟨f, rfl⟩ := hs
  exact H (f 2) (f 3) (f 4) (f 6) (f 7) (f 8) (f 9) (f 10) (f 11) (f 12) (f 13) (f 14) (f 15) (f 16) (f 17) (f 18) (f 19) (f 20) (f 21) (f 22) (f 23) (f 24) (f 25) (f 26) (f 27) (f 28) (f 29) (f 30) (f 31) (f 32) (f 33) (f 34)

theorem F34_b110100 (t0 t1 t2 t3 t4 t5 t6 t7 t8 t9 t10 t11 t12 t13 t14 t15 t16 t17 t18 t19 t20 t21 t22 t23 t24 t25 t26 t27 t28 t29 t30 t31 t32 t33 t34 : V) (h : Heap) (n : Nat) (Q : X → St → Prop) : Wp CC (subC [1, 1, 0, 1, 0, 0] (bodyOf Go.Proofs.Tryz.f34)) ⟨mkTm [t0, t1, t2, t3, t4, t5, t6, t7, t8, t9, t10, t11, t12, t13, t14, t15, t16, t17, t18, t19, t20, t21, t22, t23, t24, t25, t26, t27, t28, t29, t30, t31, t32, t33, t34], h, n, []⟩ Q = (
oK (binop CC .lss 3 true t5 (.s (.int .i64 5))) fun v20 =>
oK (asBool v20) fun b21 => bif b21 then (
oK (lenV CC h 23 t1) fun v22 =>
oK (binop CC .add 3 false v22 t5) fun v23 =>
oK (indexAddr CC 23 t0 v23) fun v24 =>
oK (normO (rLoad CC 5 h v24)) fun v25 =>
CallK CC 46 [t5] h (n + 10) fun v26 h27 n28 =>
(normO (rLoad CC 5 h27 v24) = some v25 ∧ lenV CC h27 23 t1 = some v22 ∧ True) ∧
oK (binop CC .neq 5 false v25 v26) fun v29 =>
oK (asBool v29) fun b30 => bif b30 then (
Q .ret ⟨mkTm [t0, t1, t2, t3, (.s (.bool false)), t5, t6, t7, t8, t9, t10, t11, t12, t13, t14, t15, t16, t17, t18, t19, t20, t5, v20, t23, t24, t0, t1, v22, t5, v23, v24, v25, t5, v26, v29], h27, n28, []⟩) else (
oK (binop CC .add 3 true t5 (.s (.int .i64 1))) fun v31 =>
Q .normal ⟨mkTm [t0, t1, t2, t3, t4, v31, t6, t7, t8, t9, t10, t11, t12, t13, t14, t15, t16, t17, t18, t19, t20, t5, v20, t5, v31, t0, t1, v22, t5, v23, v24, v25, t5, v26, v29], h27, n28, []⟩)) else (
Q (.exit 0) ⟨mkTm [t0, t1, t2, t3, t4, t5, t6, t7, t8, t9, t10, t11, t12, t13, t14, t15, t16, t17, t18, t19, t20, t5, v20, t23, t24, t25, t26, t27, t28, t29, t30, t31, t32, t33, t34], h, n, []⟩)) := Wp.eq_of (by kernel_rfl)

theorem F34_r110100_0 (t0 t1 t2 t3 t4 t5 t6 t7 t8 t9 t10 t11 t12 t13 t14 t15 t16 t17 t18 t19 t20 t21 t22 t23 t24 t25 t26 t27 t28 t29 t30 t31 t32 t33 t34 : V) (h : Heap) (n : Nat) (K : V → Heap → Nat → Prop) : resume CC none [.blk 0, .sq (subC [1, 1, 1] (bodyOf Go.Proofs.Tryz.f34))] (retW CC Go.Proofs.Tryz.f34 K) (.exit 0) ⟨mkTm [t0, t1, t2, t3, t4, t5, t6, t7, t8, t9, t10, t11, t12, t13, t14, t15, t16, t17, t18, t19, t20, t21, t22, t23, t24, t25, t26, t27, t28, t29, t30, t31, t32, t33, t34], h, n, []⟩ = (
K (.s (.bool true)) h n) := by kernel_rfl

/-! F35 lockgate/lockgatekit.SpoilBytes -/
theorem F35 : CC.F.get 35 = some Go.Proofs.Tryz.f35 := by kernel_rfl
theorem F35_eq (t0 : V) (h : Heap) (n : Nat) (K : V → Heap → Nat → Prop) : Wp CC (bodyOf Go.Proofs.Tryz.f35) ⟨initTm Go.Proofs.Tryz.f35 [t0], h, n, []⟩ (retW CC Go.Proofs.Tryz.f35 K) = (
LoopK CC none (subC [1, 0, 0] (bodyOf Go.Proofs.Tryz.f35)) ⟨mkTm [t0, undefV, (.s (.int .i64 0)), undefV, undefV, undefV, undefV, undefV, undefV, undefV, undefV, undefV, undefV, undefV, undefV], h, n, []⟩ (resume CC none [.blk 0] (retW CC Go.Proofs.Tryz.f35 K))) := Wp.eq_of (by kernel_rfl)
theorem F35_call {t0 : V} {h : Heap} {n : Nat} {K : V → Heap → Nat → Prop} (H : (∀ b o, h.get b = some o → b < n) → Wp CC (bodyOf Go.Proofs.Tryz.f35) ⟨initTm Go.Proofs.Tryz.f35 [t0], h, n, []⟩ (retW CC Go.Proofs.Tryz.f35 K)) : CallK CC 35 [t0] h n K := by
  have := @callK_of CC CCok 35 Go.Proofs.Tryz.f35 (bodyOf Go.Proofs.Tryz.f35) [t0] h n K F35
  refine this ?_ ?_ ?_
  · kernel_rfl
  · kernel_rfl
  · exact H

def F35_L100 (t0 t2 : V) (h : Heap) (n : Nat) (s : St) : Prop := ∃ f : Nat → V, s = ⟨mkTm [t0, (f 1), t2, (f 3), (f 4), (f 5), (f 6), (f 7), (f 8), (f 9), (f 10), (f 11), (f 12), (f 13), (f 14)], h, n, []⟩
theorem F35_L100_of {t0 t2 : V} {t1 t3 t4 t5 t6 t7 t8 t9 t10 t11 t12 t13 t14 : V} {h : Heap} {n : Nat} : F35_L100 t0 t2 h n ⟨mkTm [t0, t1, t2, t3, t4, t5, t6, t7, t8, t9, t10, t11, t12, t13, t14], h, n, []⟩ :=
  ⟨fun i => ([t0, t1, t2, t3, t4, t5, t6, t7, t8, t9, t10, t11, t12, t13, t14] : List V).getD i undefV, by kernel_rfl⟩
theorem F35_L100_elim {t0 t2 : V} {h : Heap} {n : Nat} {s : St} {P : St → Prop} (hs : F35_L100 t0 t2 h n s) (H : ∀ t1 t3 t4 t5 t6 t7 t8 t9 t10 t11 t12 t13 t14 : V, P ⟨mkTm [t0, t1, t2, t3, t4, t5, t6, t7, t8, t9, t10, t11, t12, t13, t14], h, n, []⟩) : P s := by
  obtain ⟨f, rfl⟩ := hs
  exact H (f 1) (f 3) (f 4) (f 5) (f 6) (f 7) (f 8) (f 9) (f 10) (f 11) (f 12) (f 13) (f 14)

theorem F35_b100 (t0 t1 t2 t3 t4 t5 t6 t7 t8 t9 t10 t11 t12 t13 t14 : V) (h : Heap) (n : Nat) (Q : X → St → Prop) : Wp CC (subC [1, 0, 0] (bodyOf Go.Proofs.Tryz.f35)) ⟨mkTm [t0, t1, t2, t3, t4, t5, t6, t7, t8, t9, t10, t11, t12, t13, t14], h, n, []⟩ Q = (
oK (lenV CC h 23 t0) fun v1 =>
oK (binop CC .lss 3 false t2 v1) fun v2 =>
oK (asBool v2) fun b3 => bif b3 then (
oK (binop CC .add 3 true t2 (.s (.int .i64 7))) fun v4 =>
CallK CC 46 [v4] h n fun v5 h6 n7 =>
oK (indexAddr CC 23 t0 t2) fun v8 =>
oK (asPtr v8) fun p9 => oK (store CC h6 5 p9.1 p9.2 v5) fun h10 =>
oK (binop CC .add 3 true t2 (.s (.int .i64 1))) fun v11 =>
Q .normal ⟨mkTm [t0, t1, v11, t2, t0, v1, v2, t2, v11, t0, t2, t2, v4, v5, v8], h10, n7, []⟩) else (
Q (.exit 0) ⟨mkTm [t0, t1, t2, t2, t0, v1, v2, t7, t8, t9, t10, t11, t12, t13, t14], h, n, []⟩)) := Wp.eq_of (by kernel_rfl)

theorem F35_r100_0 (t0 t1 t2 t3 t4 t5 t6 t7 t8 t9 t10 t11 t12 t13 t14 : V) (h : Heap) (n : Nat) (K : V → Heap → Nat → Prop) : resume CC none [.blk 0] (retW CC Go.Proofs.Tryz.f35 K) (.exit 0) ⟨mkTm [t0, t1, t2, t3, t4, t5, t6, t7, t8, t9, t10, t11, t12, t13, t14], h, n, []⟩ = (
K (.tup []) h n) := by kernel_rfl

/-! F36 lockgate/mem.on -/
theorem F36 : CC.F.get 36 = some Go.Proofs.Tryz.f36 := by kernel_rfl
theorem F36_eq (t0 t1 : V) (h : Heap) (n : Nat) (K : V → Heap → Nat → Prop) : Wp CC (bodyOf Go.Proofs.Tryz.f36) ⟨initTm Go.Proofs.Tryz.f36 [t0, t1], h, n, []⟩ (retW CC Go.Proofs.Tryz.f36 K) = (
oK (binop CC .geq 3 true t0 (.s (.int .i64 (-512)))) fun v1 =>
oK (bif (rWant true v1) then some t0 else some undefV) fun v2 =>
oK (bif (rWant true v1) then binop CC .leq 3 true v2 (.s (.int .i64 0)) else some undefV) fun v3 =>
oK (rPick v1 v3 (.s (.bool false))) fun v4 =>
oK (bif (rWant true v4) then some t1 else some undefV) fun v5 =>
oK (bif (rWant true v4) then binop CC .geq 3 true v5 (.s (.int .i64 0)) else some undefV) fun v6 =>
oK (rPick v4 v6 (.s (.bool false))) fun v7 =>
oK (bif (rWant true v7) then some t1 else some undefV) fun v8 =>
oK (bif (rWant true v7) then some t0 else some undefV) fun v9 =>
oK (bif (rWant true v7) then rUn CC .neg v9 else some undefV) fun v10 =>
oK (bif (rWant true v7) then binop CC .leq 3 false v8 v10 else some undefV) fun v11 =>
oK (rPick v7 v11 (.s (.bool false))) fun v12 =>
K v12 h n) := Wp.eq_of (by kernel_rfl)
theorem F36_call {t0 t1 : V} {h : Heap} {n : Nat} {K : V → Heap → Nat → Prop} (H : (∀ b o, h.get b = some o → b < n) → Wp CC (bodyOf Go.Proofs.Tryz.f36) ⟨initTm Go.Proofs.Tryz.f36 [t0, t1], h, n, []⟩ (retW CC Go.Proofs.Tryz.f36 K)) : CallK CC 36 [t0, t1] h n K := by
  have := @callK_of CC CCok 36 Go.Proofs.Tryz.f36 (bodyOf Go.Proofs.Tryz.f36) [t0, t1] h n K F36
  refine this ?_ ?_ ?_
  · kernel_rfl
  · kernel_rfl
  · exact H

/-! F37 lockgate/mem.lay -/
theorem F37 : CC.F.get 37 = some Go.Proofs.Tryz.f37 := by kernel_rfl
theorem F37_eq (t0 t1 t2 : V) (h : Heap) (n : Nat) (K : V → Heap → Nat → Prop) : Wp CC (bodyOf Go.Proofs.Tryz.f37) ⟨initTm Go.Proofs.Tryz.f37 [t0, t1, t2], h, n, []⟩ (retW CC Go.Proofs.Tryz.f37 K) = (
oK (lenV CC h 23 t2) fun v1 =>
LoopK CC none (subC [1, 0, 0] (bodyOf Go.Proofs.Tryz.f37)) ⟨mkTm [t0, t1, t2, undefV, undefV, undefV, undefV, undefV, undefV, undefV, undefV, t2, v1, (.s (.int .i64 0)), undefV, undefV, undefV, undefV, undefV, undefV, undefV, undefV, undefV, undefV, undefV, undefV, undefV, undefV, undefV, undefV, undefV, undefV, undefV, undefV, undefV, undefV, undefV, undefV, undefV, undefV, undefV, undefV, undefV, undefV, undefV, undefV, undefV, undefV, undefV, undefV, undefV, undefV, undefV, undefV, undefV], h, n, []⟩ (resume CC none [.blk 0] (retW CC Go.Proofs.Tryz.f37 K))) := Wp.eq_of (by kernel_rfl)
theorem F37_call {t0 t1 t2 : V} {h : Heap} {n : Nat} {K : V → Heap → Nat → Prop} (H : (∀ b o, h.get b = some o → b < n) → Wp CC (bodyOf Go.Proofs.Tryz.f37) ⟨initTm Go.Proofs.Tryz.f37 [t0, t1, t2], h, n, []⟩ (retW CC Go.Proofs.Tryz.f37 K)) : CallK CC 37 [t0, t1, t2] h n K := by
  have := @callK_of CC CCok 37 Go.Proofs.Tryz.f37 (bodyOf Go.Proofs.Tryz.f37) [t0, t1, t2] h n K F37
  refine this ?_ ?_ ?_
  · kernel_rfl
  · kernel_rfl
  · exact H

def F37_L100 (t0 t1 t11 t12 t13 : V) (h : Heap) (n : Nat) (s : St) : Prop := ∃ f : Nat → V, s = ⟨mkTm [t0, t1, (f 2), (f 3), (f 4), (f 5), (f 6), (f 7), (f 8), (f 9), (f 10), t11, t12, t13, (f 14), (f 15), (f 16), (f 17), (f 18), (f 19), (f 20), (f 21), (f 22), (f 23), (f 24), (f 25), (f 26), (f 27), (f 28), (f 29), (f 30), (f 31), (f 32), (f 33), (f 34), (f 35), (f 36), (f 37), (f 38), (f 39), (f 40), (f 41), (f 42), (f 43), (f 44), (f 45), (f 46), (f 47), (f 48), (f 49), (f 50), (f 51), (f 52), (f 53), (f 54)], h, n, []⟩
theorem F37_L100_of {t0 t1 t11 t12 t13 : V} {t2 t3 t4 t5 t6 t7 t8 t9 t10 t14 t15 t16 t17 t18 t19 t20 t21 t22 t23 t24 t25 t26 t27 t28 t29 t30 t31 t32 t33 t34 t35 t36 t37 t38 t39 t40 t41 t42 t43 t44 t45 t46 t47 t48 t49 t50 t51 t52 t53 t54 : V} {h : Heap} {n : Nat} : F37_L100 t0 t1 t11 t12 t13 h n ⟨mkTm [t0, t1, t2, t3, t4, t5, t6, t7, t8, t9, t10, t11, t12, t13, t14, t15, t16, t17, t18, t19, t20, t21, t22, t23, t24, t25, t26, t27, t28, t29, t30, t31, t32, t33, t34, t35, t36, t37, t38, t39, t40, t41, t42, t43, t44, t45, t46, t47, t48, t49, t50, t51, t52, t53, t54], h, n, []⟩ :=
  ⟨fun i => ([t0, t1, t2, t3, t4, t5, t6, t7, t8, t9, t10, t11, t12, t13, t14, t15, t16, t17, t18, t19, t20, t21, t22, t23, t24, t25, t26, t27, t28, t29, t30, t31, t32, t33, t34, t35, t36, t37, t38, t39, t40, t41, t42, t43, t44, t45, t46, t47, t48, t49, t50, t51, t52, t53, t54] : List V).getD i undefV, by kernel_rfl⟩
theorem F37_L100_elim {t0 t1 t11 t12 t13 : V} {h : Heap} {n : Nat} {s : St} {P : St → Prop} (hs : F37_L100 t0 t1 t11 t12 t13 h n s) (H : ∀ t2 t3 t4 t5 t6 t7 t8 t9 t10 t14 t15 t16 t17 t18 t19 t20 t21 t22 t23 t24 t25 t26 t27 t28 t29 t30 t31 t32 t33 t34 t35 t36 t37 t38 t39 t40 t41 t42 t43 t44 t45 t46 t47 t48 t49 t50 t51 t52 t53 t54 : V, P ⟨mkTm [t0, t1, t2, t3, t4, t5, t6, t7, t8, t9, t10, t11, t12, t13, t14, t15, t16, t17, t18, t19, t20, t21, t22, t23, t24, t25, t26, t27, t28, t29, t30, t31, t32, t33, t34, t35, t36, t37, t38, t39, t40, t41, t42, t43, t44, t45, t46, t47, t48, t49, t50, t51, t52, t53, t54], h, n, []⟩) : P s := by
  obtain ⟨f, rfl⟩ := hs
  exact H (f 2) (f 3) (f 4) (f 5) (f 6) (f 7) (f 8) (f 9) (f 10) (f 14) (f 15) (f 16) (f 17) (f 18) (f 19) (f 20) (f 21) (f 22) (f 23) (f 24) (f 25) (f 26) (f 27) (f 28) (f 29) (f 30) (f 31) (f 32) (f 33) (f 34) (f 35) (f 36) (f 37) (f 38) (f 39) (f 40) (f 41) (f 42) (f 43) (f 44) (f 45) (f 46) (f 47) (f 48) (f 49) (f 50) (f 51) (f 52) (f 53) (f 54)

theorem F37_b100 (t0 t1 t2 t3 t4 t5 t6 t7 t8 t9 t10 t11 t12 t13 t14 t15 t16 t17 t18 t19 t20 t21 t22 t23 t24 t25 t26 t27 t28 t29 t30 t31 t32 t33 t34 t35 t36 t37 t38 t39 t40 t41 t42 t43 t44 t45 t46 t47 t48 t49 t50 t51 t52 t53 t54 : V) (h : Heap) (n : Nat) (Q : X → St → Prop) : Wp CC (subC [1, 0, 0] (bodyOf Go.Proofs.Tryz.f37)) ⟨mkTm [t0, t1, t2, t3, t4, t5, t6, t7, t8, t9, t10, t11, t12, t13, t14, t15, t16, t17, t18, t19, t20, t21, t22, t23, t24, t25, t26, t27, t28, t29, t30, t31, t32, t33, t34, t35, t36, t37, t38, t39, t40, t41, t42, t43, t44, t45, t46, t47, t48, t49, t50, t51, t52, t53, t54], h, n, []⟩ Q = (
oK (binop CC .lss 3 false t13 t12) fun v2 =>
oK (asBool v2) fun b3 => bif b3 then (
oK (indexAddr CC 23 t11 t13) fun v4 =>
oK (normO (rLoad CC 5 h v4)) fun v5 =>
oK (binop CC .add 3 false t1 t13) fun v6 =>
CallK CC 62 [v6] h n fun v7 h8 n9 =>
oK (rExt v7 0) fun v10 =>
oK (rExt v7 1) fun v11 =>
oK (rNil t0) fun v12 =>
oK (rFA CC 41 4 v12) fun v13 =>
oK (indexAddr CC 39 v13 v10) fun v14 =>
oK (rNil v14) fun v15 =>
oK (rFA CC 38 0 v15) fun v16 =>
oK (rFA CC 27 0 v16) fun v17 =>
oK (normO (rLoad CC 3 h8 v17)) fun v18 =>
oK (binop CC .neq 3 true v18 (.s (.int .i64 0))) fun v19 =>
oK (asBool v19) fun b20 => bif b20 then (
oK (normO (build CC 38 [])) fun v21 =>
oK (rNil v14) fun v22 =>
oK (asPtr v22) fun p23 => oK (store CC h8 38 p23.1 p23.2 v21) fun h24 =>
oK (rNil v14) fun v25 =>
oK (rFA CC 38 1 v25) fun v26 =>
oK (indexAddr CC 36 v26 v11) fun v27 =>
oK (asPtr v27) fun p28 => oK (store CC h24 5 p28.1 p28.2 v5) fun h29 =>
oK (rNil v14) fun v30 =>
oK (rFA CC 38 2 v30) fun v31 =>
oK (normO (rLoad CC 5 h29 v31)) fun v32 =>
oK (binop CC .shl 5 true (.s (.int .u8 1)) v11) fun v33 =>
oK (binop CC .or 5 false v32 v33) fun v34 =>
oK (rNil v14) fun v35 =>
oK (rFA CC 38 2 v35) fun v36 =>
oK (asPtr v36) fun p37 => oK (store CC h29 5 p37.1 p37.2 v34) fun h38 =>
(True ∧ True) ∧
oK (binop CC .add 3 true t13 (.s (.int .i64 1))) fun v39 =>
Q .normal ⟨mkTm [t0, t1, t2, t3, t4, t5, t13, v5, v10, v11, v14, t11, t12, v39, v2, t13, v4, v5, v7, t1, t13, v6, v7, v10, v11, t0, v10, v12, v13, v14, v14, v15, v16, v17, v18, v19, v14, v21, v22, v14, v11, v5, v25, v26, v27, v14, v30, v31, v32, v11, v33, v34, v35, v36, v39], h38, (n9 + 10), []⟩) else (
oK (rNil v14) fun v40 =>
oK (rFA CC 38 1 v40) fun v41 =>
oK (indexAddr CC 36 v41 v11) fun v42 =>
oK (asPtr v42) fun p43 => oK (store CC h8 5 p43.1 p43.2 v5) fun h44 =>
oK (rNil v14) fun v45 =>
oK (rFA CC 38 2 v45) fun v46 =>
oK (normO (rLoad CC 5 h44 v46)) fun v47 =>
oK (binop CC .shl 5 true (.s (.int .u8 1)) v11) fun v48 =>
oK (binop CC .or 5 false v47 v48) fun v49 =>
oK (rNil v14) fun v50 =>
oK (rFA CC 38 2 v50) fun v51 =>
oK (asPtr v51) fun p52 => oK (store CC h44 5 p52.1 p52.2 v49) fun h53 =>
(True ∧ True) ∧
oK (binop CC .add 3 true t13 (.s (.int .i64 1))) fun v54 =>
Q .normal ⟨mkTm [t0, t1, t2, t3, t4, t5, t13, v5, v10, v11, v14, t11, t12, v54, v2, t13, v4, v5, v7, t1, t13, v6, v7, v10, v11, t0, v10, v12, v13, v14, v14, v15, v16, v17, v18, v19, t36, t37, t38, v14, v11, v5, v40, v41, v42, v14, v45, v46, v47, v11, v48, v49, v50, v51, v54], h53, (n9 + 10), []⟩)) else (
Q (.exit 0) ⟨mkTm [t0, t1, t2, t3, t4, t5, t6, t7, t8, t9, t10, t11, t12, t13, v2, t15, t16, t17, t18, t19, t20, t21, t22, t23, t24, t25, t26, t27, t28, t29, t30, t31, t32, t33, t34, t35, t36, t37, t38, t39, t40, t41, t42, t43, t44, t45, t46, t47, t48, t49, t50, t51, t52, t53, t54], h, n, []⟩)) := Wp.eq_of (by kernel_rfl)

theorem F37_r100_0 (t0 t1 t2 t3 t4 t5 t6 t7 t8 t9 t10 t11 t12 t13 t14 t15 t16 t17 t18 t19 t20 t21 t22 t23 t24 t25 t26 t27 t28 t29 t30 t31 t32 t33 t34 t35 t36 t37 t38 t39 t40 t41 t42 t43 t44 t45 t46 t47 t48 t49 t50 t51 t52 t53 t54 : V) (h : Heap) (n : Nat) (K : V → Heap → Nat → Prop) : resume CC none [.blk 0] (retW CC Go.Proofs.Tryz.f37 K) (.exit 0) ⟨mkTm [t0, t1, t2, t3, t4, t5, t6, t7, t8, t9, t10, t11, t12, t13, t14, t15, t16, t17, t18, t19, t20, t21, t22, t23, t24, t25, t26, t27, t28, t29, t30, t31, t32, t33, t34, t35, t36, t37, t38, t39, t40, t41, t42, t43, t44, t45, t46, t47, t48, t49, t50, t51, t52, t53, t54], h, n, []⟩ = (
K (.tup []) h n) := by kernel_rfl

/-! F38 lockgate/mem.sized -/
theorem F38 : CC.F.get 38 = some Go.Proofs.Tryz.f38 := by kernel_rfl
theorem F38_eq (t0 : V) (h : Heap) (n : Nat) (K : V → Heap → Nat → Prop) : Wp CC (bodyOf Go.Proofs.Tryz.f38) ⟨initTm Go.Proofs.Tryz.f38 [t0], h, n, []⟩ (retW CC Go.Proofs.Tryz.f38 K) = (
oK (binop CC .eql 3 true t0 (.s (.int .i64 1))) fun v1 =>
oK (bif (rWant false v1) then some t0 else some undefV) fun v2 =>
oK (bif (rWant false v1) then binop CC .eql 3 true v2 (.s (.int .i64 2)) else some undefV) fun v3 =>
oK (rPick v1 (.s (.bool true)) v3) fun v4 =>
oK (bif (rWant false v4) then some t0 else some undefV) fun v5 =>
oK (bif (rWant false v4) then binop CC .eql 3 true v5 (.s (.int .i64 4)) else some undefV) fun v6 =>
oK (rPick v4 (.s (.bool true)) v6) fun v7 =>
oK (bif (rWant false v7) then some t0 else some undefV) fun v8 =>
oK (bif (rWant false v7) then binop CC .eql 3 true v8 (.s (.int .i64 8)) else some undefV) fun v9 =>
oK (rPick v7 (.s (.bool true)) v9) fun v10 =>
K v10 h n) := Wp.eq_of (by kernel_rfl)
theorem F38_call {t0 : V} {h : Heap} {n : Nat} {K : V → Heap → Nat → Prop} (H : (∀ b o, h.get b = some o → b < n) → Wp CC (bodyOf Go.Proofs.Tryz.f38) ⟨initTm Go.Proofs.Tryz.f38 [t0], h, n, []⟩ (retW CC Go.Proofs.Tryz.f38 K)) : CallK CC 38 [t0] h n K := by
  have := @callK_of CC CCok 38 Go.Proofs.Tryz.f38 (bodyOf Go.Proofs.Tryz.f38) [t0] h n K F38
  refine this ?_ ?_ ?_
  · kernel_rfl
  · kernel_rfl
  · exact H

/-! F39 lockgate/mem.whole -/
theorem F39 : CC.F.get 39 = some Go.Proofs.Tryz.f39 := by kernel_rfl
theorem F39_eq (t0 t1 t2 : V) (h : Heap) (n : Nat) (K : V → Heap → Nat → Prop) : Wp CC (bodyOf Go.Proofs.Tryz.f39) ⟨initTm Go.Proofs.Tryz.f39 [t0, t1, t2], h, n, []⟩ (retW CC Go.Proofs.Tryz.f39 K) = (
CallK CC 62 [t1] h n fun v1 h2 n3 =>
oK (rExt v1 0) fun v4 =>
oK (rExt v1 1) fun v5 =>
oK (binop CC .neq 3 true t2 (.s (.int .i64 8))) fun v6 =>
oK (bif (rWant false v6) then some v5 else some undefV) fun v7 =>
oK (bif (rWant false v6) then binop CC .neq 3 true v7 (.s (.int .i64 0)) else some undefV) fun v8 =>
oK (rPick v6 (.s (.bool true)) v8) fun v9 =>
oK (asBool v9) fun b10 => bif b10 then (
K (.s (.pointer none)) h2 n3) else (
oK (rNil t0) fun v11 =>
oK (rFA CC 41 4 v11) fun v12 =>
oK (indexAddr CC 39 v12 v4) fun v13 =>
K v13 h2 n3)) := Wp.eq_of (by kernel_rfl)
theorem F39_call {t0 t1 t2 : V} {h : Heap} {n : Nat} {K : V → Heap → Nat → Prop} (H : (∀ b o, h.get b = some o → b < n) → Wp CC (bodyOf Go.Proofs.Tryz.f39) ⟨initTm Go.Proofs.Tryz.f39 [t0, t1, t2], h, n, []⟩ (retW CC Go.Proofs.Tryz.f39 K)) : CallK CC 39 [t0, t1, t2] h n K := by
  have := @callK_of CC CCok 39 Go.Proofs.Tryz.f39 (bodyOf Go.Proofs.Tryz.f39) [t0, t1, t2] h n K F39
  refine this ?_ ?_ ?_
  · kernel_rfl
  · kernel_rfl
  · exact H

/-! F45 lockgate/lockgatekit.CopyBytes -/
theorem F45 : CC.F.get 45 = some Go.Proofs.Tryz.f45 := by kernel_rfl
theorem F45_eq (t0 : V) (h : Heap) (n : Nat) (K : V → Heap → Nat → Prop) : Wp CC (bodyOf Go.Proofs.Tryz.f45) ⟨initTm Go.Proofs.Tryz.f45 [t0], h, n, []⟩ (retW CC Go.Proofs.Tryz.f45 K) = (
LoopK CC none (subC [1, 1, 0, 1, 0, 0] (bodyOf Go.Proofs.Tryz.f45)) ⟨mkTm [t0, undefV, (.s (.slice none 0 0)), (.s (.slice none 0 0)), (.s (.int .i64 0)), undefV, undefV, undefV, undefV, undefV, undefV, undefV, undefV, undefV, undefV, undefV, undefV, undefV, undefV], h, n, []⟩ (resume CC none [.blk 0, .sq (subC [1, 1, 1] (bodyOf Go.Proofs.Tryz.f45))] (retW CC Go.Proofs.Tryz.f45 K))) := Wp.eq_of (by kernel_rfl)
theorem F45_call {t0 : V} {h : Heap} {n : Nat} {K : V → Heap → Nat → Prop} (H : (∀ b o, h.get b = some o → b < n) → Wp CC (bodyOf Go.Proofs.Tryz.f45) ⟨initTm Go.Proofs.Tryz.f45 [t0], h, n, []⟩ (retW CC Go.Proofs.Tryz.f45 K)) : CallK CC 45 [t0] h n K := by
  have := @callK_of CC CCok 45 Go.Proofs.Tryz.f45 (bodyOf Go.Proofs.Tryz.f45) [t0] h n K F45
  refine this ?_ ?_ ?_
  · kernel_rfl
  · kernel_rfl
  · exact H

def F45_L110100 (t0 t3 t4 : V) (h : Heap) (n : Nat) (s : St) : Prop := ∃ f : Nat → V, s = ⟨mkTm [t0, (f 1), (f 2), t3, t4, (f 5), (f 6), (f 7), (f 8), (f 9), (f 10), (f 11), (f 12), (f 13), (f 14), (f 15), (f 16), (f 17), (f 18)], h, n, []⟩
theorem F45_L110100_of {t0 t3 t4 : V} {t1 t2 t5 t6 t7 t8 t9 t10 t11 t12 t13 t14 t15 t16 t17 t18 : V} {h : Heap} {n : Nat} : F45_L110100 t0 t3 t4 h n ⟨mkTm [t0, t1, t2, t3, t4, t5, t6, t7, t8, t9, t10, t11, t12, t13, t14, t15, t16, t17, t18], h, n, []⟩ :=
  ⟨fun i => ([t0, t1, t2, t3, t4, t5, t6, t7, t8, t9, t10, t11, t12, t13, t14, t15, t16, t17, t18] : List V).getD i undefV, by kernel_rfl⟩
theorem F45_L110100_elim {t0 t3 t4 : V} {h : Heap} {n : Nat} {s : St} {P : St → Prop} (hs : F45_L110100 t0 t3 t4 h n s) (H : ∀ t1 t2 t5 t6 t7 t8 t9 t10 t11 t12 t13 t14 t15 t16 t17 t18 : V, P ⟨mkTm [t0, t1, t2, t3, t4, t5, t6, t7, t8, t9, t10, t11, t12, t13, t14, t15, t16, t17, t18], h, n, []⟩) : P s := by
  obtain ⟨f, rfl⟩ := hs
  exact H (f 1) (f 2) (f 5) (f 6) (f 7) (f 8) (f 9) (f 10) (f 11) (f 12) (f 13) (f 14) (f 15) (f 16) (f 17) (f 18)

theorem F45_b110100 (t0 t1 t2 t3 t4 t5 t6 t7 t8 t9 t10 t11 t12 t13 t14 t15 t16 t17 t18 : V) (h : Heap) (n : Nat) (Q : X → St → Prop) : Wp CC (subC [1, 1, 0, 1, 0, 0] (bodyOf Go.Proofs.Tryz.f45)) ⟨mkTm [t0, t1, t2, t3, t4, t5, t6, t7, t8, t9, t10, t11, t12, t13, t14, t15, t16, t17, t18], h, n, []⟩ Q = (
oK (lenV CC h 23 t0) fun v1 =>
oK (binop CC .lss 3 false t4 v1) fun v2 =>
oK (asBool v2) fun b3 => bif b3 then (
oK (indexAddr CC 23 t0 t4) fun v4 =>
oK (normO (rLoad CC 5 h v4)) fun v5 =>
fillK 1 ((zr CC 5).rep 1) [(0, v5)] fun c6 =>
let h7 := h.set n (.cells (.lst c6) 1); let n8 := n + 1;
appendK CC h7 n8 23 23 t3 (.slice n 0 1 1 false) fun v9 h10 n11 =>
oK (binop CC .add 3 true t4 (.s (.int .i64 1))) fun v12 =>
Q .normal ⟨mkTm [t0, t1, t2, v9, v12, t4, t0, v1, v2, t4, v12, t3, t0, t4, v4, v5, (.slice n 0 1 1 false), v9, t18], h10, n11, []⟩) else (
Q (.exit 0) ⟨mkTm [t0, t1, t2, t3, t4, t4, t0, v1, v2, t9, t10, t11, t12, t13, t14, t15, t16, t17, t18], h, n, []⟩)) := Wp.eq_of (by kernel_rfl)

theorem F45_r110100_0 (t0 t1 t2 t3 t4 t5 t6 t7 t8 t9 t10 t11 t12 t13 t14 t15 t16 t17 t18 : V) (h : Heap) (n : Nat) (K : V → Heap → Nat → Prop) : resume CC none [.blk 0, .sq (subC [1, 1, 1] (bodyOf Go.Proofs.Tryz.f45))] (retW CC Go.Proofs.Tryz.f45 K) (.exit 0) ⟨mkTm [t0, t1, t2, t3, t4, t5, t6, t7, t8, t9, t10, t11, t12, t13, t14, t15, t16, t17, t18], h, n, []⟩ = (
K t3 h n) := by kernel_rfl

/-! F46 lockgate/lockgatekit.markBytes -/
theorem F46 : CC.F.get 46 = some Go.Proofs.Tryz.f46 := by kernel_rfl
theorem F46_eq (t0 : V) (h : Heap) (n : Nat) (K : V → Heap → Nat → Prop) : Wp CC (bodyOf Go.Proofs.Tryz.f46) ⟨initTm Go.Proofs.Tryz.f46 [t0], h, n, []⟩ (retW CC Go.Proofs.Tryz.f46 K) = (
oK (binop CC .mul 3 true (.s (.int .i64 7)) t0) fun v1 =>
oK (binop CC .add 3 true (.s (.int .i64 201)) v1) fun v2 =>
oK (convert CC h 3 5 v2) fun v3 =>
K v3 h n) := Wp.eq_of (by kernel_rfl)
theorem F46_call {t0 : V} {h : Heap} {n : Nat} {K : V → Heap → Nat → Prop} (H : (∀ b o, h.get b = some o → b < n) → Wp CC (bodyOf Go.Proofs.Tryz.f46) ⟨initTm Go.Proofs.Tryz.f46 [t0], h, n, []⟩ (retW CC Go.Proofs.Tryz.f46 K)) : CallK CC 46 [t0] h n K := by
  have := @callK_of CC CCok 46 Go.Proofs.Tryz.f46 (bodyOf Go.Proofs.Tryz.f46) [t0] h n K F46
  refine this ?_ ?_ ?_
  · kernel_rfl
  · kernel_rfl
  · exact H

/-! F47 lockgate/maps.within -/
theorem F47 : CC.F.get 47 = some Go.Proofs.Tryz.f47 := by kernel_rfl
theorem F47_eq (t0 t1 t2 : V) (h : Heap) (n : Nat) (K : V → Heap → Nat → Prop) : Wp CC (bodyOf Go.Proofs.Tryz.f47) ⟨initTm Go.Proofs.Tryz.f47 [t0, t1, t2], h, n, []⟩ (retW CC Go.Proofs.Tryz.f47 K) = (
oK (binop CC .geq 3 false t0 t1) fun v1 =>
oK (bif (rWant true v1) then some t0 else some undefV) fun v2 =>
oK (bif (rWant true v1) then some t2 else some undefV) fun v3 =>
oK (bif (rWant true v1) then binop CC .leq 3 false v2 v3 else some undefV) fun v4 =>
oK (rPick v1 v4 (.s (.bool false))) fun v5 =>
K v5 h n) := Wp.eq_of (by kernel_rfl)
theorem F47_call {t0 t1 t2 : V} {h : Heap} {n : Nat} {K : V → Heap → Nat → Prop} (H : (∀ b o, h.get b = some o → b < n) → Wp CC (bodyOf Go.Proofs.Tryz.f47) ⟨initTm Go.Proofs.Tryz.f47 [t0, t1, t2], h, n, []⟩ (retW CC Go.Proofs.Tryz.f47 K)) : CallK CC 47 [t0, t1, t2] h n K := by
  have := @callK_of CC CCok 47 Go.Proofs.Tryz.f47 (bodyOf Go.Proofs.Tryz.f47) [t0, t1, t2] h n K F47
  refine this ?_ ?_ ?_
  · kernel_rfl
  · kernel_rfl
  · exact H

/-! F48 lockgate/maps.may -/
theorem F48 : CC.F.get 48 = some Go.Proofs.Tryz.f48 := by kernel_rfl
theorem F48_eq (t0 : V) (h : Heap) (n : Nat) (K : V → Heap → Nat → Prop) : Wp CC (bodyOf Go.Proofs.Tryz.f48) ⟨initTm Go.Proofs.Tryz.f48 [t0], h, n, []⟩ (retW CC Go.Proofs.Tryz.f48 K) = (
oK (V.cells t0) fun c1 =>
let h2 := h.set n (.cells (.lst c1.toList) 4); let n3 := n + 1;
oK (rFA CC 69 0 (.ptr n 0)) fun v4 =>
oK (normO (rLoad CC 3 h2 v4)) fun v5 =>
oK (binop CC .eql 3 true v5 (.s (.int .i64 1))) fun v6 =>
oK (bif (rWant false v6) then rFA CC 69 0 (.ptr n 0) else some undefV) fun v7 =>
oK (bif (rWant false v6) then normO (rLoad CC 3 h2 v7) else some undefV) fun v8 =>
oK (bif (rWant false v6) then binop CC .eql 3 true v8 (.s (.int .i64 4)) else some undefV) fun v9 =>
oK (rPick v6 (.s (.bool true)) v9) fun v10 =>
oK (rFA CC 69 1 (.ptr n 0)) fun v11 =>
oK (normO (rLoad CC 3 h2 v11)) fun v12 =>
CallK CC 47 [v12, (.s (.int .i64 1)), (.s (.int .i64 16))] h2 n3 fun v13 h14 n15 =>
oK (rUn CC .not v13) fun v16 =>
oK (bif (rWant false v16) then rFA CC 69 2 (.ptr n 0) else some undefV) fun v17 =>
oK (bif (rWant false v16) then normO (rLoad CC 3 h14 v17) else some undefV) fun v18 =>
let k19 := fun (v20 : V) (h21 : Heap) (n22 : Nat) => (
oK (bif (rWant false v16) then rUn CC .not v20 else some undefV) fun v23 =>
oK (rPick v16 (.s (.bool true)) v23) fun v24 =>
oK (bif (rWant false v24) then rFA CC 69 3 (.ptr n 0) else some undefV) fun v25 =>
oK (bif (rWant false v24) then normO (rLoad CC 3 h21 v25) else some undefV) fun v26 =>
let k27 := fun (v28 : V) (h29 : Heap) (n30 : Nat) => (
oK (bif (rWant false v24) then rUn CC .not v28 else some undefV) fun v31 =>
oK (rPick v24 (.s (.bool true)) v31) fun v32 =>
oK (asBool v32) fun b33 => bif b33 then (
K (.s (.bool false)) h29 n30) else (
oK (bif (rWant true v10) then rFA CC 69 1 (.ptr n 0) else some undefV) fun v34 =>
oK (bif (rWant true v10) then normO (rLoad CC 3 h29 v34) else some undefV) fun v35 =>
oK (bif (rWant true v10) then binop CC .neq 3 true v35 (.s (.int .i64 4)) else some undefV) fun v36 =>
oK (rPick v10 v36 (.s (.bool false))) fun v37 =>
oK (asBool v37) fun b38 => bif b38 then (
K (.s (.bool false)) h29 n30) else (
oK (rFA CC 69 0 (.ptr n 0)) fun v39 =>
oK (normO (rLoad CC 3 h29 v39)) fun v40 =>
oK (binop CC .neq 3 true v40 (.s (.int .i64 4))) fun v41 =>
oK (bif (rWant false v41) then rFA CC 69 2 (.ptr n 0) else some undefV) fun v42 =>
oK (bif (rWant false v41) then normO (rLoad CC 3 h29 v42) else some undefV) fun v43 =>
oK (bif (rWant false v41) then binop CC .eql 3 true v43 (.s (.int .i64 4)) else some undefV) fun v44 =>
oK (rPick v41 (.s (.bool true)) v44) fun v45 =>
K v45 h29 n30)));
bif (rWant false v24) then (CallK CC 47 [v26, (.s (.int .i64 1)), (.s (.int .i64 64))] h21 n22 fun v46 h47 n48 =>
k27 v46 h47 n48) else k27 undefV h21 n22);
bif (rWant false v16) then (CallK CC 47 [v18, (.s (.int .i64 1)), (.s (.int .i64 64))] h14 n15 fun v49 h50 n51 =>
k19 v49 h50 n51) else k19 undefV h14 n15) := Wp.eq_of (by kernel_rfl)
theorem F48_call {t0 : V} {h : Heap} {n : Nat} {K : V → Heap → Nat → Prop} (H : (∀ b o, h.get b = some o → b < n) → Wp CC (bodyOf Go.Proofs.Tryz.f48) ⟨initTm Go.Proofs.Tryz.f48 [t0], h, n, []⟩ (retW CC Go.Proofs.Tryz.f48 K)) : CallK CC 48 [t0] h n K := by
  have := @callK_of CC CCok 48 Go.Proofs.Tryz.f48 (bodyOf Go.Proofs.Tryz.f48) [t0] h n K F48
  refine this ?_ ?_ ?_
  · kernel_rfl
  · kernel_rfl
  · exact H

/-! F49 lockgate/array.New -/
theorem F49 : CC.F.get 49 = some Go.Proofs.Tryz.f49 := by kernel_rfl
theorem F49_eq (t0 t1 t2 : V) (h : Heap) (n : Nat) (K : V → Heap → Nat → Prop) : Wp CC (bodyOf Go.Proofs.Tryz.f49) ⟨initTm Go.Proofs.Tryz.f49 [t0, t1, t2], h, n, []⟩ (retW CC Go.Proofs.Tryz.f49 K) = (
oK (rMin CC #[3, 3] 3 [t1, (.s (.int .i64 64))]) fun v1 =>
oK (rMax CC #[3, 3] 3 [(.s (.int .i64 1)), v1]) fun v2 =>
oK (asNat v2) fun l3 => oK (asNat v2) fun c4 =>
bif Nat.ble l3 c4 && (Nat.ble (8 * c4) 281474976710656 && (Nat.blt c4 9223372036854775808 && true)) then (
let h5 := h.set n (.cells (.lst ((zr CC 3).rep c4).toList) 1); let n6 := n + 1;
oK (normO (build CC 164 [(0, (.slice n 0 l3 c4 false))])) fun v7 =>
oK (V.cells v7) fun c8 =>
let h9 := h5.set n6 (.cells (.lst c8.toList) 1); let n10 := n6 + 1;
oK (rMin CC #[3, 3] 3 [t2, (.s (.int .i64 64))]) fun v11 =>
oK (rMax CC #[3, 3] 3 [(.s (.int .i64 1)), v11]) fun v12 =>
oK (asNat v12) fun l13 => oK (asNat v12) fun c14 =>
bif Nat.ble l13 c14 && (Nat.ble (1 * c14) 281474976710656 && (Nat.blt c14 9223372036854775808 && true)) then (
let h15 := h9.set n10 (.cells (.lst ((zr CC 5).rep c14).toList) 1); let n16 := n10 + 1;
oK (rNil (.ptr n6 0)) fun v17 =>
oK (rFA CC 164 0 v17) fun v18 =>
oK (normO (rLoad CC 122 h15 v18)) fun v19 =>
oK (lenV CC h15 122 v19) fun v20 =>
LoopK CC none (subC [1, 1, 1, 0, 1, 0, 0] (bodyOf Go.Proofs.Tryz.f49)) ⟨mkTm [t0, t1, t2, undefV, undefV, undefV, (.s (.pointer none)), (.ptr n6 0), (.slice n10 0 l13 c14 false), undefV, t1, v1, v2, (.slice n 0 l3 c4 false), v7, (.ptr n6 0), t2, v11, v12, (.slice n10 0 l13 c14 false), (.ptr n6 0), v17, v18, v19, v20, (.s (.int .i64 0)), undefV, undefV, undefV, undefV, undefV, undefV, undefV, undefV, undefV, undefV, undefV, undefV, undefV], h15, n16, []⟩ (resume CC none [.blk 0, .sq (subC [1, 1, 1, 1] (bodyOf Go.Proofs.Tryz.f49))] (retW CC Go.Proofs.Tryz.f49 K))) else False) else False) := Wp.eq_of (by kernel_rfl)
theorem F49_call {t0 t1 t2 : V} {h : Heap} {n : Nat} {K : V → Heap → Nat → Prop} (H : (∀ b o, h.get b = some o → b < n) → Wp CC (bodyOf Go.Proofs.Tryz.f49) ⟨initTm Go.Proofs.Tryz.f49 [t0, t1, t2], h, n, []⟩ (retW CC Go.Proofs.Tryz.f49 K)) : CallK CC 49 [t0, t1, t2] h n K := by
  have := @callK_of CC CCok 49 Go.Proofs.Tryz.f49 (bodyOf Go.Proofs.Tryz.f49) [t0, t1, t2] h n K F49
  refine this ?_ ?_ ?_
  · kernel_rfl
  · kernel_rfl
  · exact H

def F49_L1110100 (t0 t7 t8 t24 t25 : V) (h : Heap) (n : Nat) (s : St) : Prop := ∃ f : Nat → V, s = ⟨mkTm [t0, (f 1), (f 2), (f 3), (f 4), (f 5), (f 6), t7, t8, (f 9), (f 10), (f 11), (f 12), (f 13), (f 14), (f 15), (f 16), (f 17), (f 18), (f 19), (f 20), (f 21), (f 22), (f 23), t24, t25, (f 26), (f 27), (f 28), (f 29), (f 30), (f 31), (f 32), (f 33), (f 34), (f 35), (f 36), (f 37), (f 38)], h, n, []⟩
theorem F49_L1110100_of {t0 t7 t8 t24 t25 : V} {t1 t2 t3 t4 t5 t6 t9 t10 t11 t12 t13 t14 t15 t16 t17 t18 t19 t20 t21 t22 t23 t26 t27 t28 t29 t30 t31 t32 t33 t34 t35 t36 t37 t38 : V} {h : Heap} {n : Nat} : F49_L1110100 t0 t7 t8 t24 t25 h n ⟨mkTm [t0, t1, t2, t3, t4, t5, t6, t7, t8, t9, t10, t11, t12, t13, t14, t15, t16, t17, t18, t19, t20, t21, t22, t23, t24, t25, t26, t27, t28, t29, t30, t31, t32, t33, t34, t35, t36, t37, t38], h, n, []⟩ :=
  ⟨fun i => ([t0, t1, t2, t3, t4, t5, t6, t7, t8, t9, t10, t11, t12, t13, t14, t15, t16, t17, t18, t19, t20, t21, t22, t23, t24, t25, t26, t27, t28, t29, t30, t31, t32, t33, t34, t35, t36, t37, t38] : List V).getD i undefV, by kernel_rfl⟩
theorem F49_L1110100_elim {t0 t7 t8 t24 t25 : V} {h : Heap} {n : Nat} {s : St} {P : St → Prop} (hs : F49_L1110100 t0 t7 t8 t24 t25 h n s) (H : ∀ t1 t2 t3 t4 t5 t6 t9 t10 t11 t12 t13 t14 t15 t16 t17 t18 t19 t20 t21 t22 t23 t26 t27 t28 t29 t30 t31 t32 t33 t34 t35 t36 t37 t38 : V, P ⟨mkTm [t0, t1, t2, t3, t4, t5, t6, t7, t8, t9, t10, t11, t12, t13, t14, t15, t16, t17, t18, t19, t20, t21, t22, t23, t24, t25, t26, t27, t28, t29, t30, t31, t32, t33, t34, t35, t36, t37, t38], h, n, []⟩) : P s := by
  obtain ⟨f, rfl⟩ := hs
  exact H (f 1) (f 2) (f 3) (f 4) (f 5) (f 6) (f 9) (f 10) (f 11) (f 12) (f 13) (f 14) (f 15) (f 16) (f 17) (f 18) (f 19) (f 20) (f 21) (f 22) (f 23) (f 26) (f 27) (f 28) (f 29) (f 30) (f 31) (f 32) (f 33) (f 34) (f 35) (f 36) (f 37) (f 38)

theorem F49_b1110100 (t0 t1 t2 t3 t4 t5 t6 t7 t8 t9 t10 t11 t12 t13 t14 t15 t16 t17 t18 t19 t20 t21 t22 t23 t24 t25 t26 t27 t28 t29 t30 t31 t32 t33 t34 t35 t36 t37 t38 : V) (h : Heap) (n : Nat) (Q : X → St → Prop) : Wp CC (subC [1, 1, 1, 0, 1, 0, 0] (bodyOf Go.Proofs.Tryz.f49)) ⟨mkTm [t0, t1, t2, t3, t4, t5, t6, t7, t8, t9, t10, t11, t12, t13, t14, t15, t16, t17, t18, t19, t20, t21, t22, t23, t24, t25, t26, t27, t28, t29, t30, t31, t32, t33, t34, t35, t36, t37, t38], h, n, []⟩ Q = (
oK (binop CC .lss 3 false t25 t24) fun v21 =>
oK (asBool v21) fun b22 => bif b22 then (
oK (rNil t7) fun v23 =>
oK (rFA CC 164 0 v23) fun v24 =>
oK (normO (rLoad CC 122 h v24)) fun v25 =>
CallK CC 76 [t0, t8] h (n + 10) fun v26 h27 n28 =>
(normO (rLoad CC 122 h27 v24) = some v25 ∧ True) ∧
oK (indexAddr CC 122 v25 t25) fun v29 =>
oK (asPtr v29) fun p30 => oK (store CC h27 3 p30.1 p30.2 v26) fun h31 =>
(True ∧ True) ∧
oK (binop CC .add 3 true t25 (.s (.int .i64 1))) fun v32 =>
Q .normal ⟨mkTm [t0, t1, t2, t3, t4, t5, t6, t7, t8, t25, t10, t11, t12, t13, t14, t15, t16, t17, t18, t19, t20, t21, t22, t23, t24, v32, v21, t25, t7, v23, v24, v25, t25, t0, t8, v26, v29, v32, t38], h31, n28, []⟩) else (
Q (.exit 0) ⟨mkTm [t0, t1, t2, t3, t4, t5, t6, t7, t8, t9, t10, t11, t12, t13, t14, t15, t16, t17, t18, t19, t20, t21, t22, t23, t24, t25, v21, t27, t28, t29, t30, t31, t32, t33, t34, t35, t36, t37, t38], h, n, []⟩)) := Wp.eq_of (by kernel_rfl)

theorem F49_r1110100_0 (t0 t1 t2 t3 t4 t5 t6 t7 t8 t9 t10 t11 t12 t13 t14 t15 t16 t17 t18 t19 t20 t21 t22 t23 t24 t25 t26 t27 t28 t29 t30 t31 t32 t33 t34 t35 t36 t37 t38 : V) (h : Heap) (n : Nat) (K : V → Heap → Nat → Prop) : resume CC none [.blk 0, .sq (subC [1, 1, 1, 1] (bodyOf Go.Proofs.Tryz.f49))] (retW CC Go.Proofs.Tryz.f49 K) (.exit 0) ⟨mkTm [t0, t1, t2, t3, t4, t5, t6, t7, t8, t9, t10, t11, t12, t13, t14, t15, t16, t17, t18, t19, t20, t21, t22, t23, t24, t25, t26, t27, t28, t29, t30, t31, t32, t33, t34, t35, t36, t37, t38], h, n, []⟩ = (
K t7 h n) := by kernel_rfl

/-! F50 lockgate/hash.New -/
theorem F50 : CC.F.get 50 = some Go.Proofs.Tryz.f50 := by kernel_rfl
theorem F50_eq (t0 t1 : V) (h : Heap) (n : Nat) (K : V → Heap → Nat → Prop) : Wp CC (bodyOf Go.Proofs.Tryz.f50) ⟨initTm Go.Proofs.Tryz.f50 [t0, t1], h, n, []⟩ (retW CC Go.Proofs.Tryz.f50 K) = (
CallK CC 77 [t0, (.s (.int .i64 16))] h n fun v1 h2 n3 =>
CallK CC 77 [t1, (.s (.int .i64 64))] h2 n3 fun v4 h5 n6 =>
oK (normO (build CC 168 [(0, v1), (1, v4)])) fun v7 =>
oK (V.cells v7) fun c8 =>
let h9 := h5.set n6 (.cells (.lst c8.toList) 6); let n10 := n6 + 1;
LoopK CC none (subC [1, 1, 1, 0, 0, 0] (bodyOf Go.Proofs.Tryz.f50)) ⟨mkTm [t0, t1, undefV, undefV, (.s (.pointer none)), (.ptr n6 0), (.s (.int .i64 1)), t0, v1, t1, v4, v7, (.ptr n6 0), undefV, undefV, undefV, undefV, undefV, undefV, undefV, undefV, undefV, undefV, undefV, undefV, undefV, undefV, undefV, undefV, undefV, undefV, undefV, undefV, undefV, undefV, undefV, undefV, undefV, undefV, undefV, undefV, undefV, undefV], h9, n10, []⟩ (resume CC none [.blk 0, .sq (subC [1, 1, 1, 1] (bodyOf Go.Proofs.Tryz.f50))] (retW CC Go.Proofs.Tryz.f50 K))) := Wp.eq_of (by kernel_rfl)
theorem F50_call {t0 t1 : V} {h : Heap} {n : Nat} {K : V → Heap → Nat → Prop} (H : (∀ b o, h.get b = some o → b < n) → Wp CC (bodyOf Go.Proofs.Tryz.f50) ⟨initTm Go.Proofs.Tryz.f50 [t0, t1], h, n, []⟩ (retW CC Go.Proofs.Tryz.f50 K)) : CallK CC 50 [t0, t1] h n K := by
  have := @callK_of CC CCok 50 Go.Proofs.Tryz.f50 (bodyOf Go.Proofs.Tryz.f50) [t0, t1] h n K F50
  refine this ?_ ?_ ?_
  · kernel_rfl
  · kernel_rfl
  · exact H

def F50_L111000 (t5 t6 : V) (h : Heap) (n : Nat) (s : St) : Prop := ∃ f : Nat → V, s = ⟨mkTm [(f 0), (f 1), (f 2), (f 3), (f 4), t5, t6, (f 7), (f 8), (f 9), (f 10), (f 11), (f 12), (f 13), (f 14), (f 15), (f 16), (f 17), (f 18), (f 19), (f 20), (f 21), (f 22), (f 23), (f 24), (f 25), (f 26), (f 27), (f 28), (f 29), (f 30), (f 31), (f 32), (f 33), (f 34), (f 35), (f 36), (f 37), (f 38), (f 39), (f 40), (f 41), (f 42)], h, n, []⟩
theorem F50_L111000_of {t5 t6 : V} {t0 t1 t2 t3 t4 t7 t8 t9 t10 t11 t12 t13 t14 t15 t16 t17 t18 t19 t20 t21 t22 t23 t24 t25 t26 t27 t28 t29 t30 t31 t32 t33 t34 t35 t36 t37 t38 t39 t40 t41 t42 : V} {h : Heap} {n : Nat} : F50_L111000 t5 t6 h n ⟨mkTm [t0, t1, t2, t3, t4, t5, t6, t7, t8, t9, t10, t11, t12, t13, t14, t15, t16, t17, t18, t19, t20, t21, t22, t23, t24, t25, t26, t27, t28, t29, t30, t31, t32, t33, t34, t35, t36, t37, t38, t39, t40, t41, t42], h, n, []⟩ :=
  ⟨fun i => ([t0, t1, t2, t3, t4, t5, t6, t7, t8, t9, t10, t11, t12, t13, t14, t15, t16, t17, t18, t19, t20, t21, t22, t23, t24, t25, t26, t27, t28, t29, t30, t31, t32, t33, t34, t35, t36, t37, t38, t39, t40, t41, t42] : List V).getD i undefV, by kernel_rfl⟩
theorem F50_L111000_elim {t5 t6 : V} {h : Heap} {n : Nat} {s : St} {P : St → Prop} (hs : F50_L111000 t5 t6 h n s) (H : ∀ t0 t1 t2 t3 t4 t7 t8 t9 t10 t11 t12 t13 t14 t15 t16 t17 t18 t19 t20 t21 t22 t23 t24 t25 t26 t27 t28 t29 t30 t31 t32 t33 t34 t35 t36 t37 t38 t39 t40 t41 t42 : V, P ⟨mkTm [t0, t1, t2, t3, t4, t5, t6, t7, t8, t9, t10, t11, t12, t13, t14, t15, t16, t17, t18, t19, t20, t21, t22, t23, t24, t25, t26, t27, t28, t29, t30, t31, t32, t33, t34, t35, t36, t37, t38, t39, t40, t41, t42], h, n, []⟩) : P s := by
  obtain ⟨f, rfl⟩ := hs
  exact H (f 0) (f 1) (f 2) (f 3) (f 4) (f 7) (f 8) (f 9) (f 10) (f 11) (f 12) (f 13) (f 14) (f 15) (f 16) (f 17) (f 18) (f 19) (f 20) (f 21) (f 22) (f 23) (f 24) (f 25) (f 26) (f 27) (f 28) (f 29) (f 30) (f 31) (f 32) (f 33) (f 34) (f 35) (f 36) (f 37) (f 38) (f 39) (f 40) (f 41) (f 42)

theorem F50_b111000 (t0 t1 t2 t3 t4 t5 t6 t7 t8 t9 t10 t11 t12 t13 t14 t15 t16 t17 t18 t19 t20 t21 t22 t23 t24 t25 t26 t27 t28 t29 t30 t31 t32 t33 t34 t35 t36 t37 t38 t39 t40 t41 t42 : V) (h : Heap) (n : Nat) (Q : X → St → Prop) : Wp CC (subC [1, 1, 1, 0, 0, 0] (bodyOf Go.Proofs.Tryz.f50)) ⟨mkTm [t0, t1, t2, t3, t4, t5, t6, t7, t8, t9, t10, t11, t12, t13, t14, t15, t16, t17, t18, t19, t20, t21, t22, t23, t24, t25, t26, t27, t28, t29, t30, t31, t32, t33, t34, t35, t36, t37, t38, t39, t40, t41, t42], h, n, []⟩ Q = (
oK (rNil t5) fun v11 =>
oK (rFA CC 168 1 v11) fun v12 =>
oK (normO (rLoad CC 3 h v12)) fun v13 =>
oK (binop CC .mul 3 true (.s (.int .i64 2)) v13) fun v14 =>
oK (binop CC .lss 3 false t6 v14) fun v15 =>
oK (asBool v15) fun b16 => bif b16 then (
oK (binop CC .mul 3 true t6 (.s (.int .i64 2))) fun v17 =>
Q .normal ⟨mkTm [t0, t1, t2, t3, t4, t5, v17, t7, t8, t9, t10, t11, t12, t6, t5, v11, v12, v13, v14, v15, t6, v17, t22, t23, t24, t25, t26, t27, t28, t29, t30, t31, t32, t33, t34, t35, t36, t37, t38, t39, t40, t41, t42], h, n, []⟩) else (
Q (.exit 0) ⟨mkTm [t0, t1, t2, t3, t4, t5, t6, t7, t8, t9, t10, t11, t12, t6, t5, v11, v12, v13, v14, v15, t20, t21, t22, t23, t24, t25, t26, t27, t28, t29, t30, t31, t32, t33, t34, t35, t36, t37, t38, t39, t40, t41, t42], h, n, []⟩)) := Wp.eq_of (by kernel_rfl)

theorem F50_r111000_0 (t0 t1 t2 t3 t4 t5 t6 t7 t8 t9 t10 t11 t12 t13 t14 t15 t16 t17 t18 t19 t20 t21 t22 t23 t24 t25 t26 t27 t28 t29 t30 t31 t32 t33 t34 t35 t36 t37 t38 t39 t40 t41 t42 : V) (h : Heap) (n : Nat) (K : V → Heap → Nat → Prop) : resume CC none [.blk 0, .sq (subC [1, 1, 1, 1] (bodyOf Go.Proofs.Tryz.f50))] (retW CC Go.Proofs.Tryz.f50 K) (.exit 0) ⟨mkTm [t0, t1, t2, t3, t4, t5, t6, t7, t8, t9, t10, t11, t12, t13, t14, t15, t16, t17, t18, t19, t20, t21, t22, t23, t24, t25, t26, t27, t28, t29, t30, t31, t32, t33, t34, t35, t36, t37, t38, t39, t40, t41, t42], h, n, []⟩ = (
oK (rNil t5) fun v18 =>
oK (rFA CC 168 0 v18) fun v19 =>
oK (normO (rLoad CC 3 h v19)) fun v20 =>
oK (binop CC .mul 3 false t6 v20) fun v21 =>
oK (asNat v21) fun l22 => oK (asNat v21) fun c23 =>
bif Nat.ble l22 c23 && (Nat.ble (1 * c23) 281474976710656 && (Nat.blt c23 9223372036854775808 && true)) then (
let h24 := h.set n (.cells (.lst ((zr CC 5).rep c23).toList) 1); let n25 := n + 1;
oK (rNil t5) fun v26 =>
oK (rFA CC 168 3 v26) fun v27 =>
oK (asPtr v27) fun p28 => oK (store CC h24 23 p28.1 p28.2 (.slice n 0 l22 c23 false)) fun h29 =>
oK (asNat t6) fun l30 => oK (asNat t6) fun c31 =>
bif Nat.ble l30 c31 && (Nat.ble (1 * c31) 281474976710656 && (Nat.blt c31 9223372036854775808 && true)) then (
let h32 := h29.set n25 (.cells (.lst ((zr CC 5).rep c31).toList) 1); let n33 := n25 + 1;
oK (rNil t5) fun v34 =>
oK (rFA CC 168 4 v34) fun v35 =>
oK (asPtr v35) fun p36 => oK (store CC h32 23 p36.1 p36.2 (.slice n25 0 l30 c31 false)) fun h37 =>
oK (asNat t6) fun l38 => oK (asNat t6) fun c39 =>
bif Nat.ble l38 c39 && (Nat.ble (8 * c39) 281474976710656 && (Nat.blt c39 9223372036854775808 && true)) then (
let h40 := h37.set n33 (.cells (.lst ((zr CC 3).rep c39).toList) 1); let n41 := n33 + 1;
oK (rNil t5) fun v42 =>
oK (rFA CC 168 5 v42) fun v43 =>
oK (asPtr v43) fun p44 => oK (store CC h40 122 p44.1 p44.2 (.slice n33 0 l38 c39 false)) fun h45 =>
K t5 h45 n41) else False) else False) else False) := by kernel_rfl

/-! F51 lockgate/lru.New -/
theorem F51 : CC.F.get 51 = some Go.Proofs.Tryz.f51 := by kernel_rfl
theorem F51_eq (t0 t1 : V) (h : Heap) (n : Nat) (K : V → Heap → Nat → Prop) : Wp CC (bodyOf Go.Proofs.Tryz.f51) ⟨initTm Go.Proofs.Tryz.f51 [t0, t1], h, n, []⟩ (retW CC Go.Proofs.Tryz.f51 K) = (
oK (rMin CC #[3, 3] 3 [t0, (.s (.int .i64 16))]) fun v1 =>
oK (rMax CC #[3, 3] 3 [(.s (.int .i64 1)), v1]) fun v2 =>
oK (rMin CC #[3, 3] 3 [t1, (.s (.int .i64 64))]) fun v3 =>
oK (rMax CC #[3, 3] 3 [(.s (.int .i64 1)), v3]) fun v4 =>
oK (normO (build CC 171 [(0, v2), (1, v4)])) fun v5 =>
oK (V.cells v5) fun c6 =>
let h7 := h.set n (.cells (.lst c6.toList) 3); let n8 := n + 1;
K (.ptr n 0) h7 n8) := Wp.eq_of (by kernel_rfl)
theorem F51_call {t0 t1 : V} {h : Heap} {n : Nat} {K : V → Heap → Nat → Prop} (H : (∀ b o, h.get b = some o → b < n) → Wp CC (bodyOf Go.Proofs.Tryz.f51) ⟨initTm Go.Proofs.Tryz.f51 [t0, t1], h, n, []⟩ (retW CC Go.Proofs.Tryz.f51 K)) : CallK CC 51 [t0, t1] h n K := by
  have := @callK_of CC CCok 51 Go.Proofs.Tryz.f51 (bodyOf Go.Proofs.Tryz.f51) [t0, t1] h n K F51
  refine this ?_ ?_ ?_
  · kernel_rfl
  · kernel_rfl
  · exact H

/-! F52 (*lockgate/maps.Maps).at -/
theorem F52 : CC.F.get 52 = some Go.Proofs.Tryz.f52 := by kernel_rfl
theorem F52_eq (t0 t1 : V) (h : Heap) (n : Nat) (K : V → Heap → Nat → Prop) : Wp CC (bodyOf Go.Proofs.Tryz.f52) ⟨initTm Go.Proofs.Tryz.f52 [t0, t1], h, n, []⟩ (retW CC Go.Proofs.Tryz.f52 K) = (
oK (rNil t0) fun v1 =>
oK (rFA CC 98 1 v1) fun v2 =>
oK (normO (rLoad CC 95 h v2)) fun v3 =>
oK (lenV CC h 95 v3) fun v4 =>
CallK CC 47 [t1, (.s (.int .i64 1)), v4] h n fun v5 h6 n7 =>
oK (rUn CC .not v5) fun v8 =>
oK (asBool v8) fun b9 => bif b9 then (
K (.s (.pointer none)) h6 n7) else (
oK (rNil t0) fun v10 =>
oK (rFA CC 98 1 v10) fun v11 =>
oK (normO (rLoad CC 95 h6 v11)) fun v12 =>
oK (binop CC .sub 3 true t1 (.s (.int .i64 1))) fun v13 =>
oK (indexAddr CC 95 v12 v13) fun v14 =>
oK (normO (rLoad CC 121 h6 v14)) fun v15 =>
K v15 h6 n7)) := Wp.eq_of (by kernel_rfl)
theorem F52_call {t0 t1 : V} {h : Heap} {n : Nat} {K : V → Heap → Nat → Prop} (H : (∀ b o, h.get b = some o → b < n) → Wp CC (bodyOf Go.Proofs.Tryz.f52) ⟨initTm Go.Proofs.Tryz.f52 [t0, t1], h, n, []⟩ (retW CC Go.Proofs.Tryz.f52 K)) : CallK CC 52 [t0, t1] h n K := by
  have := @callK_of CC CCok 52 Go.Proofs.Tryz.f52 (bodyOf Go.Proofs.Tryz.f52) [t0, t1] h n K F52
  refine this ?_ ?_ ?_
  · kernel_rfl
  · kernel_rfl
  · exact H

/-! F53 (*lockgate/maps.one).find -/
theorem F53 : CC.F.get 53 = some Go.Proofs.Tryz.f53 := by kernel_rfl
theorem F53_eq (t0 t1 t2 : V) (h : Heap) (n : Nat) (K : V → Heap → Nat → Prop) : Wp CC (bodyOf Go.Proofs.Tryz.f53) ⟨initTm Go.Proofs.Tryz.f53 [t0, t1, t2], h, n, []⟩ (retW CC Go.Proofs.Tryz.f53 K) = (
oK (binop CC .eql 121 true t0 (.s (.pointer none))) fun v1 =>
oK (bif (rWant false v1) then some t1 else some undefV) fun v2 =>
oK (bif (rWant false v1) then lenV CC h 23 v2 else some undefV) fun v3 =>
oK (bif (rWant false v1) then some t0 else some undefV) fun v4 =>
oK (bif (rWant false v1) then rNil v4 else some undefV) fun v5 =>
oK (bif (rWant false v1) then rFA CC 124 0 v5 else some undefV) fun v6 =>
oK (bif (rWant false v1) then rFA CC 69 1 v6 else some undefV) fun v7 =>
oK (bif (rWant false v1) then normO (rLoad CC 3 h v7) else some undefV) fun v8 =>
oK (bif (rWant false v1) then binop CC .neq 3 false v3 v8 else some undefV) fun v9 =>
oK (rPick v1 (.s (.bool true)) v9) fun v10 =>
oK (asBool v10) fun b11 => bif b11 then (
K (.tup [(.s (.int .i64 0)), (.s (.bool false))]) h n) else (
oK (rNil t0) fun v12 =>
oK (rFA CC 124 1 v12) fun v13 =>
oK (normO (rLoad CC 20 h v13)) fun v14 =>
oK (typeAssert CC v14 125 true) fun v15 =>
oK (rExt v15 1) fun v16 =>
oK (rExt v15 0) fun v17 =>
oK (asBool v16) fun b18 => bif b18 then (
CallK CC 79 [t1] h n fun v19 h20 n21 =>
CallK CC 78 [v17, v19] h20 n21 fun v22 h23 n24 =>
oK (rExt v22 0) fun v25 =>
oK (rExt v22 1) fun v26 =>
K (.tup [v25, v26]) h23 n24) else (
oK (typeAssert CC v14 129 true) fun v27 =>
oK (rExt v27 1) fun v28 =>
oK (rExt v27 0) fun v29 =>
oK (asBool v28) fun b30 => bif b30 then (
oK (rUn CC .not t2) fun v31 =>
oK (asBool v31) fun b32 => bif b32 then (
CallK CC 80 [v29, t1] h n fun v33 h34 n35 =>
oK (rExt v33 0) fun v36 =>
oK (rExt v33 1) fun v37 =>
K (.tup [v36, v37]) h34 n35) else (
oK (rNil t0) fun v38 =>
oK (rFA CC 124 1 v38) fun v39 =>
oK (normO (rLoad CC 20 h v39)) fun v40 =>
oK (typeAssert CC v40 139 true) fun v41 =>
oK (rExt v41 0) fun v42 =>
oK (rExt v41 1) fun v43 =>
oK (asBool v43) fun b44 => bif b44 then (
invokeW CC v42 "Find" [t1] h n fun v45 h46 n47 =>
oK (rExt v45 0) fun v48 =>
oK (rExt v45 1) fun v49 =>
K (.tup [v48, v49]) h46 n47) else (
K (.tup [(.s (.int .i64 0)), (.s (.bool false))]) h n))) else (
oK (rNil t0) fun v50 =>
oK (rFA CC 124 1 v50) fun v51 =>
oK (normO (rLoad CC 20 h v51)) fun v52 =>
oK (typeAssert CC v52 139 true) fun v53 =>
oK (rExt v53 0) fun v54 =>
oK (rExt v53 1) fun v55 =>
oK (asBool v55) fun b56 => bif b56 then (
invokeW CC v54 "Find" [t1] h n fun v57 h58 n59 =>
oK (rExt v57 0) fun v60 =>
oK (rExt v57 1) fun v61 =>
K (.tup [v60, v61]) h58 n59) else (
K (.tup [(.s (.int .i64 0)), (.s (.bool false))]) h n))))) := Wp.eq_of (by kernel_rfl)
theorem F53_call {t0 t1 t2 : V} {h : Heap} {n : Nat} {K : V → Heap → Nat → Prop} (H : (∀ b o, h.get b = some o → b < n) → Wp CC (bodyOf Go.Proofs.Tryz.f53) ⟨initTm Go.Proofs.Tryz.f53 [t0, t1, t2], h, n, []⟩ (retW CC Go.Proofs.Tryz.f53 K)) : CallK CC 53 [t0, t1, t2] h n K := by
  have := @callK_of CC CCok 53 Go.Proofs.Tryz.f53 (bodyOf Go.Proofs.Tryz.f53) [t0, t1, t2] h n K F53
  refine this ?_ ?_ ?_
  · kernel_rfl
  · kernel_rfl
  · exact H

/-! F54 (*lockgate/cells.Cells).Write -/
theorem F54 : CC.F.get 54 = some Go.Proofs.Tryz.f54 := by kernel_rfl
theorem F54_eq (t0 t1 t2 t3 : V) (h : Heap) (n : Nat) (K : V → Heap → Nat → Prop) : Wp CC (bodyOf Go.Proofs.Tryz.f54) ⟨initTm Go.Proofs.Tryz.f54 [t0, t1, t2, t3], h, n, []⟩ (retW CC Go.Proofs.Tryz.f54 K) = (
oK (rNil t0) fun v1 =>
oK (rFA CC 117 0 v1) fun v2 =>
oK (normO (rLoad CC 115 h v2)) fun v3 =>
oK (lookup CC h 115 v3 t1 true) fun v4 =>
oK (rExt v4 0) fun v5 =>
oK (rExt v4 1) fun v6 =>
oK (rUn CC .not v6) fun v7 =>
oK (bif (rWant false v7) then some t2 else some undefV) fun v8 =>
oK (bif (rWant false v7) then lenV CC h 23 v8 else some undefV) fun v9 =>
oK (bif (rWant false v7) then some v5 else some undefV) fun v10 =>
oK (bif (rWant false v7) then rNil v10 else some undefV) fun v11 =>
oK (bif (rWant false v7) then rFA CC 179 0 v11 else some undefV) fun v12 =>
oK (bif (rWant false v7) then normO (rLoad CC 23 h v12) else some undefV) fun v13 =>
oK (bif (rWant false v7) then lenV CC h 23 v13 else some undefV) fun v14 =>
oK (bif (rWant false v7) then binop CC .neq 3 false v9 v14 else some undefV) fun v15 =>
oK (rPick v7 (.s (.bool true)) v15) fun v16 =>
oK (asBool v16) fun b17 => bif b17 then (
K (.s (.bool false)) h n) else (
oK (rNil v5) fun v18 =>
oK (rFA CC 179 0 v18) fun v19 =>
oK (normO (rLoad CC 23 h v19)) fun v20 =>
copyK CC h 23 v20 t2 fun v21 h22 =>
CallK CC 81 [v5, t3] h22 n fun v23 h24 n25 =>
K (.s (.bool true)) h24 n25)) := Wp.eq_of (by kernel_rfl)
theorem F54_call {t0 t1 t2 t3 : V} {h : Heap} {n : Nat} {K : V → Heap → Nat → Prop} (H : (∀ b o, h.get b = some o → b < n) → Wp CC (bodyOf Go.Proofs.Tryz.f54) ⟨initTm Go.Proofs.Tryz.f54 [t0, t1, t2, t3], h, n, []⟩ (retW CC Go.Proofs.Tryz.f54 K)) : CallK CC 54 [t0, t1, t2, t3] h n K := by
  have := @callK_of CC CCok 54 Go.Proofs.Tryz.f54 (bodyOf Go.Proofs.Tryz.f54) [t0, t1, t2, t3] h n K F54
  refine this ?_ ?_ ?_
  · kernel_rfl
  · kernel_rfl
  · exact H

/-! F55 (*lockgate/maps.Maps).note -/
theorem F55 : CC.F.get 55 = some Go.Proofs.Tryz.f55 := by kernel_rfl
theorem F55_eq (t0 t1 : V) (h : Heap) (n : Nat) (K : V → Heap → Nat → Prop) : Wp CC (bodyOf Go.Proofs.Tryz.f55) ⟨initTm Go.Proofs.Tryz.f55 [t0, t1], h, n, []⟩ (retW CC Go.Proofs.Tryz.f55 K) = (
oK (V.cells t1) fun c1 =>
let h2 := h.set n (.cells (.lst c1.toList) 5); let n3 := n + 1;
oK (rNil t0) fun v4 =>
oK (rFA CC 98 3 v4) fun v5 =>
oK (normO (rLoad CC 96 h2 v5)) fun v6 =>
oK (normO (rLoad CC 136 h2 (.ptr n 0))) fun v7 =>
oK (fillA 5 ((zr CC 136).rep 1) [(0, v7)]) fun c8 =>
appendK CC (h2.set (n3 + 6) (.cells c8 5)) (n3 + 11) 96 96 v6 (.slice (n3 + 6) 0 1 1 false) fun v9 h10 n11 =>
(True ∧ True ∧ True) ∧
oK (rNil t0) fun v12 =>
oK (rFA CC 98 3 v12) fun v13 =>
oK (asPtr v13) fun p14 => oK (store CC h10 96 p14.1 p14.2 v9) fun h15 =>
(True ∧ True ∧ True) ∧
K (.tup []) h15 n11) := Wp.eq_of (by kernel_rfl)
theorem F55_call {t0 t1 : V} {h : Heap} {n : Nat} {K : V → Heap → Nat → Prop} (H : (∀ b o, h.get b = some o → b < n) → Wp CC (bodyOf Go.Proofs.Tryz.f55) ⟨initTm Go.Proofs.Tryz.f55 [t0, t1], h, n, []⟩ (retW CC Go.Proofs.Tryz.f55 K)) : CallK CC 55 [t0, t1] h n K := by
  have := @callK_of CC CCok 55 Go.Proofs.Tryz.f55 (bodyOf Go.Proofs.Tryz.f55) [t0, t1] h n K F55
  refine this ?_ ?_ ?_
  · kernel_rfl
  · kernel_rfl
  · exact H

/-! F56 (*lockgate/hash.Hash).Len -/
theorem F56 : CC.F.get 56 = some Go.Proofs.Tryz.f56 := by kernel_rfl
theorem F56_eq (t0 : V) (h : Heap) (n : Nat) (K : V → Heap → Nat → Prop) : Wp CC (bodyOf Go.Proofs.Tryz.f56) ⟨initTm Go.Proofs.Tryz.f56 [t0], h, n, []⟩ (retW CC Go.Proofs.Tryz.f56 K) = (
oK (rNil t0) fun v1 =>
oK (rFA CC 168 2 v1) fun v2 =>
oK (normO (rLoad CC 3 h v2)) fun v3 =>
K v3 h n) := Wp.eq_of (by kernel_rfl)
theorem F56_call {t0 : V} {h : Heap} {n : Nat} {K : V → Heap → Nat → Prop} (H : (∀ b o, h.get b = some o → b < n) → Wp CC (bodyOf Go.Proofs.Tryz.f56) ⟨initTm Go.Proofs.Tryz.f56 [t0], h, n, []⟩ (retW CC Go.Proofs.Tryz.f56 K)) : CallK CC 56 [t0] h n K := by
  have := @callK_of CC CCok 56 Go.Proofs.Tryz.f56 (bodyOf Go.Proofs.Tryz.f56) [t0] h n K F56
  refine this ?_ ?_ ?_
  · kernel_rfl
  · kernel_rfl
  · exact H

/-! F57 (*lockgate/maps.Maps).lay -/
theorem F57 : CC.F.get 57 = some Go.Proofs.Tryz.f57 := by kernel_rfl
theorem F57_eq (t0 t1 t2 t3 : V) (h : Heap) (n : Nat) (K : V → Heap → Nat → Prop) : Wp CC (bodyOf Go.Proofs.Tryz.f57) ⟨initTm Go.Proofs.Tryz.f57 [t0, t1, t2, t3], h, n, []⟩ (retW CC Go.Proofs.Tryz.f57 K) = (
CallK CC 52 [t0, t1] h n fun v1 h2 n3 =>
oK (rNil v1) fun v4 =>
oK (rFA CC 124 1 v4) fun v5 =>
oK (normO (rLoad CC 20 h2 v5)) fun v6 =>
oK (typeAssert CC v6 127 true) fun v7 =>
oK (rExt v7 1) fun v8 =>
oK (rExt v7 0) fun v9 =>
oK (asBool v8) fun b10 => bif b10 then (
oK (rNil t0) fun v11 =>
oK (rFA CC 98 0 v11) fun v12 =>
oK (normO (rLoad CC 93 h2 v12)) fun v13 =>
CallK CC 76 [v13, t3] h2 n3 fun v14 h15 n16 =>
CallK CC 82 [v9, t2, v14] h15 n16 fun v17 h18 n19 =>
CallK CC 59 [t0, t1, t2] h18 n19 fun v20 h21 n22 =>
K (.tup []) h21 n22) else (
oK (typeAssert CC v6 129 true) fun v23 =>
oK (rExt v23 1) fun v24 =>
oK (rExt v23 0) fun v25 =>
oK (asBool v24) fun b26 => bif b26 then (
oK (rNil t0) fun v27 =>
oK (rFA CC 98 0 v27) fun v28 =>
oK (normO (rLoad CC 93 h2 v28)) fun v29 =>
CallK CC 76 [v29, t3] h2 n3 fun v30 h31 n32 =>
CallK CC 83 [v25, t2, v30] h31 n32 fun v33 h34 n35 =>
oK (rExt v33 0) fun v36 =>
oK (rExt v33 1) fun v37 =>
oK (rExt v33 2) fun v38 =>
oK (binop CC .gtr 3 true v37 (.s (.int .i64 0))) fun v39 =>
oK (asBool v39) fun b40 => bif b40 then (
oK (rNil t0) fun v41 =>
oK (rFA CC 98 0 v41) fun v42 =>
oK (normO (rLoad CC 93 h34 v42)) fun v43 =>
CallK CC 58 [v43, v37] h34 n35 fun v44 h45 n46 =>
CallK CC 59 [t0, t1, v36] h45 n46 fun v47 h48 n49 =>
CallK CC 59 [t0, t1, t2] h48 n49 fun v50 h51 n52 =>
K (.tup []) h51 n52) else (
CallK CC 59 [t0, t1, t2] h34 n35 fun v53 h54 n55 =>
K (.tup []) h54 n55)) else (
CallK CC 59 [t0, t1, t2] h2 n3 fun v56 h57 n58 =>
K (.tup []) h57 n58))) := Wp.eq_of (by kernel_rfl)
theorem F57_call {t0 t1 t2 t3 : V} {h : Heap} {n : Nat} {K : V → Heap → Nat → Prop} (H : (∀ b o, h.get b = some o → b < n) → Wp CC (bodyOf Go.Proofs.Tryz.f57) ⟨initTm Go.Proofs.Tryz.f57 [t0, t1, t2, t3], h, n, []⟩ (retW CC Go.Proofs.Tryz.f57 K)) : CallK CC 57 [t0, t1, t2, t3] h n K := by
  have := @callK_of CC CCok 57 Go.Proofs.Tryz.f57 (bodyOf Go.Proofs.Tryz.f57) [t0, t1, t2, t3] h n K F57
  refine this ?_ ?_ ?_
  · kernel_rfl
  · kernel_rfl
  · exact H

/-! F58 (*lockgate/cells.Cells).Drop -/
theorem F58 : CC.F.get 58 = some Go.Proofs.Tryz.f58 := by kernel_rfl
theorem F58_eq (t0 t1 : V) (h : Heap) (n : Nat) (K : V → Heap → Nat → Prop) : Wp CC (bodyOf Go.Proofs.Tryz.f58) ⟨initTm Go.Proofs.Tryz.f58 [t0, t1], h, n, []⟩ (retW CC Go.Proofs.Tryz.f58 K) = (
oK (rNil t0) fun v1 =>
oK (rFA CC 117 0 v1) fun v2 =>
oK (normO (rLoad CC 115 h v2)) fun v3 =>
oK (lookup CC h 115 v3 t1 true) fun v4 =>
oK (rExt v4 0) fun v5 =>
oK (rExt v4 1) fun v6 =>
oK (rUn CC .not v6) fun v7 =>
oK (bif (rWant false v7) then some v5 else some undefV) fun v8 =>
oK (bif (rWant false v7) then rNil v8 else some undefV) fun v9 =>
oK (bif (rWant false v7) then rFA CC 179 3 v9 else some undefV) fun v10 =>
oK (bif (rWant false v7) then normO (rLoad CC 4 h v10) else some undefV) fun v11 =>
oK (rPick v7 (.s (.bool true)) v11) fun v12 =>
oK (asBool v12) fun b13 => bif b13 then (
K (.s (.bool false)) h n) else (
oK (rNil v5) fun v14 =>
oK (rFA CC 179 3 v14) fun v15 =>
oK (asPtr v15) fun p16 => oK (store CC h 4 p16.1 p16.2 (.s (.bool true))) fun h17 =>
K (.s (.bool true)) h17 n)) := Wp.eq_of (by kernel_rfl)
theorem F58_call {t0 t1 : V} {h : Heap} {n : Nat} {K : V → Heap → Nat → Prop} (H : (∀ b o, h.get b = some o → b < n) → Wp CC (bodyOf Go.Proofs.Tryz.f58) ⟨initTm Go.Proofs.Tryz.f58 [t0, t1], h, n, []⟩ (retW CC Go.Proofs.Tryz.f58 K)) : CallK CC 58 [t0, t1] h n K := by
  have := @callK_of CC CCok 58 Go.Proofs.Tryz.f58 (bodyOf Go.Proofs.Tryz.f58) [t0, t1] h n K F58
  refine this ?_ ?_ ?_
  · kernel_rfl
  · kernel_rfl
  · exact H

/-! F59 (*lockgate/maps.Maps).bound -/
theorem F59 : CC.F.get 59 = some Go.Proofs.Tryz.f59 := by kernel_rfl
theorem F59_eq (t0 t1 t2 : V) (h : Heap) (n : Nat) (K : V → Heap → Nat → Prop) : Wp CC (bodyOf Go.Proofs.Tryz.f59) ⟨initTm Go.Proofs.Tryz.f59 [t0, t1, t2], h, n, []⟩ (retW CC Go.Proofs.Tryz.f59 K) = (
CallK CC 84 [t2] h n fun v1 h2 n3 =>
oK (normO (build CC 136 [(0, (.s (.int .i64 1))), (1, t1), (4, v1)])) fun v4 =>
CallK CC 55 [t0, v4] h2 n3 fun v5 h6 n7 =>
K (.tup []) h6 n7) := Wp.eq_of (by kernel_rfl)
theorem F59_call {t0 t1 t2 : V} {h : Heap} {n : Nat} {K : V → Heap → Nat → Prop} (H : (∀ b o, h.get b = some o → b < n) → Wp CC (bodyOf Go.Proofs.Tryz.f59) ⟨initTm Go.Proofs.Tryz.f59 [t0, t1, t2], h, n, []⟩ (retW CC Go.Proofs.Tryz.f59 K)) : CallK CC 59 [t0, t1, t2] h n K := by
  have := @callK_of CC CCok 59 Go.Proofs.Tryz.f59 (bodyOf Go.Proofs.Tryz.f59) [t0, t1, t2] h n K F59
  refine this ?_ ?_ ?_
  · kernel_rfl
  · kernel_rfl
  · exact H

/-! F60 (*lockgate/cells.Cells).Store -/
theorem F60 : CC.F.get 60 = some Go.Proofs.Tryz.f60 := by kernel_rfl
theorem F60_eq (t0 t1 t2 t3 t4 t5 : V) (h : Heap) (n : Nat) (K : V → Heap → Nat → Prop) : Wp CC (bodyOf Go.Proofs.Tryz.f60) ⟨initTm Go.Proofs.Tryz.f60 [t0, t1, t2, t3, t4, t5], h, n, []⟩ (retW CC Go.Proofs.Tryz.f60 K) = (
CallK CC 85 [t0, t1, t2, t3] h n fun v1 h2 n3 =>
oK (rExt v1 0) fun v4 =>
oK (rExt v1 1) fun v5 =>
oK (rExt v1 2) fun v6 =>
oK (rUn CC .not v6) fun v7 =>
oK (asBool v7) fun b8 => bif b8 then (
K (.s (.bool false)) h2 n3) else (
oK (lenV CC h2 23 v5) fun v9 =>
LoopK CC none (subC [1, 1, 1, 0, 1, 0, 0] (bodyOf Go.Proofs.Tryz.f60)) ⟨mkTm [t0, t1, t2, t3, t4, t5, undefV, undefV, undefV, undefV, undefV, undefV, (.s (.bool false)), v4, v5, v6, undefV, v1, t0, t1, t2, t3, v1, v4, v5, v6, v6, v7, v5, v9, (.s (.int .i64 0)), undefV, undefV, undefV, undefV, undefV, undefV, undefV, undefV, undefV, undefV, undefV, undefV, undefV, undefV], h2, n3, []⟩ (resume CC none [.blk 0, .sq (subC [1, 1, 1, 1] (bodyOf Go.Proofs.Tryz.f60))] (retW CC Go.Proofs.Tryz.f60 K)))) := Wp.eq_of (by kernel_rfl)
theorem F60_call {t0 t1 t2 t3 t4 t5 : V} {h : Heap} {n : Nat} {K : V → Heap → Nat → Prop} (H : (∀ b o, h.get b = some o → b < n) → Wp CC (bodyOf Go.Proofs.Tryz.f60) ⟨initTm Go.Proofs.Tryz.f60 [t0, t1, t2, t3, t4, t5], h, n, []⟩ (retW CC Go.Proofs.Tryz.f60 K)) : CallK CC 60 [t0, t1, t2, t3, t4, t5] h n K := by
  have := @callK_of CC CCok 60 Go.Proofs.Tryz.f60 (bodyOf Go.Proofs.Tryz.f60) [t0, t1, t2, t3, t4, t5] h n K F60
  refine this ?_ ?_ ?_
  · kernel_rfl
  · kernel_rfl
  · exact H

def F60_L1110100 (t4 t5 t13 t14 t29 t30 : V) (h : Heap) (n : Nat) (s : St) : Prop := ∃ f : Nat → V, s = ⟨mkTm [(f 0), (f 1), (f 2), (f 3), t4, t5, (f 6), (f 7), (f 8), (f 9), (f 10), (f 11), (f 12), t13, t14, (f 15), (f 16), (f 17), (f 18), (f 19), (f 20), (f 21), (f 22), (f 23), (f 24), (f 25), (f 26), (f 27), (f 28), t29, t30, (f 31), (f 32), (f 33), (f 34), (f 35), (f 36), (f 37), (f 38), (f 39), (f 40), (f 41), (f 42), (f 43), (f 44)], h, n, []⟩
theorem F60_L1110100_of {t4 t5 t13 t14 t29 t30 : V} {t0 t1 t2 t3 t6 t7 t8 t9 t10 t11 t12 t15 t16 t17 t18 t19 t20 t21 t22 t23 t24 t25 t26 t27 t28 t31 t32 t33 t34 t35 t36 t37 t38 t39 t40 t41 t42 t43 t44 : V} {h : Heap} {n : Nat} : F60_L1110100 t4 t5 t13 t14 t29 t30 h n ⟨mkTm [t0, t1, t2, t3, t4, t5, t6, t7, t8, t9, t10, t11, t12, t13, t14, t15, t16, t17, t18, t19, t20, t21, t22, t23, t24, t25, t26, t27, t28, t29, t30, t31, t32, t33, t34, t35, t36, t37, t38, t39, t40, t41, t42, t43, t44], h, n, []⟩ :=
  ⟨fun i => ([t0, t1, t2, t3, t4, t5, t6, t7, t8, t9, t10, t11, t12, t13, t14, t15, t16, t17, t18, t19, t20, t21, t22, t23, t24, t25, t26, t27, t28, t29, t30, t31, t32, t33, t34, t35, t36, t37, t38, t39, t40, t41, t42, t43, t44] : List V).getD i undefV, by kernel_rfl⟩
theorem F60_L1110100_elim {t4 t5 t13 t14 t29 t30 : V} {h : Heap} {n : Nat} {s : St} {P : St → Prop} (hs : F60_L1110100 t4 t5 t13 t14 t29 t30 h n s) (H : ∀ t0 t1 t2 t3 t6 t7 t8 t9 t10 t11 t12 t15 t16 t17 t18 t19 t20 t21 t22 t23 t24 t25 t26 t27 t28 t31 t32 t33 t34 t35 t36 t37 t38 t39 t40 t41 t42 t43 t44 : V, P ⟨mkTm [t0, t1, t2, t3, t4, t5, t6, t7, t8, t9, t10, t11, t12, t13, t14, t15, t16, t17, t18, t19, t20, t21, t22, t23, t24, t25, t26, t27, t28, t29, t30, t31, t32, t33, t34, t35, t36, t37, t38, t39, t40, t41, t42, t43, t44], h, n, []⟩) : P s := by
  obtain ⟨f, rfl⟩ := hs
  exact H (f 0) (f 1) (f 2) (f 3) (f 6) (f 7) (f 8) (f 9) (f 10) (f 11) (f 12) (f 15) (f 16) (f 17) (f 18) (f 19) (f 20) (f 21) (f 22) (f 23) (f 24) (f 25) (f 26) (f 27) (f 28) (f 31) (f 32) (f 33) (f 34) (f 35) (f 36) (f 37) (f 38) (f 39) (f 40) (f 41) (f 42) (f 43) (f 44)

theorem F60_b1110100 (t0 t1 t2 t3 t4 t5 t6 t7 t8 t9 t10 t11 t12 t13 t14 t15 t16 t17 t18 t19 t20 t21 t22 t23 t24 t25 t26 t27 t28 t29 t30 t31 t32 t33 t34 t35 t36 t37 t38 t39 t40 t41 t42 t43 t44 : V) (h : Heap) (n : Nat) (Q : X → St → Prop) : Wp CC (subC [1, 1, 1, 0, 1, 0, 0] (bodyOf Go.Proofs.Tryz.f60)) ⟨mkTm [t0, t1, t2, t3, t4, t5, t6, t7, t8, t9, t10, t11, t12, t13, t14, t15, t16, t17, t18, t19, t20, t21, t22, t23, t24, t25, t26, t27, t28, t29, t30, t31, t32, t33, t34, t35, t36, t37, t38, t39, t40, t41, t42, t43, t44], h, n, []⟩ Q = (
oK (binop CC .lss 3 false t30 t29) fun v10 =>
oK (asBool v10) fun b11 => bif b11 then (
oK (binop CC .mul 3 true (.s (.int .i64 8)) t30) fun v12 =>
oK (binop CC .shr 25 false t4 v12) fun v13 =>
oK (convert CC h 25 5 v13) fun v14 =>
oK (indexAddr CC 23 t14 t30) fun v15 =>
oK (asPtr v15) fun p16 => oK (store CC h 5 p16.1 p16.2 v14) fun h17 =>
oK (binop CC .add 3 true t30 (.s (.int .i64 1))) fun v18 =>
Q .normal ⟨mkTm [t0, t1, t2, t3, t4, t5, t6, t7, t8, t9, t10, t11, t12, t13, t14, t15, t30, t17, t18, t19, t20, t21, t22, t23, t24, t25, t26, t27, t28, t29, v18, v10, t30, t14, t30, t4, t30, v12, v13, v14, v15, v18, t42, t43, t44], h17, n, []⟩) else (
Q (.exit 0) ⟨mkTm [t0, t1, t2, t3, t4, t5, t6, t7, t8, t9, t10, t11, t12, t13, t14, t15, t16, t17, t18, t19, t20, t21, t22, t23, t24, t25, t26, t27, t28, t29, t30, v10, t32, t33, t34, t35, t36, t37, t38, t39, t40, t41, t42, t43, t44], h, n, []⟩)) := Wp.eq_of (by kernel_rfl)

theorem F60_r1110100_0 (t0 t1 t2 t3 t4 t5 t6 t7 t8 t9 t10 t11 t12 t13 t14 t15 t16 t17 t18 t19 t20 t21 t22 t23 t24 t25 t26 t27 t28 t29 t30 t31 t32 t33 t34 t35 t36 t37 t38 t39 t40 t41 t42 t43 t44 : V) (h : Heap) (n : Nat) (K : V → Heap → Nat → Prop) : resume CC none [.blk 0, .sq (subC [1, 1, 1, 1] (bodyOf Go.Proofs.Tryz.f60))] (retW CC Go.Proofs.Tryz.f60 K) (.exit 0) ⟨mkTm [t0, t1, t2, t3, t4, t5, t6, t7, t8, t9, t10, t11, t12, t13, t14, t15, t16, t17, t18, t19, t20, t21, t22, t23, t24, t25, t26, t27, t28, t29, t30, t31, t32, t33, t34, t35, t36, t37, t38, t39, t40, t41, t42, t43, t44], h, n, []⟩ = (
CallK CC 81 [t13, t5] h n fun v19 h20 n21 =>
K (.s (.bool true)) h20 n21) := by kernel_rfl

/-! F61 (*lockgate/cells.Cells).Sweep -/
theorem F61 : CC.F.get 61 = some Go.Proofs.Tryz.f61 := by kernel_rfl
theorem F61_eq (t0 : V) (h : Heap) (n : Nat) (K : V → Heap → Nat → Prop) : Wp CC (bodyOf Go.Proofs.Tryz.f61) ⟨initTm Go.Proofs.Tryz.f61 [t0], h, n, []⟩ (retW CC Go.Proofs.Tryz.f61 K) = (
CallK CC 86 [t0] h n fun v1 h2 n3 =>
oK (lenV CC h2 122 v1) fun v4 =>
LoopK CC none (subC [1, 1, 0, 1, 0, 0] (bodyOf Go.Proofs.Tryz.f61)) ⟨mkTm [t0, undefV, (.s (.int .i64 0)), v1, undefV, undefV, t0, v1, v1, v4, (.s (.int .i64 0)), undefV, undefV, undefV, undefV, undefV, undefV, undefV, undefV, undefV, undefV, undefV], h2, n3, []⟩ (resume CC none [.blk 0, .sq (subC [1, 1, 1] (bodyOf Go.Proofs.Tryz.f61))] (retW CC Go.Proofs.Tryz.f61 K))) := Wp.eq_of (by kernel_rfl)
theorem F61_call {t0 : V} {h : Heap} {n : Nat} {K : V → Heap → Nat → Prop} (H : (∀ b o, h.get b = some o → b < n) → Wp CC (bodyOf Go.Proofs.Tryz.f61) ⟨initTm Go.Proofs.Tryz.f61 [t0], h, n, []⟩ (retW CC Go.Proofs.Tryz.f61 K)) : CallK CC 61 [t0] h n K := by
  have := @callK_of CC CCok 61 Go.Proofs.Tryz.f61 (bodyOf Go.Proofs.Tryz.f61) [t0] h n K F61
  refine this ?_ ?_ ?_
  · kernel_rfl
  · kernel_rfl
  · exact H

def F61_L110100 (t0 t3 t8 t9 t10 : V) (h : Heap) (n : Nat) (s : St) : Prop := ∃ f : Nat → V, s = ⟨mkTm [t0, (f 1), (f 2), t3, (f 4), (f 5), (f 6), (f 7), t8, t9, t10, (f 11), (f 12), (f 13), (f 14), (f 15), (f 16), (f 17), (f 18), (f 19), (f 20), (f 21)], h, n, []⟩
theorem F61_L110100_of {t0 t3 t8 t9 t10 : V} {t1 t2 t4 t5 t6 t7 t11 t12 t13 t14 t15 t16 t17 t18 t19 t20 t21 : V} {h : Heap} {n : Nat} : F61_L110100 t0 t3 t8 t9 t10 h n ⟨mkTm [t0, t1, t2, t3, t4, t5, t6, t7, t8, t9, t10, t11, t12, t13, t14, t15, t16, t17, t18, t19, t20, t21], h, n, []⟩ :=
  ⟨fun i => ([t0, t1, t2, t3, t4, t5, t6, t7, t8, t9, t10, t11, t12, t13, t14, t15, t16, t17, t18, t19, t20, t21] : List V).getD i undefV, by kernel_rfl⟩
theorem F61_L110100_elim {t0 t3 t8 t9 t10 : V} {h : Heap} {n : Nat} {s : St} {P : St → Prop} (hs : F61_L110100 t0 t3 t8 t9 t10 h n s) (H : ∀ t1 t2 t4 t5 t6 t7 t11 t12 t13 t14 t15 t16 t17 t18 t19 t20 t21 : V, P ⟨mkTm [t0, t1, t2, t3, t4, t5, t6, t7, t8, t9, t10, t11, t12, t13, t14, t15, t16, t17, t18, t19, t20, t21], h, n, []⟩) : P s := by
  obtain ⟨f, rfl⟩ := hs
  exact H (f 1) (f 2) (f 4) (f 5) (f 6) (f 7) (f 11) (f 12) (f 13) (f 14) (f 15) (f 16) (f 17) (f 18) (f 19) (f 20) (f 21)

theorem F61_b110100 (t0 t1 t2 t3 t4 t5 t6 t7 t8 t9 t10 t11 t12 t13 t14 t15 t16 t17 t18 t19 t20 t21 : V) (h : Heap) (n : Nat) (Q : X → St → Prop) : Wp CC (subC [1, 1, 0, 1, 0, 0] (bodyOf Go.Proofs.Tryz.f61)) ⟨mkTm [t0, t1, t2, t3, t4, t5, t6, t7, t8, t9, t10, t11, t12, t13, t14, t15, t16, t17, t18, t19, t20, t21], h, n, []⟩ Q = (
oK (binop CC .lss 3 false t10 t9) fun v5 =>
oK (asBool v5) fun b6 => bif b6 then (
oK (indexAddr CC 122 t8 t10) fun v7 =>
oK (normO (rLoad CC 3 h v7)) fun v8 =>
oK (rNil t0) fun v9 =>
oK (rFA CC 117 0 v9) fun v10 =>
oK (normO (rLoad CC 115 h v10)) fun v11 =>
oK (mapDelete CC h 115 v11 v8) fun h12 =>
oK (binop CC .add 3 true t10 (.s (.int .i64 1))) fun v13 =>
Q .normal ⟨mkTm [t0, t1, t2, t3, t4, v8, t6, t7, t8, t9, v13, v5, v7, v8, t0, v9, v10, v11, v8, v13, t20, t21], h12, n, []⟩) else (
Q (.exit 0) ⟨mkTm [t0, t1, t2, t3, t4, t5, t6, t7, t8, t9, t10, v5, t12, t13, t14, t15, t16, t17, t18, t19, t20, t21], h, n, []⟩)) := Wp.eq_of (by kernel_rfl)

theorem F61_r110100_0 (t0 t1 t2 t3 t4 t5 t6 t7 t8 t9 t10 t11 t12 t13 t14 t15 t16 t17 t18 t19 t20 t21 : V) (h : Heap) (n : Nat) (K : V → Heap → Nat → Prop) : resume CC none [.blk 0, .sq (subC [1, 1, 1] (bodyOf Go.Proofs.Tryz.f61))] (retW CC Go.Proofs.Tryz.f61 K) (.exit 0) ⟨mkTm [t0, t1, t2, t3, t4, t5, t6, t7, t8, t9, t10, t11, t12, t13, t14, t15, t16, t17, t18, t19, t20, t21], h, n, []⟩ = (
oK (lenV CC h 122 t3) fun v14 =>
K v14 h n) := by kernel_rfl

/-! F62 lockgate/mem.place -/
theorem F62 : CC.F.get 62 = some Go.Proofs.Tryz.f62 := by kernel_rfl
theorem F62_eq (t0 : V) (h : Heap) (n : Nat) (K : V → Heap → Nat → Prop) : Wp CC (bodyOf Go.Proofs.Tryz.f62) ⟨initTm Go.Proofs.Tryz.f62 [t0], h, n, []⟩ (retW CC Go.Proofs.Tryz.f62 K) = (
oK (binop CC .add 3 true t0 (.s (.int .i64 512))) fun v1 =>
oK (binop CC .quo 3 true v1 (.s (.int .i64 8))) fun v2 =>
oK (binop CC .rem 3 true v1 (.s (.int .i64 8))) fun v3 =>
K (.tup [v2, v3]) h n) := Wp.eq_of (by kernel_rfl)
theorem F62_call {t0 : V} {h : Heap} {n : Nat} {K : V → Heap → Nat → Prop} (H : (∀ b o, h.get b = some o → b < n) → Wp CC (bodyOf Go.Proofs.Tryz.f62) ⟨initTm Go.Proofs.Tryz.f62 [t0], h, n, []⟩ (retW CC Go.Proofs.Tryz.f62 K)) : CallK CC 62 [t0] h n K := by
  have := @callK_of CC CCok 62 Go.Proofs.Tryz.f62 (bodyOf Go.Proofs.Tryz.f62) [t0] h n K F62
  refine this ?_ ?_ ?_
  · kernel_rfl
  · kernel_rfl
  · exact H

/-! F76 (*lockgate/cells.Cells).Make -/
theorem F76 : CC.F.get 76 = some Go.Proofs.Tryz.f76 := by kernel_rfl
theorem F76_eq (t0 t1 : V) (h : Heap) (n : Nat) (K : V → Heap → Nat → Prop) : Wp CC (bodyOf Go.Proofs.Tryz.f76) ⟨initTm Go.Proofs.Tryz.f76 [t0, t1], h, n, []⟩ (retW CC Go.Proofs.Tryz.f76 K) = (
oK (rNil t0) fun v1 =>
oK (rFA CC 117 1 v1) fun v2 =>
oK (normO (rLoad CC 3 h v2)) fun v3 =>
oK (binop CC .add 3 true v3 (.s (.int .i64 1))) fun v4 =>
oK (rNil t0) fun v5 =>
oK (rFA CC 117 1 v5) fun v6 =>
oK (asPtr v6) fun p7 => oK (store CC h 3 p7.1 p7.2 v4) fun h8 =>
oK (rNil t0) fun v9 =>
oK (rFA CC 117 0 v9) fun v10 =>
oK (normO (rLoad CC 115 h8 v10)) fun v11 =>
oK (rNil t0) fun v12 =>
oK (rFA CC 117 1 v12) fun v13 =>
oK (normO (rLoad CC 3 h8 v13)) fun v14 =>
oK (lenV CC h8 23 t1) fun v15 =>
oK (rMin CC #[3, 3] 3 [v15, (.s (.int .i64 64))]) fun v16 =>
oK (sliceOp CC 23 t1 none (some v16) none) fun v17 =>
CallK CC 21 [v17] h8 (n + 18) fun v18 h19 n20 =>
(True ∧ normO (rLoad CC 3 h19 v13) = some v14 ∧ normO (rLoad CC 115 h19 v10) = some v11 ∧ True) ∧
CallK CC 106 [] h19 n20 fun v21 h22 n23 =>
(True ∧ normO (rLoad CC 3 h22 v13) = some v14 ∧ normO (rLoad CC 115 h22 v10) = some v11 ∧ True) ∧
oK (normO (build CC 179 [(0, v18), (2, v21)])) fun v24 =>
oK (V.cells v24) fun c25 =>
oK (mapUpdate CC (h22.set (n + 16) (.cells c25 6)) 115 v11 v14 (.ptr (n + 16) 0)) fun h26 =>
(True ∧ True ∧ True ∧ True) ∧
oK (rNil t0) fun v27 =>
oK (rFA CC 117 1 v27) fun v28 =>
oK (normO (rLoad CC 3 h26 v28)) fun v29 =>
K v29 h26 n23) := Wp.eq_of (by kernel_rfl)
theorem F76_call {t0 t1 : V} {h : Heap} {n : Nat} {K : V → Heap → Nat → Prop} (H : (∀ b o, h.get b = some o → b < n) → Wp CC (bodyOf Go.Proofs.Tryz.f76) ⟨initTm Go.Proofs.Tryz.f76 [t0, t1], h, n, []⟩ (retW CC Go.Proofs.Tryz.f76 K)) : CallK CC 76 [t0, t1] h n K := by
  have := @callK_of CC CCok 76 Go.Proofs.Tryz.f76 (bodyOf Go.Proofs.Tryz.f76) [t0, t1] h n K F76
  refine this ?_ ?_ ?_
  · kernel_rfl
  · kernel_rfl
  · exact H

/-! F77 lockgate/hash.cut -/
theorem F77 : CC.F.get 77 = some Go.Proofs.Tryz.f77 := by kernel_rfl
theorem F77_eq (t0 t1 : V) (h : Heap) (n : Nat) (K : V → Heap → Nat → Prop) : Wp CC (bodyOf Go.Proofs.Tryz.f77) ⟨initTm Go.Proofs.Tryz.f77 [t0, t1], h, n, []⟩ (retW CC Go.Proofs.Tryz.f77 K) = (
oK (rMax CC #[3, 3] 3 [t0, (.s (.int .i64 1))]) fun v1 =>
oK (rMin CC #[3, 3] 3 [v1, t1]) fun v2 =>
K v2 h n) := Wp.eq_of (by kernel_rfl)
theorem F77_call {t0 t1 : V} {h : Heap} {n : Nat} {K : V → Heap → Nat → Prop} (H : (∀ b o, h.get b = some o → b < n) → Wp CC (bodyOf Go.Proofs.Tryz.f77) ⟨initTm Go.Proofs.Tryz.f77 [t0, t1], h, n, []⟩ (retW CC Go.Proofs.Tryz.f77 K)) : CallK CC 77 [t0, t1] h n K := by
  have := @callK_of CC CCok 77 Go.Proofs.Tryz.f77 (bodyOf Go.Proofs.Tryz.f77) [t0, t1] h n K F77
  refine this ?_ ?_ ?_
  · kernel_rfl
  · kernel_rfl
  · exact H

/-! F78 (*lockgate/array.Array).Cell -/
theorem F78 : CC.F.get 78 = some Go.Proofs.Tryz.f78 := by kernel_rfl
theorem F78_eq (t0 t1 : V) (h : Heap) (n : Nat) (K : V → Heap → Nat → Prop) : Wp CC (bodyOf Go.Proofs.Tryz.f78) ⟨initTm Go.Proofs.Tryz.f78 [t0, t1], h, n, []⟩ (retW CC Go.Proofs.Tryz.f78 K) = (
oK (binop CC .lss 3 true t1 (.s (.int .i64 0))) fun v1 =>
oK (bif (rWant false v1) then some t1 else some undefV) fun v2 =>
oK (bif (rWant false v1) then some t0 else some undefV) fun v3 =>
oK (bif (rWant false v1) then rNil v3 else some undefV) fun v4 =>
oK (bif (rWant false v1) then rFA CC 164 0 v4 else some undefV) fun v5 =>
oK (bif (rWant false v1) then normO (rLoad CC 122 h v5) else some undefV) fun v6 =>
oK (bif (rWant false v1) then lenV CC h 122 v6 else some undefV) fun v7 =>
oK (bif (rWant false v1) then binop CC .geq 3 false v2 v7 else some undefV) fun v8 =>
oK (rPick v1 (.s (.bool true)) v8) fun v9 =>
oK (asBool v9) fun b10 => bif b10 then (
K (.tup [(.s (.int .i64 0)), (.s (.bool false))]) h n) else (
oK (rNil t0) fun v11 =>
oK (rFA CC 164 0 v11) fun v12 =>
oK (normO (rLoad CC 122 h v12)) fun v13 =>
oK (indexAddr CC 122 v13 t1) fun v14 =>
oK (normO (rLoad CC 3 h v14)) fun v15 =>
K (.tup [v15, (.s (.bool true))]) h n)) := Wp.eq_of (by kernel_rfl)
theorem F78_call {t0 t1 : V} {h : Heap} {n : Nat} {K : V → Heap → Nat → Prop} (H : (∀ b o, h.get b = some o → b < n) → Wp CC (bodyOf Go.Proofs.Tryz.f78) ⟨initTm Go.Proofs.Tryz.f78 [t0, t1], h, n, []⟩ (retW CC Go.Proofs.Tryz.f78 K)) : CallK CC 78 [t0, t1] h n K := by
  have := @callK_of CC CCok 78 Go.Proofs.Tryz.f78 (bodyOf Go.Proofs.Tryz.f78) [t0, t1] h n K F78
  refine this ?_ ?_ ?_
  · kernel_rfl
  · kernel_rfl
  · exact H

/-! F79 lockgate/maps.number -/
theorem F79 : CC.F.get 79 = some Go.Proofs.Tryz.f79 := by kernel_rfl
theorem F79_eq (t0 : V) (h : Heap) (n : Nat) (K : V → Heap → Nat → Prop) : Wp CC (bodyOf Go.Proofs.Tryz.f79) ⟨initTm Go.Proofs.Tryz.f79 [t0], h, n, []⟩ (retW CC Go.Proofs.Tryz.f79 K) = (
oK (indexAddr CC 23 t0 (.s (.int .i64 0))) fun v1 =>
oK (normO (rLoad CC 5 h v1)) fun v2 =>
oK (convert CC .leaf 5 3 v2) fun v3 =>
oK (indexAddr CC 23 t0 (.s (.int .i64 1))) fun v4 =>
oK (normO (rLoad CC 5 h v4)) fun v5 =>
oK (convert CC .leaf 5 3 v5) fun v6 =>
oK (binop CC .shl 3 true v6 (.s (.int .u64 8))) fun v7 =>
oK (binop CC .or 3 false v3 v7) fun v8 =>
oK (indexAddr CC 23 t0 (.s (.int .i64 2))) fun v9 =>
oK (normO (rLoad CC 5 h v9)) fun v10 =>
oK (convert CC .leaf 5 3 v10) fun v11 =>
oK (binop CC .shl 3 true v11 (.s (.int .u64 16))) fun v12 =>
oK (binop CC .or 3 false v8 v12) fun v13 =>
oK (indexAddr CC 23 t0 (.s (.int .i64 3))) fun v14 =>
oK (normO (rLoad CC 5 h v14)) fun v15 =>
oK (convert CC .leaf 5 3 v15) fun v16 =>
oK (binop CC .shl 3 true v16 (.s (.int .u64 24))) fun v17 =>
oK (binop CC .or 3 false v13 v17) fun v18 =>
K v18 h (n + 23)) := Wp.eq_of (by kernel_rfl)
theorem F79_call {t0 : V} {h : Heap} {n : Nat} {K : V → Heap → Nat → Prop} (H : (∀ b o, h.get b = some o → b < n) → Wp CC (bodyOf Go.Proofs.Tryz.f79) ⟨initTm Go.Proofs.Tryz.f79 [t0], h, n, []⟩ (retW CC Go.Proofs.Tryz.f79 K)) : CallK CC 79 [t0] h n K := by
  have := @callK_of CC CCok 79 Go.Proofs.Tryz.f79 (bodyOf Go.Proofs.Tryz.f79) [t0] h n K F79
  refine this ?_ ?_ ?_
  · kernel_rfl
  · kernel_rfl
  · exact H

/-! F80 (*lockgate/lru.Lru).Peek -/
theorem F80 : CC.F.get 80 = some Go.Proofs.Tryz.f80 := by kernel_rfl
theorem F80_eq (t0 t1 : V) (h : Heap) (n : Nat) (K : V → Heap → Nat → Prop) : Wp CC (bodyOf Go.Proofs.Tryz.f80) ⟨initTm Go.Proofs.Tryz.f80 [t0, t1], h, n, []⟩ (retW CC Go.Proofs.Tryz.f80 K) = (
CallK CC 107 [t0, t1] h n fun v1 h2 n3 =>
oK (binop CC .geq 3 true v1 (.s (.int .i64 0))) fun v4 =>
oK (asBool v4) fun b5 => bif b5 then (
oK (rNil t0) fun v6 =>
oK (rFA CC 171 2 v6) fun v7 =>
oK (normO (rLoad CC 169 h2 v7)) fun v8 =>
oK (indexAddr CC 169 v8 v1) fun v9 =>
oK (rFA CC 209 1 v9) fun v10 =>
oK (normO (rLoad CC 3 h2 v10)) fun v11 =>
K (.tup [v11, (.s (.bool true))]) h2 n3) else (
K (.tup [(.s (.int .i64 0)), (.s (.bool false))]) h2 n3)) := Wp.eq_of (by kernel_rfl)
theorem F80_call {t0 t1 : V} {h : Heap} {n : Nat} {K : V → Heap → Nat → Prop} (H : (∀ b o, h.get b = some o → b < n) → Wp CC (bodyOf Go.Proofs.Tryz.f80) ⟨initTm Go.Proofs.Tryz.f80 [t0, t1], h, n, []⟩ (retW CC Go.Proofs.Tryz.f80 K)) : CallK CC 80 [t0, t1] h n K := by
  have := @callK_of CC CCok 80 Go.Proofs.Tryz.f80 (bodyOf Go.Proofs.Tryz.f80) [t0, t1] h n K F80
  refine this ?_ ?_ ?_
  · kernel_rfl
  · kernel_rfl
  · exact H

/-! F81 (*lockgate/cells.cell).written -/
theorem F81 : CC.F.get 81 = some Go.Proofs.Tryz.f81 := by kernel_rfl
theorem F81_eq (t0 t1 : V) (h : Heap) (n : Nat) (K : V → Heap → Nat → Prop) : Wp CC (bodyOf Go.Proofs.Tryz.f81) ⟨initTm Go.Proofs.Tryz.f81 [t0, t1], h, n, []⟩ (retW CC Go.Proofs.Tryz.f81 K) = (
oK (rNil t0) fun v1 =>
oK (rFA CC 179 1 v1) fun v2 =>
oK (normO (rLoad CC 3 h v2)) fun v3 =>
oK (binop CC .add 3 true v3 (.s (.int .i64 1))) fun v4 =>
oK (rNil t0) fun v5 =>
oK (rFA CC 179 1 v5) fun v6 =>
oK (asPtr v6) fun p7 => oK (store CC h 3 p7.1 p7.2 v4) fun h8 =>
oK (rNil t0) fun v9 =>
oK (rFA CC 179 2 v9) fun v10 =>
oK (normO (rLoad CC 177 h8 v10)) fun v11 =>
CallK CC 108 [v11, t1] h8 n fun v12 h13 n14 =>
oK (rNil t0) fun v15 =>
oK (rFA CC 179 2 v15) fun v16 =>
oK (asPtr v16) fun p17 => oK (store CC h13 177 p17.1 p17.2 v12) fun h18 =>
K (.tup []) h18 n14) := Wp.eq_of (by kernel_rfl)
theorem F81_call {t0 t1 : V} {h : Heap} {n : Nat} {K : V → Heap → Nat → Prop} (H : (∀ b o, h.get b = some o → b < n) → Wp CC (bodyOf Go.Proofs.Tryz.f81) ⟨initTm Go.Proofs.Tryz.f81 [t0, t1], h, n, []⟩ (retW CC Go.Proofs.Tryz.f81 K)) : CallK CC 81 [t0, t1] h n K := by
  have := @callK_of CC CCok 81 Go.Proofs.Tryz.f81 (bodyOf Go.Proofs.Tryz.f81) [t0, t1] h n K F81
  refine this ?_ ?_ ?_
  · kernel_rfl
  · kernel_rfl
  · exact H

/-! F82 (*lockgate/hash.Hash).Put -/
theorem F82 : CC.F.get 82 = some Go.Proofs.Tryz.f82 := by kernel_rfl
theorem F82_eq (t0 t1 t2 : V) (h : Heap) (n : Nat) (K : V → Heap → Nat → Prop) : Wp CC (bodyOf Go.Proofs.Tryz.f82) ⟨initTm Go.Proofs.Tryz.f82 [t0, t1, t2], h, n, []⟩ (retW CC Go.Proofs.Tryz.f82 K) = (
oK (V.cells t0) fun c1 =>
let h2 := h.set n (.cells (.lst c1.toList) 1); let n3 := n + 1;
oK (V.cells t1) fun c4 =>
let h5 := h2.set n3 (.cells (.lst c4.toList) 1); let n6 := n3 + 1;
oK (V.cells t2) fun c7 =>
let h8 := h5.set n6 (.cells (.lst c7.toList) 1); let n9 := n6 + 1;
oK (normO (rLoad CC 23 h8 (.ptr n3 0))) fun v10 =>
oK (lenV CC h8 23 v10) fun v11 =>
oK (normO (rLoad CC 127 h8 (.ptr n 0))) fun v12 =>
oK (rNil v12) fun v13 =>
oK (rFA CC 168 0 v13) fun v14 =>
oK (normO (rLoad CC 3 h8 v14)) fun v15 =>
oK (binop CC .neq 3 false v11 v15) fun v16 =>
oK (asBool v16) fun b17 => bif b17 then (
K (.s (.int .i64 14)) h8 (n9 + 8)) else (
oK (normO (rLoad CC 127 h8 (.ptr n 0))) fun v18 =>
oK (normO (rLoad CC 23 h8 (.ptr n3 0))) fun v19 =>
CallK CC 109 [v18, v19] h8 (n9 + 8) fun v20 h21 n22 =>
oK (binop CC .geq 3 true v20 (.s (.int .i64 0))) fun v23 =>
oK (asBool v23) fun b24 => bif b24 then (
K (.s (.int .i64 11)) h21 n22) else (
oK (normO (rLoad CC 127 h21 (.ptr n 0))) fun v25 =>
oK (rNil v25) fun v26 =>
oK (rFA CC 168 2 v26) fun v27 =>
oK (normO (rLoad CC 3 h21 v27)) fun v28 =>
oK (normO (rLoad CC 127 h21 (.ptr n 0))) fun v29 =>
oK (rNil v29) fun v30 =>
oK (rFA CC 168 1 v30) fun v31 =>
oK (normO (rLoad CC 3 h21 v31)) fun v32 =>
oK (binop CC .eql 3 false v28 v32) fun v33 =>
oK (asBool v33) fun b34 => bif b34 then (
K (.s (.int .i64 12)) h21 (n22 + 10)) else (
oK (normO (rLoad CC 127 h21 (.ptr n 0))) fun v35 =>
oK (normO (rLoad CC 23 h21 (.ptr n3 0))) fun v36 =>
CallK CC 110 [v35, v36] h21 (n22 + 10) fun v37 h38 n39 =>
CodeK CC none (subC [1, 1, 0, 1, 0] (bodyOf Go.Proofs.Tryz.f82)) ⟨mkTm [t0, t1, t2, (.ptr n 0), (.ptr n3 0), (.ptr n6 0), (.s (.int .i64 0)), undefV, v16, v10, v11, v12, v13, v14, v15, v16, v23, v18, v19, v20, v23, v33, v25, v26, v27, v28, v29, v30, v31, v32, v33, v35, v36, v37, undefV, undefV, undefV, undefV, undefV, undefV, undefV, undefV, undefV, undefV, undefV, undefV, undefV, undefV, undefV, undefV, undefV, undefV, undefV, undefV, undefV, undefV, undefV, undefV, undefV, undefV, undefV, undefV, undefV, undefV, undefV, undefV, undefV, undefV], h38, n39, []⟩ (resume CC none [.blk 1, .sq (subC [1, 1, 1] (bodyOf Go.Proofs.Tryz.f82))] (retW CC Go.Proofs.Tryz.f82 K)))))) := Wp.eq_of (by kernel_rfl)
theorem F82_call {t0 t1 t2 : V} {h : Heap} {n : Nat} {K : V → Heap → Nat → Prop} (H : (∀ b o, h.get b = some o → b < n) → Wp CC (bodyOf Go.Proofs.Tryz.f82) ⟨initTm Go.Proofs.Tryz.f82 [t0, t1, t2], h, n, []⟩ (retW CC Go.Proofs.Tryz.f82 K)) : CallK CC 82 [t0, t1, t2] h n K := by
  have := @callK_of CC CCok 82 Go.Proofs.Tryz.f82 (bodyOf Go.Proofs.Tryz.f82) [t0, t1, t2] h n K F82
  refine this ?_ ?_ ?_
  · kernel_rfl
  · kernel_rfl
  · exact H

theorem F82_r11010 (t0 t1 t2 t3 t4 t5 t6 t7 t8 t9 t10 t11 t12 t13 t14 t15 t16 t17 t18 t19 t20 t21 t22 t23 t24 t25 t26 t27 t28 t29 t30 t31 t32 t33 t34 t35 t36 t37 t38 t39 t40 t41 t42 t43 t44 t45 t46 t47 t48 t49 t50 t51 t52 t53 t54 t55 t56 t57 t58 t59 t60 t61 t62 t63 t64 t65 t66 t67 : V) (h : Heap) (n : Nat) (d : Nat) (K : V → Heap → Nat → Prop) : resume CC none [.blk 1, .sq (subC [1, 1, 1] (bodyOf Go.Proofs.Tryz.f82))] (retW CC Go.Proofs.Tryz.f82 K) .normal ⟨mkTm [t0, t1, t2, t3, t4, t5, t6, t7, t8, t9, t10, t11, t12, t13, t14, t15, t16, t17, t18, t19, t20, t21, t22, t23, t24, t25, t26, t27, t28, t29, t30, t31, t32, t33, t34, t35, t36, t37, t38, t39, t40, t41, t42, t43, t44, t45, t46, t47, t48, t49, t50, t51, t52, t53, t54, t55, t56, t57, t58, t59, t60, t61, t62, t63, t64, t65, t66, t67], h, n, [d]⟩ = (
oK (dropDefs [d] h) fun h40 => K (.s (.int .i64 0)) h40 n) := by kernel_rfl

theorem F82_r11010_ret (t0 t1 t2 t3 t4 t5 t6 t7 t8 t9 t10 t11 t12 t13 t14 t15 t16 t17 t18 t19 t20 t21 t22 t23 t24 t25 t26 t27 t28 t29 t30 t31 t32 t33 t34 t35 t36 t37 t38 t39 t40 t41 t42 t43 t44 t45 t46 t47 t48 t49 t50 t51 t52 t53 t54 t55 t56 t57 t58 t59 t60 t61 t62 t63 t64 t65 t66 t67 : V) (h : Heap) (n : Nat) (d : Nat) (K : V → Heap → Nat → Prop) : resume CC none [.blk 1, .sq (subC [1, 1, 1] (bodyOf Go.Proofs.Tryz.f82))] (retW CC Go.Proofs.Tryz.f82 K) .ret ⟨mkTm [t0, t1, t2, t3, t4, t5, t6, t7, t8, t9, t10, t11, t12, t13, t14, t15, t16, t17, t18, t19, t20, t21, t22, t23, t24, t25, t26, t27, t28, t29, t30, t31, t32, t33, t34, t35, t36, t37, t38, t39, t40, t41, t42, t43, t44, t45, t46, t47, t48, t49, t50, t51, t52, t53, t54, t55, t56, t57, t58, t59, t60, t61, t62, t63, t64, t65, t66, t67], h, n, [d]⟩ = (
oK (dropDefs [d] h) fun h41 => K t6 h41 n) := by kernel_rfl

theorem F82_r11010_1 (t0 t1 t2 t3 t4 t5 t6 t7 t8 t9 t10 t11 t12 t13 t14 t15 t16 t17 t18 t19 t20 t21 t22 t23 t24 t25 t26 t27 t28 t29 t30 t31 t32 t33 t34 t35 t36 t37 t38 t39 t40 t41 t42 t43 t44 t45 t46 t47 t48 t49 t50 t51 t52 t53 t54 t55 t56 t57 t58 t59 t60 t61 t62 t63 t64 t65 t66 t67 : V) (h : Heap) (n : Nat) (d : Nat) (K : V → Heap → Nat → Prop) : resume CC none [.blk 1, .sq (subC [1, 1, 1] (bodyOf Go.Proofs.Tryz.f82))] (retW CC Go.Proofs.Tryz.f82 K) (.exit 1) ⟨mkTm [t0, t1, t2, t3, t4, t5, t6, t7, t8, t9, t10, t11, t12, t13, t14, t15, t16, t17, t18, t19, t20, t21, t22, t23, t24, t25, t26, t27, t28, t29, t30, t31, t32, t33, t34, t35, t36, t37, t38, t39, t40, t41, t42, t43, t44, t45, t46, t47, t48, t49, t50, t51, t52, t53, t54, t55, t56, t57, t58, t59, t60, t61, t62, t63, t64, t65, t66, t67], h, n, [d]⟩ = (
oK (dropDefs [d] h) fun h42 => K (.s (.int .i64 0)) h42 n) := by kernel_rfl

theorem F82_f11010 : (subC [1, 1, 0, 1, 0] (bodyOf Go.Proofs.Tryz.f82)) = .rangeFunc (.tmp 33) #[34] (subC [1, 1, 0, 1, 0, 0] (bodyOf Go.Proofs.Tryz.f82)) (subC [1, 1, 0, 1, 0, 1] (bodyOf Go.Proofs.Tryz.f82)) := by kernel_rfl
theorem F82_g110100 (t0 t1 t2 t3 t4 t5 t6 t7 t8 t9 t10 t11 t12 t13 t14 t15 t16 t17 t18 t19 t20 t21 t22 t23 t24 t25 t26 t27 t28 t29 t30 t31 t32 t33 t34 t35 t36 t37 t38 t39 t40 t41 t42 t43 t44 t45 t46 t47 t48 t49 t50 t51 t52 t53 t54 t55 t56 t57 t58 t59 t60 t61 t62 t63 t64 t65 t66 t67 : V) (l : Nat) (h : Heap) (n : Nat) (Q : X → St → Prop) : wpC CC (some l) (subC [1, 1, 0, 1, 0, 0] (bodyOf Go.Proofs.Tryz.f82)) ⟨mkTm [t0, t1, t2, t3, t4, t5, t6, t7, t8, t9, t10, t11, t12, t13, t14, t15, t16, t17, t18, t19, t20, t21, t22, t23, t24, t25, t26, t27, t28, t29, t30, t31, t32, t33, t34, t35, t36, t37, t38, t39, t40, t41, t42, t43, t44, t45, t46, t47, t48, t49, t50, t51, t52, t53, t54, t55, t56, t57, t58, t59, t60, t61, t62, t63, t64, t65, t66, t67], h, n, []⟩ Q = (
Q .normal ⟨mkTm [t0, t1, t2, t3, t4, t5, t6, t34, t8, t9, t10, t11, t12, t13, t14, t15, t16, t17, t18, t19, t20, t21, t22, t23, t24, t25, t26, t27, t28, t29, t30, t31, t32, t33, t34, t35, t36, t37, t38, t39, t40, t41, t42, t43, t44, t45, t46, t47, t48, t49, t50, t51, t52, t53, t54, t55, t56, t57, t58, t59, t60, t61, t62, t63, t64, t65, t66, t67], h, n, []⟩) := by kernel_rfl

theorem F82_g110101 (t0 t1 t2 t3 t4 t5 t6 t7 t8 t9 t10 t11 t12 t13 t14 t15 t16 t17 t18 t19 t20 t21 t22 t23 t24 t25 t26 t27 t28 t29 t30 t31 t32 t33 t34 t35 t36 t37 t38 t39 t40 t41 t42 t43 t44 t45 t46 t47 t48 t49 t50 t51 t52 t53 t54 t55 t56 t57 t58 t59 t60 t61 t62 t63 t64 t65 t66 t67 : V) (l : Nat) (h : Heap) (n : Nat) (Q : X → St → Prop) : wpC CC (some l) (subC [1, 1, 0, 1, 0, 1] (bodyOf Go.Proofs.Tryz.f82)) ⟨mkTm [t0, t1, t2, t3, t4, t5, t6, t7, t8, t9, t10, t11, t12, t13, t14, t15, t16, t17, t18, t19, t20, t21, t22, t23, t24, t25, t26, t27, t28, t29, t30, t31, t32, t33, t34, t35, t36, t37, t38, t39, t40, t41, t42, t43, t44, t45, t46, t47, t48, t49, t50, t51, t52, t53, t54, t55, t56, t57, t58, t59, t60, t61, t62, t63, t64, t65, t66, t67], h, n, []⟩ Q = (
oK (normO (rLoad CC 127 h t3)) fun v43 =>
oK (rNil v43) fun v44 =>
oK (rFA CC 168 4 v44) fun v45 =>
oK (normO (rLoad CC 23 h v45)) fun v46 =>
oK (indexAddr CC 23 v46 t7) fun v47 =>
oK (normO (rLoad CC 5 h v47)) fun v48 =>
oK (binop CC .neq 5 true v48 (.s (.int .u8 1))) fun v49 =>
oK (asBool v49) fun b50 => bif b50 then (
oK (normO (rLoad CC 127 h t3)) fun v51 =>
oK (normO (rLoad CC 23 h t4)) fun v52 =>
CallK CC 111 [v51, t7] h (n + 5) fun v53 h54 n55 =>
(normO (rLoad CC 23 h54 t4) = some v52 ∧ True ∧ True) ∧
copyK CC h54 23 v53 v52 fun v56 h57 =>
(True ∧ True ∧ True) ∧
oK (normO (rLoad CC 127 h57 t3)) fun v58 =>
oK (rNil v58) fun v59 =>
oK (rFA CC 168 4 v59) fun v60 =>
oK (normO (rLoad CC 23 h57 v60)) fun v61 =>
oK (normO (rLoad CC 127 h57 t3)) fun v62 =>
oK (rNil v62) fun v63 =>
oK (rFA CC 168 5 v63) fun v64 =>
oK (normO (rLoad CC 122 h57 v64)) fun v65 =>
oK (normO (rLoad CC 3 h57 t5)) fun v66 =>
oK (indexAddr CC 23 v61 t7) fun v67 =>
oK (asPtr v67) fun p68 => oK (store CC h57 5 p68.1 p68.2 (.s (.int .u8 1))) fun h69 =>
(normO (rLoad CC 3 h69 t5) = some v66 ∧ True ∧ True ∧ True ∧ True ∧ True) ∧
oK (indexAddr CC 122 v65 t7) fun v70 =>
oK (asPtr v70) fun p71 => oK (store CC h69 3 p71.1 p71.2 v66) fun h72 =>
(True ∧ True ∧ True ∧ True ∧ True ∧ True) ∧
oK (normO (rLoad CC 127 h72 t3)) fun v73 =>
oK (rNil v73) fun v74 =>
oK (rFA CC 168 2 v74) fun v75 =>
oK (normO (rLoad CC 3 h72 v75)) fun v76 =>
oK (binop CC .add 3 true v76 (.s (.int .i64 1))) fun v77 =>
oK (rNil v73) fun v78 =>
oK (rFA CC 168 2 v78) fun v79 =>
oK (asPtr v79) fun p80 => oK (store CC h72 3 p80.1 p80.2 v77) fun h81 =>
Q (.exit 1) ⟨mkTm [t0, t1, t2, t3, t4, t5, t6, t7, t8, t9, t10, t11, t12, t13, t14, t15, t16, t17, t18, t19, t20, t21, t22, t23, t24, t25, t26, t27, t28, t29, t30, t31, t32, t33, t34, v43, v44, v45, v46, t7, v47, v48, v49, v51, t7, v53, v52, v56, v58, v59, v60, v61, t7, v62, v63, v64, v65, t7, v66, v67, v70, v73, v74, v75, v76, v77, v78, v79], h81, (n55 + 15), []⟩) else (
Q .normal ⟨mkTm [t0, t1, t2, t3, t4, t5, t6, t7, t8, t9, t10, t11, t12, t13, t14, t15, t16, t17, t18, t19, t20, t21, t22, t23, t24, t25, t26, t27, t28, t29, t30, t31, t32, t33, t34, v43, v44, v45, v46, t7, v47, v48, v49, t43, t44, t45, t46, t47, t48, t49, t50, t51, t52, t53, t54, t55, t56, t57, t58, t59, t60, t61, t62, t63, t64, t65, t66, t67], h, n, []⟩)) := by kernel_rfl

theorem F82_R11010 {t0 t1 t2 t3 t4 t5 t6 t7 t8 t9 t10 t11 t12 t13 t14 t15 t16 t17 t18 t19 t20 t21 t22 t23 t24 t25 t26 t27 t28 t29 t30 t31 t32 t33 t34 t35 t36 t37 t38 t39 t40 t41 t42 t43 t44 t45 t46 t47 t48 t49 t50 t51 t52 t53 t54 t55 t56 t57 t58 t59 t60 t61 t62 t63 t64 t65 t66 t67 : V} (x : V) {l : Nat} {h : Heap} {n : Nat} {pend : Option Code} {K : V → Heap → Nat → Prop} (hl : h.get l = some (.loop .ready pend (mkTm [t0, t1, t2, t3, t4, t5, t6, t7, t8, t9, t10, t11, t12, t13, t14, t15, t16, t17, t18, t19, t20, t21, t22, t23, t24, t25, t26, t27, t28, t29, t30, t31, t32, t33, t34, t35, t36, t37, t38, t39, t40, t41, t42, t43, t44, t45, t46, t47, t48, t49, t50, t51, t52, t53, t54, t55, t56, t57, t58, t59, t60, t61, t62, t63, t64, t65, t66, t67]) [34] (subC [1, 1, 0, 1, 0, 0] (bodyOf Go.Proofs.Tryz.f82)) (subC [1, 1, 0, 1, 0, 1] (bodyOf Go.Proofs.Tryz.f82)))) (H : wpC CC (some l) (subC [1, 1, 0, 1, 0, 1] (bodyOf Go.Proofs.Tryz.f82)) ⟨mkTm [t0, t1, t2, t3, t4, t5, t6, x, t8, t9, t10, t11, t12, t13, t14, t15, t16, t17, t18, t19, t20, t21, t22, t23, t24, t25, t26, t27, t28, t29, t30, t31, t32, t33, x, t35, t36, t37, t38, t39, t40, t41, t42, t43, t44, t45, t46, t47, t48, t49, t50, t51, t52, t53, t54, t55, t56, t57, t58, t59, t60, t61, t62, t63, t64, t65, t66, t67], h.set l (.loop .busy pend (mkTm [t0, t1, t2, t3, t4, t5, t6, t7, t8, t9, t10, t11, t12, t13, t14, t15, t16, t17, t18, t19, t20, t21, t22, t23, t24, t25, t26, t27, t28, t29, t30, t31, t32, t33, t34, t35, t36, t37, t38, t39, t40, t41, t42, t43, t44, t45, t46, t47, t48, t49, t50, t51, t52, t53, t54, t55, t56, t57, t58, t59, t60, t61, t62, t63, t64, t65, t66, t67]) [34] (subC [1, 1, 0, 1, 0, 0] (bodyOf Go.Proofs.Tryz.f82)) (subC [1, 1, 0, 1, 0, 1] (bodyOf Go.Proofs.Tryz.f82))), n, []⟩ fun x s2 => oK (endRound x l s2.h s2.n) fun r => K r.1 r.2.1 r.2.2) : RoundK CC l [x] h n K :=
  roundK hl (tm1 := mkTm [t0, t1, t2, t3, t4, t5, t6, t7, t8, t9, t10, t11, t12, t13, t14, t15, t16, t17, t18, t19, t20, t21, t22, t23, t24, t25, t26, t27, t28, t29, t30, t31, t32, t33, x, t35, t36, t37, t38, t39, t40, t41, t42, t43, t44, t45, t46, t47, t48, t49, t50, t51, t52, t53, t54, t55, t56, t57, t58, t59, t60, t61, t62, t63, t64, t65, t66, t67]) (by kernel_rfl) (wpC_sound CCok (some l) _ _ _ (by
    rw [F82_g110100]
    refine ⟨rfl, ?_⟩
    simp only [setBusy, hl, oK_some]
    exact wpC_sound CCok (some l) _ _ _ H))

theorem F82_E11010 {t0 t1 t2 t3 t4 t5 t6 t7 t8 t9 t10 t11 t12 t13 t14 t15 t16 t17 t18 t19 t20 t21 t22 t23 t24 t25 t26 t27 t28 t29 t30 t31 t32 t33 t34 t35 t36 t37 t38 t39 t40 t41 t42 t43 t44 t45 t46 t47 t48 t49 t50 t51 t52 t53 t54 t55 t56 t57 t58 t59 t60 t61 t62 t63 t64 t65 t66 t67 : V} {h : Heap} {n : Nat} {Q : X → St → Prop} {g : FuncId} {first caps : List V} (hf : t33 = .func (.func g) first caps) (hc : CallK CC g (first ++ [.yield (n + 1)] ++ caps) ((h.set n .defd).set (n + 1) (.loop .ready none (mkTm [t0, t1, t2, t3, t4, t5, t6, t7, t8, t9, t10, t11, t12, t13, t14, t15, t16, t17, t18, t19, t20, t21, t22, t23, t24, t25, t26, t27, t28, t29, t30, t31, t32, t33, t34, t35, t36, t37, t38, t39, t40, t41, t42, t43, t44, t45, t46, t47, t48, t49, t50, t51, t52, t53, t54, t55, t56, t57, t58, t59, t60, t61, t62, t63, t64, t65, t66, t67]) [34] (subC [1, 1, 0, 1, 0, 0] (bodyOf Go.Proofs.Tryz.f82)) (subC [1, 1, 0, 1, 0, 1] (bodyOf Go.Proofs.Tryz.f82)))) (n + 2) fun _ h' n' => oK (endLoop (n + 1) h') fun e => Q e.1 ⟨mkTm [t0, t1, t2, t3, t4, t5, t6, t7, t8, t9, t10, t11, t12, t13, t14, t15, t16, t17, t18, t19, t20, t21, t22, t23, t24, t25, t26, t27, t28, t29, t30, t31, t32, t33, t34, t35, t36, t37, t38, t39, t40, t41, t42, t43, t44, t45, t46, t47, t48, t49, t50, t51, t52, t53, t54, t55, t56, t57, t58, t59, t60, t61, t62, t63, t64, t65, t66, t67], e.2, n', [n]⟩) : CodeK CC none (subC [1, 1, 0, 1, 0] (bodyOf Go.Proofs.Tryz.f82)) ⟨mkTm [t0, t1, t2, t3, t4, t5, t6, t7, t8, t9, t10, t11, t12, t13, t14, t15, t16, t17, t18, t19, t20, t21, t22, t23, t24, t25, t26, t27, t28, t29, t30, t31, t32, t33, t34, t35, t36, t37, t38, t39, t40, t41, t42, t43, t44, t45, t46, t47, t48, t49, t50, t51, t52, t53, t54, t55, t56, t57, t58, t59, t60, t61, t62, t63, t64, t65, t66, t67], h, n, []⟩ Q := by
  rw [F82_f11010]
  refine rangeFuncK (q := (n + 1, ⟨mkTm [t0, t1, t2, t3, t4, t5, t6, t7, t8, t9, t10, t11, t12, t13, t14, t15, t16, t17, t18, t19, t20, t21, t22, t23, t24, t25, t26, t27, t28, t29, t30, t31, t32, t33, t34, t35, t36, t37, t38, t39, t40, t41, t42, t43, t44, t45, t46, t47, t48, t49, t50, t51, t52, t53, t54, t55, t56, t57, t58, t59, t60, t61, t62, t63, t64, t65, t66, t67], (h.set n .defd).set (n + 1) (.loop .ready none (mkTm [t0, t1, t2, t3, t4, t5, t6, t7, t8, t9, t10, t11, t12, t13, t14, t15, t16, t17, t18, t19, t20, t21, t22, t23, t24, t25, t26, t27, t28, t29, t30, t31, t32, t33, t34, t35, t36, t37, t38, t39, t40, t41, t42, t43, t44, t45, t46, t47, t48, t49, t50, t51, t52, t53, t54, t55, t56, t57, t58, t59, t60, t61, t62, t63, t64, t65, t66, t67]) [34] (subC [1, 1, 0, 1, 0, 0] (bodyOf Go.Proofs.Tryz.f82)) (subC [1, 1, 0, 1, 0, 1] (bodyOf Go.Proofs.Tryz.f82))), n + 2, [n]⟩)) ?_ (by rfl) hc
  rw [← hf]
  exact (by kernel_rfl : evalT CC (mkTm [t0, t1, t2, t3, t4, t5, t6, t7, t8, t9, t10, t11, t12, t13, t14, t15, t16, t17, t18, t19, t20, t21, t22, t23, t24, t25, t26, t27, t28, t29, t30, t31, t32, t33, t34, t35, t36, t37, t38, t39, t40, t41, t42, t43, t44, t45, t46, t47, t48, t49, t50, t51, t52, t53, t54, t55, t56, t57, t58, t59, t60, t61, t62, t63, t64, t65, t66, t67]) (.tmp 33) = some t33)

/-! F83 (*lockgate/lru.Lru).Put -/
theorem F83 : CC.F.get 83 = some Go.Proofs.Tryz.f83 := by kernel_rfl
theorem F83_eq (t0 t1 t2 : V) (h : Heap) (n : Nat) (K : V → Heap → Nat → Prop) : Wp CC (bodyOf Go.Proofs.Tryz.f83) ⟨initTm Go.Proofs.Tryz.f83 [t0, t1, t2], h, n, []⟩ (retW CC Go.Proofs.Tryz.f83 K) = (
oK (lenV CC h 23 t1) fun v1 =>
oK (rNil t0) fun v2 =>
oK (rFA CC 171 0 v2) fun v3 =>
oK (normO (rLoad CC 3 h v3)) fun v4 =>
oK (binop CC .neq 3 false v1 v4) fun v5 =>
oK (asBool v5) fun b6 => bif b6 then (
K (.tup [(.s (.slice none 0 0)), (.s (.int .i64 0)), (.s (.int .i64 14))]) h n) else (
CallK CC 107 [t0, t1] h n fun v7 h8 n9 =>
oK (binop CC .geq 3 true v7 (.s (.int .i64 0))) fun v10 =>
oK (asBool v10) fun b11 => bif b11 then (
K (.tup [(.s (.slice none 0 0)), (.s (.int .i64 0)), (.s (.int .i64 11))]) h8 n9) else (
let h12 := h8.set n9 (.cells (.lst (zr CC 209).toList) 2); let n13 := n9 + 1;
oK (rNil t0) fun v14 =>
oK (rFA CC 171 2 v14) fun v15 =>
oK (normO (rLoad CC 169 h12 v15)) fun v16 =>
oK (lenV CC h12 169 v16) fun v17 =>
oK (rNil t0) fun v18 =>
oK (rFA CC 171 1 v18) fun v19 =>
oK (normO (rLoad CC 3 h12 v19)) fun v20 =>
oK (binop CC .eql 3 false v17 v20) fun v21 =>
oK (asBool v21) fun b22 => bif b22 then (
oK (rNil t0) fun v23 =>
oK (rFA CC 171 1 v23) fun v24 =>
oK (normO (rLoad CC 3 h12 v24)) fun v25 =>
oK (binop CC .sub 3 true v25 (.s (.int .i64 1))) fun v26 =>
CallK CC 112 [t0, v26] h12 (n13 + 10) fun v27 h28 n29 =>
oK (asPtr (.ptr n9 0)) fun p30 => oK (store CC h28 209 p30.1 p30.2 v27) fun h31 =>
oK (convert CC h31 23 9 t1) fun v32 =>
oK (normO (build CC 209 [(0, v32), (1, t2)])) fun v33 =>
CallK CC 113 [t0, v33] h31 n29 fun v34 h35 n36 =>
oK (rFA CC 209 0 (.ptr n9 0)) fun v37 =>
oK (normO (rLoad CC 9 h35 v37)) fun v38 =>
oK (mkConv CC 9 23 v38) fun m39 =>
oK (rFA CC 209 1 (.ptr n9 0)) fun v40 =>
oK (normO (rLoad CC 3 h35 v40)) fun v41 =>
K (.tup [(m39.2.val (n36 + 2)), v41, (.s (.int .i64 0))]) (h35.set (n36 + 2) (m39.1)) (n36 + 8)) else (
oK (convert CC h12 23 9 t1) fun v42 =>
oK (normO (build CC 209 [(0, v42), (1, t2)])) fun v43 =>
CallK CC 113 [t0, v43] h12 (n13 + 10) fun v44 h45 n46 =>
oK (rFA CC 209 0 (.ptr n9 0)) fun v47 =>
oK (normO (rLoad CC 9 h45 v47)) fun v48 =>
oK (mkConv CC 9 23 v48) fun m49 =>
oK (rFA CC 209 1 (.ptr n9 0)) fun v50 =>
oK (normO (rLoad CC 3 h45 v50)) fun v51 =>
K (.tup [(m49.2.val (n46 + 2)), v51, (.s (.int .i64 0))]) (h45.set (n46 + 2) (m49.1)) (n46 + 8))))) := Wp.eq_of (by kernel_rfl)
theorem F83_call {t0 t1 t2 : V} {h : Heap} {n : Nat} {K : V → Heap → Nat → Prop} (H : (∀ b o, h.get b = some o → b < n) → Wp CC (bodyOf Go.Proofs.Tryz.f83) ⟨initTm Go.Proofs.Tryz.f83 [t0, t1, t2], h, n, []⟩ (retW CC Go.Proofs.Tryz.f83 K)) : CallK CC 83 [t0, t1, t2] h n K := by
  have := @callK_of CC CCok 83 Go.Proofs.Tryz.f83 (bodyOf Go.Proofs.Tryz.f83) [t0, t1, t2] h n K F83
  refine this ?_ ?_ ?_
  · kernel_rfl
  · kernel_rfl
  · exact H

end Go.Ev
