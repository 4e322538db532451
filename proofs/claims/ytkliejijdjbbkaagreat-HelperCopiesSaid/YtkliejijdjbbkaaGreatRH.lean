import Derived.Test.YtkliejijdjbbkaaGreatEvKG
import Derived.Test.YtkliejijdjbbkaaGreatRB
namespace Go.Ev
set_option linter.unusedVariables false
@[simp] theorem ap22_22 (h : Heap) (n : Nat) (s x : V) (K : V → Heap → Nat → Prop) : appendK CC h n 22 22 s x K = appendWK 1 1 h n s x K := of_eq (by kernel_rfl)
@[simp] theorem cp209 (h : Heap) (d x : V) (K : V → Heap → Prop) : copyK CC h 209 d x K = copyWK 3 h d x K := of_eq (by kernel_rfl)
@[simp] theorem cp22 (h : Heap) (d x : V) (K : V → Heap → Prop) : copyK CC h 22 d x K = copyWK 1 h d x K := of_eq (by kernel_rfl)
@[simp] theorem cv23_3 (h : Heap) (k : IntKind) (a : Int) : convert CC h 23 3 (.s (.int k a)) = some (.s (.int .i64 (wrapF .i64 a))) := of_eq (by kernel_rfl)
@[simp] theorem cv3_23 (h : Heap) (k : IntKind) (a : Int) : convert CC h 3 23 (.s (.int k a)) = some (.s (.int .u64 (wrapF .u64 a))) := of_eq (by kernel_rfl)
@[simp] theorem cv3_5 (h : Heap) (k : IntKind) (a : Int) : convert CC h 3 5 (.s (.int k a)) = some (.s (.int .u8 (wrapF .u8 a))) := of_eq (by kernel_rfl)
@[simp] theorem eq22 (c : Bool) (b o l cc : Nat) (p : Bool) : binop CC .eql 22 c (.slice b o l cc p) (.s (.slice none 0 0)) = some (.s (.bool false)) := of_eq (by kernel_rfl)
@[simp] theorem eq22r (c : Bool) (b o l cc : Nat) (p : Bool) : binop CC .eql 22 c (.s (.slice none 0 0)) (.slice b o l cc p) = some (.s (.bool false)) := of_eq (by kernel_rfl)
@[simp] theorem eq22z (c : Bool) : binop CC .eql 22 c (.s (.slice none 0 0)) (.s (.slice none 0 0)) = some (.s (.bool true)) := of_eq (by kernel_rfl)
@[simp] theorem eq33 (c : Bool) (b o : Nat) : binop CC .eql 33 c (.ptr b o) (.s (.pointer none)) = some (.s (.bool false)) := of_eq (by kernel_rfl)
@[simp] theorem eq33r (c : Bool) (b o : Nat) : binop CC .eql 33 c (.s (.pointer none)) (.ptr b o) = some (.s (.bool false)) := of_eq (by kernel_rfl)
@[simp] theorem eq33z (c : Bool) : binop CC .eql 33 c (.s (.pointer none)) (.s (.pointer none)) = some (.s (.bool true)) := of_eq (by kernel_rfl)
@[simp] theorem eq53 (c : Bool) (b o : Nat) : binop CC .eql 53 c (.ptr b o) (.s (.pointer none)) = some (.s (.bool false)) := of_eq (by kernel_rfl)
@[simp] theorem eq53r (c : Bool) (b o : Nat) : binop CC .eql 53 c (.s (.pointer none)) (.ptr b o) = some (.s (.bool false)) := of_eq (by kernel_rfl)
@[simp] theorem eq53z (c : Bool) : binop CC .eql 53 c (.s (.pointer none)) (.s (.pointer none)) = some (.s (.bool true)) := of_eq (by kernel_rfl)
@[simp] theorem eq54 (c : Bool) (b o : Nat) : binop CC .eql 54 c (.ptr b o) (.s (.pointer none)) = some (.s (.bool false)) := of_eq (by kernel_rfl)
@[simp] theorem eq54r (c : Bool) (b o : Nat) : binop CC .eql 54 c (.s (.pointer none)) (.ptr b o) = some (.s (.bool false)) := of_eq (by kernel_rfl)
@[simp] theorem eq54z (c : Bool) : binop CC .eql 54 c (.s (.pointer none)) (.s (.pointer none)) = some (.s (.bool true)) := of_eq (by kernel_rfl)
@[simp] theorem eq55 (c : Bool) (b o : Nat) : binop CC .eql 55 c (.ptr b o) (.s (.pointer none)) = some (.s (.bool false)) := of_eq (by kernel_rfl)
@[simp] theorem eq55r (c : Bool) (b o : Nat) : binop CC .eql 55 c (.s (.pointer none)) (.ptr b o) = some (.s (.bool false)) := of_eq (by kernel_rfl)
@[simp] theorem eq55z (c : Bool) : binop CC .eql 55 c (.s (.pointer none)) (.s (.pointer none)) = some (.s (.bool true)) := of_eq (by kernel_rfl)
@[simp] theorem fa100_0 (b o : Nat) : rFA CC 100 0 (.ptr b o) = some (.ptr b (o + 0)) := of_eq (by kernel_rfl)
@[simp] theorem fa100_1 (b o : Nat) : rFA CC 100 1 (.ptr b o) = some (.ptr b (o + 1)) := of_eq (by kernel_rfl)
@[simp] theorem fa140_0 (b o : Nat) : rFA CC 140 0 (.ptr b o) = some (.ptr b (o + 0)) := of_eq (by kernel_rfl)
@[simp] theorem fa140_1 (b o : Nat) : rFA CC 140 1 (.ptr b o) = some (.ptr b (o + 1)) := of_eq (by kernel_rfl)
@[simp] theorem fa28_0 (b o : Nat) : rFA CC 28 0 (.ptr b o) = some (.ptr b (o + 0)) := of_eq (by kernel_rfl)
@[simp] theorem fa28_1 (b o : Nat) : rFA CC 28 1 (.ptr b o) = some (.ptr b (o + 1)) := of_eq (by kernel_rfl)
@[simp] theorem fa28_2 (b o : Nat) : rFA CC 28 2 (.ptr b o) = some (.ptr b (o + 2)) := of_eq (by kernel_rfl)
@[simp] theorem fa30_0 (b o : Nat) : rFA CC 30 0 (.ptr b o) = some (.ptr b (o + 0)) := of_eq (by kernel_rfl)
@[simp] theorem fa30_1 (b o : Nat) : rFA CC 30 1 (.ptr b o) = some (.ptr b (o + 1)) := of_eq (by kernel_rfl)
@[simp] theorem fa30_2 (b o : Nat) : rFA CC 30 2 (.ptr b o) = some (.ptr b (o + 2)) := of_eq (by kernel_rfl)
@[simp] theorem fa30_3 (b o : Nat) : rFA CC 30 3 (.ptr b o) = some (.ptr b (o + 3)) := of_eq (by kernel_rfl)
@[simp] theorem fa30_4 (b o : Nat) : rFA CC 30 4 (.ptr b o) = some (.ptr b (o + 4)) := of_eq (by kernel_rfl)
@[simp] theorem fa30_5 (b o : Nat) : rFA CC 30 5 (.ptr b o) = some (.ptr b (o + 5)) := of_eq (by kernel_rfl)
@[simp] theorem fa40_0 (b o : Nat) : rFA CC 40 0 (.ptr b o) = some (.ptr b (o + 0)) := of_eq (by kernel_rfl)
@[simp] theorem fa40_1 (b o : Nat) : rFA CC 40 1 (.ptr b o) = some (.ptr b (o + 3)) := of_eq (by kernel_rfl)
@[simp] theorem fa40_2 (b o : Nat) : rFA CC 40 2 (.ptr b o) = some (.ptr b (o + 11)) := of_eq (by kernel_rfl)
@[simp] theorem fa43_3 (b o : Nat) : rFA CC 43 3 (.ptr b o) = some (.ptr b (o + 3)) := of_eq (by kernel_rfl)
@[simp] theorem fa43_4 (b o : Nat) : rFA CC 43 4 (.ptr b o) = some (.ptr b (o + 36)) := of_eq (by kernel_rfl)
@[simp] theorem fa57_0 (b o : Nat) : rFA CC 57 0 (.ptr b o) = some (.ptr b (o + 0)) := of_eq (by kernel_rfl)
@[simp] theorem fa57_1 (b o : Nat) : rFA CC 57 1 (.ptr b o) = some (.ptr b (o + 1)) := of_eq (by kernel_rfl)
@[simp] theorem fa63_0 (b o : Nat) : rFA CC 63 0 (.ptr b o) = some (.ptr b (o + 0)) := of_eq (by kernel_rfl)
@[simp] theorem fa65_8 (b o : Nat) : rFA CC 65 8 (.ptr b o) = some (.ptr b (o + 11)) := of_eq (by kernel_rfl)
@[simp] theorem fa65_9 (b o : Nat) : rFA CC 65 9 (.ptr b o) = some (.ptr b (o + 12)) := of_eq (by kernel_rfl)
@[simp] theorem fa85_2 (b o : Nat) : rFA CC 85 2 (.ptr b o) = some (.ptr b (o + 16)) := of_eq (by kernel_rfl)
@[simp] theorem ix188 (b o l c : Nat) (p : Bool) (i : V) : indexAddr CC 188 (.slice b o l c p) i = (asNat i).bind fun k => bif Nat.blt k l then some (.ptr b (o + k * 1)) else none := of_eq (by kernel_rfl)
@[simp] theorem ix22 (b o l c : Nat) (p : Bool) (i : V) : indexAddr CC 22 (.slice b o l c p) i = (asNat i).bind fun k => bif Nat.blt k l then some (.ptr b (o + k * 1)) else none := of_eq (by kernel_rfl)
@[simp] theorem ix25 (b o l c : Nat) (p : Bool) (i : V) : indexAddr CC 25 (.slice b o l c p) i = (asNat i).bind fun k => bif Nat.blt k l then some (.ptr b (o + k * 13)) else none := of_eq (by kernel_rfl)
@[simp] theorem ix26 (b o l c : Nat) (p : Bool) (i : V) : indexAddr CC 26 (.slice b o l c p) i = (asNat i).bind fun k => bif Nat.blt k l then some (.ptr b (o + k * 1)) else none := of_eq (by kernel_rfl)
@[simp] theorem ix37 (b o : Nat) (i : V) : indexAddr CC 37 (.ptr b o) i = (asNat i).bind fun k => bif Nat.blt k 11 then some (.ptr b (o + k * 3)) else none := of_eq (by kernel_rfl)
@[simp] theorem ix38 (b o : Nat) (i : V) : indexAddr CC 38 (.ptr b o) i = (asNat i).bind fun k => bif Nat.blt k 8 then some (.ptr b (o + k * 1)) else none := of_eq (by kernel_rfl)
@[simp] theorem ix41 (b o : Nat) (i : V) : indexAddr CC 41 (.ptr b o) i = (asNat i).bind fun k => bif Nat.blt k 64 then some (.ptr b (o + k * 12)) else none := of_eq (by kernel_rfl)
@[simp] theorem ix72 (b o l c : Nat) (p : Bool) (i : V) : indexAddr CC 72 (.slice b o l c p) i = (asNat i).bind fun k => bif Nat.blt k l then some (.ptr b (o + k * 4)) else none := of_eq (by kernel_rfl)
@[simp] theorem ix82 (b o l c : Nat) (p : Bool) (i : V) : indexAddr CC 82 (.slice b o l c p) i = (asNat i).bind fun k => bif Nat.blt k l then some (.ptr b (o + k * 29)) else none := of_eq (by kernel_rfl)
@[simp] theorem ld149 (h : Heap) (b o : Nat) : rLoad CC 149 h (.ptr b o) = (cellsAt h b).bind fun c => c.1.get o := of_eq (by kernel_rfl)
@[simp] theorem ld22 (h : Heap) (b o : Nat) : rLoad CC 22 h (.ptr b o) = (cellsAt h b).bind fun c => c.1.get o := of_eq (by kernel_rfl)
@[simp] theorem ld23 (h : Heap) (b o : Nat) : rLoad CC 23 h (.ptr b o) = (cellsAt h b).bind fun c => c.1.get o := of_eq (by kernel_rfl)
@[simp] theorem ld25 (h : Heap) (b o : Nat) : rLoad CC 25 h (.ptr b o) = (cellsAt h b).bind fun c => c.1.get o := of_eq (by kernel_rfl)
@[simp] theorem ld26 (h : Heap) (b o : Nat) : rLoad CC 26 h (.ptr b o) = (cellsAt h b).bind fun c => c.1.get o := of_eq (by kernel_rfl)
@[simp] theorem ld28 (h : Heap) (b o : Nat) : rLoad CC 28 h (.ptr b o) = (cellsAt h b).bind fun c => bif Nat.ble (o + 3) c.1.size then some (.agg (c.1.ext o 3)) else none := of_eq (by kernel_rfl)
@[simp] theorem ld3 (h : Heap) (b o : Nat) : rLoad CC 3 h (.ptr b o) = (cellsAt h b).bind fun c => c.1.get o := of_eq (by kernel_rfl)
@[simp] theorem ld30 (h : Heap) (b o : Nat) : rLoad CC 30 h (.ptr b o) = (cellsAt h b).bind fun c => bif Nat.ble (o + 8) c.1.size then some (.agg (c.1.ext o 8)) else none := of_eq (by kernel_rfl)
@[simp] theorem ld33 (h : Heap) (b o : Nat) : rLoad CC 33 h (.ptr b o) = (cellsAt h b).bind fun c => c.1.get o := of_eq (by kernel_rfl)
@[simp] theorem ld34 (h : Heap) (b o : Nat) : rLoad CC 34 h (.ptr b o) = (cellsAt h b).bind fun c => c.1.get o := of_eq (by kernel_rfl)
@[simp] theorem ld43 (h : Heap) (b o : Nat) : rLoad CC 43 h (.ptr b o) = (cellsAt h b).bind fun c => bif Nat.ble (o + 804) c.1.size then some (.agg (c.1.ext o 804)) else none := of_eq (by kernel_rfl)
@[simp] theorem ld5 (h : Heap) (b o : Nat) : rLoad CC 5 h (.ptr b o) = (cellsAt h b).bind fun c => c.1.get o := of_eq (by kernel_rfl)
@[simp] theorem ld52 (h : Heap) (b o : Nat) : rLoad CC 52 h (.ptr b o) = (cellsAt h b).bind fun c => c.1.get o := of_eq (by kernel_rfl)
@[simp] theorem ld53 (h : Heap) (b o : Nat) : rLoad CC 53 h (.ptr b o) = (cellsAt h b).bind fun c => c.1.get o := of_eq (by kernel_rfl)
@[simp] theorem ld54 (h : Heap) (b o : Nat) : rLoad CC 54 h (.ptr b o) = (cellsAt h b).bind fun c => c.1.get o := of_eq (by kernel_rfl)
@[simp] theorem ld65 (h : Heap) (b o : Nat) : rLoad CC 65 h (.ptr b o) = (cellsAt h b).bind fun c => bif Nat.ble (o + 13) c.1.size then some (.agg (c.1.ext o 13)) else none := of_eq (by kernel_rfl)
@[simp] theorem len188 (h : Heap) (b o l c : Nat) (p : Bool) : lenV CC h 188 (.slice b o l c p) = some (.s (.int .i64 (l : Int))) := of_eq (by kernel_rfl)
@[simp] theorem len22 (h : Heap) (b o l c : Nat) (p : Bool) : lenV CC h 22 (.slice b o l c p) = some (.s (.int .i64 (l : Int))) := of_eq (by kernel_rfl)
@[simp] theorem len25 (h : Heap) (b o l c : Nat) (p : Bool) : lenV CC h 25 (.slice b o l c p) = some (.s (.int .i64 (l : Int))) := of_eq (by kernel_rfl)
@[simp] theorem len26 (h : Heap) (b o l c : Nat) (p : Bool) : lenV CC h 26 (.slice b o l c p) = some (.s (.int .i64 (l : Int))) := of_eq (by kernel_rfl)
@[simp] theorem len72 (h : Heap) (b o l c : Nat) (p : Bool) : lenV CC h 72 (.slice b o l c p) = some (.s (.int .i64 (l : Int))) := of_eq (by kernel_rfl)
@[simp] theorem len82 (h : Heap) (b o l c : Nat) (p : Bool) : lenV CC h 82 (.slice b o l c p) = some (.s (.int .i64 (l : Int))) := of_eq (by kernel_rfl)
@[simp] theorem lenn188 (h : Heap) : lenV CC h 188 (.s (.slice none 0 0)) = some (.s (.int .i64 0)) := of_eq (by kernel_rfl)
@[simp] theorem lenn22 (h : Heap) : lenV CC h 22 (.s (.slice none 0 0)) = some (.s (.int .i64 0)) := of_eq (by kernel_rfl)
@[simp] theorem lenn25 (h : Heap) : lenV CC h 25 (.s (.slice none 0 0)) = some (.s (.int .i64 0)) := of_eq (by kernel_rfl)
@[simp] theorem lenn26 (h : Heap) : lenV CC h 26 (.s (.slice none 0 0)) = some (.s (.int .i64 0)) := of_eq (by kernel_rfl)
@[simp] theorem lenn72 (h : Heap) : lenV CC h 72 (.s (.slice none 0 0)) = some (.s (.int .i64 0)) := of_eq (by kernel_rfl)
@[simp] theorem lenn82 (h : Heap) : lenV CC h 82 (.s (.slice none 0 0)) = some (.s (.int .i64 0)) := of_eq (by kernel_rfl)
@[simp] theorem lk103 (h : Heap) (m k : V) (ok : Bool) : lookup CC h 103 m k ok = lookupW (.int .i64) (zv CC 101) h m k ok := of_eq (by kernel_rfl)
@[simp] theorem mu103 (h : Heap) (b : Nat) (k v : V) : mapUpdate CC h 103 (.map b) k v = mapUpdateW (.int .i64) h b k v := of_eq (by kernel_rfl)
@[simp] theorem sl22 (b o l c : Nat) (p : Bool) (lo hi mx : Option V) : sliceOp CC 22 (.slice b o l c p) lo hi mx = (bounds l c lo hi mx).bind fun q => some (.slice b (o + q.1 * 1) (q.2.1 - q.1) (q.2.2 - q.1) (p && mx.isNone)) := of_eq (by kernel_rfl)
@[simp] theorem sl37 (b o : Nat) (lo hi mx : Option V) : sliceOp CC 37 (.ptr b o) lo hi mx = (bounds 11 11 lo hi mx).bind fun q => some (.slice b (o + q.1 * 3) (q.2.1 - q.1) (q.2.2 - q.1) false) := of_eq (by kernel_rfl)
@[simp] theorem sln22 (lo hi mx : Option V) : sliceOp CC 22 (.s (.slice none 0 0)) lo hi mx = (bounds 0 0 lo hi mx).bind fun _ => some (.s (.slice none 0 0)) := of_eq (by kernel_rfl)
@[simp] theorem sto28 (h : Heap) (b o : Nat) (v : V) : store CC h 28 b o v = v.cells.bind fun cs => bif Nat.beq cs.size 3 then storeCells h b o cs else none := of_eq (by kernel_rfl)
@[simp] theorem sto30 (h : Heap) (b o : Nat) (v : V) : store CC h 30 b o v = v.cells.bind fun cs => bif Nat.beq cs.size 8 then storeCells h b o cs else none := of_eq (by kernel_rfl)
@[simp] theorem sto40 (h : Heap) (b o : Nat) (v : V) : store CC h 40 b o v = v.cells.bind fun cs => bif Nat.beq cs.size 12 then storeCells h b o cs else none := of_eq (by kernel_rfl)
@[simp] theorem sto43 (h : Heap) (b o : Nat) (v : V) : store CC h 43 b o v = v.cells.bind fun cs => bif Nat.beq cs.size 804 then storeCells h b o cs else none := of_eq (by kernel_rfl)
@[simp] theorem sto5 (h : Heap) (b o : Nat) (v : V) : store CC h 5 b o v = v.cells.bind fun cs => bif Nat.beq cs.size 1 then storeCells h b o cs else none := of_eq (by kernel_rfl)
@[simp] theorem x42 : CC.X.get 42 = some false := of_eq (by kernel_rfl)
@[simp] theorem x43 : CC.X.get 43 = some false := of_eq (by kernel_rfl)
@[simp] theorem x44 : CC.X.get 44 = some false := of_eq (by kernel_rfl)
@[simp] theorem x45 : CC.X.get 45 = some false := of_eq (by kernel_rfl)
@[simp] theorem x46 : CC.X.get 46 = some false := of_eq (by kernel_rfl)
@[simp] theorem x47 : CC.X.get 47 = some false := of_eq (by kernel_rfl)
@[simp] theorem x48 : CC.X.get 48 = some false := of_eq (by kernel_rfl)
@[simp] theorem x49 : CC.X.get 49 = some false := of_eq (by kernel_rfl)
@[simp] theorem z100 : (zr CC 100).toList = [.s (.pointer none), .s (.pointer none)] := of_eq (by kernel_rfl)
@[simp] theorem z101 : zr CC 101 = .one (.s .nilFunc) := of_eq (by kernel_rfl)
@[simp] theorem z107 : (zr CC 107).toList = [.s (.slice none 0 0)] := of_eq (by kernel_rfl)
@[simp] theorem z118 : (zr CC 118).toList = [.s (.pointer none), .s (.slice none 0 0), .s (.int .i64 0), .s (.slice none 0 0)] := of_eq (by kernel_rfl)
@[simp] theorem z140 : (zr CC 140).toList = [.s (.slice none 0 0), .s (.int .i64 0)] := of_eq (by kernel_rfl)
@[simp] theorem z149 : zr CC 149 = .one (.s (.int .i64 0)) := of_eq (by kernel_rfl)
@[simp] theorem z169 : (zr CC 169).toList = [.s (.map none), .s (.int .i64 0)] := of_eq (by kernel_rfl)
@[simp] theorem z28 : (zr CC 28).toList = [.s (.int .i64 0), .s (.int .u64 0), .s (.int .i64 0)] := of_eq (by kernel_rfl)
@[simp] theorem z30 : (zr CC 30).toList = [.s (.slice none 0 0), .s (.slice none 0 0), .s (.slice none 0 0), .s (.int .i64 0), .s (.slice none 0 0), .s (.int .i64 0), .s (.int .u64 0), .s (.int .i64 0)] := of_eq (by kernel_rfl)
@[simp] theorem z37 : (zr CC 37).toList = [.s (.int .i64 0), .s (.int .u64 0), .s (.int .i64 0), .s (.int .i64 0), .s (.int .u64 0), .s (.int .i64 0), .s (.int .i64 0), .s (.int .u64 0), .s (.int .i64 0), .s (.int .i64 0), .s (.int .u64 0), .s (.int .i64 0), .s (.int .i64 0), .s (.int .u64 0), .s (.int .i64 0), .s (.int .i64 0), .s (.int .u64 0), .s (.int .i64 0), .s (.int .i64 0), .s (.int .u64 0), .s (.int .i64 0), .s (.int .i64 0), .s (.int .u64 0), .s (.int .i64 0), .s (.int .i64 0), .s (.int .u64 0), .s (.int .i64 0), .s (.int .i64 0), .s (.int .u64 0), .s (.int .i64 0), .s (.int .i64 0), .s (.int .u64 0), .s (.int .i64 0)] := of_eq (by kernel_rfl)
@[simp] theorem z40 : (zr CC 40).toList = [.s (.int .i64 0), .s (.int .u64 0), .s (.int .i64 0), .s (.int .u8 0), .s (.int .u8 0), .s (.int .u8 0), .s (.int .u8 0), .s (.int .u8 0), .s (.int .u8 0), .s (.int .u8 0), .s (.int .u8 0), .s (.int .u8 0)] := of_eq (by kernel_rfl)
@[simp] theorem z5 : zr CC 5 = .one (.s (.int .u8 0)) := of_eq (by kernel_rfl)
@[simp] theorem z57 : (zr CC 57).toList = [.s (.pointer none), .s (.pointer none), .s (.int .u64 0), .s (.pointer none)] := of_eq (by kernel_rfl)
@[simp] theorem zlen43 : (zr CC 43).toList.length = 804 := of_eq (by kernel_rfl)
@[simp] theorem bd100 (ps : List (Nat × V)) : normO (build CC 100 ps) = bOr (fillL [(0, 1), (1, 1)] (zr CC 100).toList ps) (bFall CC 100 ps) := by
  refine bd_of fun l hl => ?_
  refine @build_struct CC 100 ((Ev.ty CC 100).get!) (zr CC 100) [(0, 1), (1, 1)] ?_ ?_ ?_ ?_ (zr CC 100).toList (Eq.refl _) ps l hl
  · kernel_rfl
  · kernel_rfl
  · kernel_rfl
  · kernel_rfl
@[simp] theorem bd107 (ps : List (Nat × V)) : normO (build CC 107 ps) = bOr (fillL [(0, 1)] (zr CC 107).toList ps) (bFall CC 107 ps) := by
  refine bd_of fun l hl => ?_
  refine @build_struct CC 107 ((Ev.ty CC 107).get!) (zr CC 107) [(0, 1)] ?_ ?_ ?_ ?_ (zr CC 107).toList (Eq.refl _) ps l hl
  · kernel_rfl
  · kernel_rfl
  · kernel_rfl
  · kernel_rfl
@[simp] theorem bd118 (ps : List (Nat × V)) : normO (build CC 118 ps) = bOr (fillL [(0, 1), (1, 1), (2, 1), (3, 1)] (zr CC 118).toList ps) (bFall CC 118 ps) := by
  refine bd_of fun l hl => ?_
  refine @build_struct CC 118 ((Ev.ty CC 118).get!) (zr CC 118) [(0, 1), (1, 1), (2, 1), (3, 1)] ?_ ?_ ?_ ?_ (zr CC 118).toList (Eq.refl _) ps l hl
  · kernel_rfl
  · kernel_rfl
  · kernel_rfl
  · kernel_rfl
@[simp] theorem bd140 (ps : List (Nat × V)) : normO (build CC 140 ps) = bOr (fillL [(0, 1), (1, 1)] (zr CC 140).toList ps) (bFall CC 140 ps) := by
  refine bd_of fun l hl => ?_
  refine @build_struct CC 140 ((Ev.ty CC 140).get!) (zr CC 140) [(0, 1), (1, 1)] ?_ ?_ ?_ ?_ (zr CC 140).toList (Eq.refl _) ps l hl
  · kernel_rfl
  · kernel_rfl
  · kernel_rfl
  · kernel_rfl
@[simp] theorem bd169 (ps : List (Nat × V)) : normO (build CC 169 ps) = bOr (fillL [(0, 1), (1, 1)] (zr CC 169).toList ps) (bFall CC 169 ps) := by
  refine bd_of fun l hl => ?_
  refine @build_struct CC 169 ((Ev.ty CC 169).get!) (zr CC 169) [(0, 1), (1, 1)] ?_ ?_ ?_ ?_ (zr CC 169).toList (Eq.refl _) ps l hl
  · kernel_rfl
  · kernel_rfl
  · kernel_rfl
  · kernel_rfl
@[simp] theorem bd28 (ps : List (Nat × V)) : normO (build CC 28 ps) = bOr (fillL [(0, 1), (1, 1), (2, 1)] (zr CC 28).toList ps) (bFall CC 28 ps) := by
  refine bd_of fun l hl => ?_
  refine @build_struct CC 28 ((Ev.ty CC 28).get!) (zr CC 28) [(0, 1), (1, 1), (2, 1)] ?_ ?_ ?_ ?_ (zr CC 28).toList (Eq.refl _) ps l hl
  · kernel_rfl
  · kernel_rfl
  · kernel_rfl
  · kernel_rfl
@[simp] theorem bd30 (ps : List (Nat × V)) : normO (build CC 30 ps) = bOr (fillL [(0, 1), (1, 1), (2, 1), (3, 1), (4, 1), (5, 3)] (zr CC 30).toList ps) (bFall CC 30 ps) := by
  refine bd_of fun l hl => ?_
  refine @build_struct CC 30 ((Ev.ty CC 30).get!) (zr CC 30) [(0, 1), (1, 1), (2, 1), (3, 1), (4, 1), (5, 3)] ?_ ?_ ?_ ?_ (zr CC 30).toList (Eq.refl _) ps l hl
  · kernel_rfl
  · kernel_rfl
  · kernel_rfl
  · kernel_rfl
@[simp] theorem bd37 (ps : List (Nat × V)) : normO (build CC 37 ps) = bOr (fillL [(0, 3), (3, 3), (6, 3), (9, 3), (12, 3), (15, 3), (18, 3), (21, 3), (24, 3), (27, 3), (30, 3)] (zr CC 37).toList ps) (bFall CC 37 ps) := by
  refine bd_of fun l hl => ?_
  refine @build_array CC 37 ((Ev.ty CC 37).get!) (zr CC 37) [(0, 3), (3, 3), (6, 3), (9, 3), (12, 3), (15, 3), (18, 3), (21, 3), (24, 3), (27, 3), (30, 3)] ?_ 3 ?_ ?_ ?_ ?_ (zr CC 37).toList (Eq.refl _) ps l hl
  · kernel_rfl
  · kernel_rfl
  · kernel_rfl
  · kernel_rfl
  · kernel_rfl
@[simp] theorem bd40 (ps : List (Nat × V)) : normO (build CC 40 ps) = bOr (fillL [(0, 3), (3, 8), (11, 1)] (zr CC 40).toList ps) (bFall CC 40 ps) := by
  refine bd_of fun l hl => ?_
  refine @build_struct CC 40 ((Ev.ty CC 40).get!) (zr CC 40) [(0, 3), (3, 8), (11, 1)] ?_ ?_ ?_ ?_ (zr CC 40).toList (Eq.refl _) ps l hl
  · kernel_rfl
  · kernel_rfl
  · kernel_rfl
  · kernel_rfl
@[simp] theorem bd43 (ps : List (Nat × V)) : normO (build CC 43 ps) = bOr (fillL [(0, 1), (1, 1), (2, 1), (3, 33), (36, 768)] (zr CC 43).toList ps) (bFall CC 43 ps) := by
  refine bd_of fun l hl => ?_
  refine @build_struct CC 43 ((Ev.ty CC 43).get!) (zr CC 43) [(0, 1), (1, 1), (2, 1), (3, 33), (36, 768)] ?_ ?_ ?_ ?_ (zr CC 43).toList (Eq.refl _) ps l hl
  · kernel_rfl
  · kernel_rfl
  · kernel_rfl
  · kernel_rfl
@[simp] theorem bd57 (ps : List (Nat × V)) : normO (build CC 57 ps) = bOr (fillL [(0, 1), (1, 1), (2, 1), (3, 1)] (zr CC 57).toList ps) (bFall CC 57 ps) := by
  refine bd_of fun l hl => ?_
  refine @build_struct CC 57 ((Ev.ty CC 57).get!) (zr CC 57) [(0, 1), (1, 1), (2, 1), (3, 1)] ?_ ?_ ?_ ?_ (zr CC 57).toList (Eq.refl _) ps l hl
  · kernel_rfl
  · kernel_rfl
  · kernel_rfl
  · kernel_rfl
theorem fk149_4_z : ((Rope.one (V.s (.int .i64 0))).rep 4).toList = (List.replicate 4 (Rope.one (V.s (.int .i64 0))).toList).flatten := by kernel_rfl
@[simp] theorem fk149_4 (ps : List (Nat × V)) (K : List V → Prop) : fillK 1 ((Rope.one (V.s (.int .i64 0))).rep 4) ps K = fillLK (fillL [(0, 1), (1, 1), (2, 1), (3, 1)] (List.replicate 4 (Rope.one (V.s (.int .i64 0))).toList).flatten ps) K (fillKF 1 ((Rope.one (V.s (.int .i64 0))).rep 4) ps K) :=
  fillK_eq (offs := [(0, 1), (1, 1), (2, 1), (3, 1)]) (fun k p hk => by have := offsAB_spec (show offsAB 1 0 [(0, 1), (1, 1), (2, 1), (3, 1)] = true by kernel_rfl) k p hk; simpa using this) (by kernel_rfl) fk149_4_z ps K
theorem fk5_0_z : ((Rope.one (V.s (.int .u8 0))).rep 0).toList = (List.replicate 0 (Rope.one (V.s (.int .u8 0))).toList).flatten := by kernel_rfl
@[simp] theorem fk5_0 (ps : List (Nat × V)) (K : List V → Prop) : fillK 1 ((Rope.one (V.s (.int .u8 0))).rep 0) ps K = fillLK (fillL [] (List.replicate 0 (Rope.one (V.s (.int .u8 0))).toList).flatten ps) K (fillKF 1 ((Rope.one (V.s (.int .u8 0))).rep 0) ps K) :=
  fillK_eq (offs := []) (fun k p hk => by have := offsAB_spec (show offsAB 1 0 [] = true by kernel_rfl) k p hk; simpa using this) (by kernel_rfl) fk5_0_z ps K
theorem fk5_1_z : ((Rope.one (V.s (.int .u8 0))).rep 1).toList = (List.replicate 1 (Rope.one (V.s (.int .u8 0))).toList).flatten := by kernel_rfl
@[simp] theorem fk5_1 (ps : List (Nat × V)) (K : List V → Prop) : fillK 1 ((Rope.one (V.s (.int .u8 0))).rep 1) ps K = fillLK (fillL [(0, 1)] (List.replicate 1 (Rope.one (V.s (.int .u8 0))).toList).flatten ps) K (fillKF 1 ((Rope.one (V.s (.int .u8 0))).rep 1) ps K) :=
  fillK_eq (offs := [(0, 1)]) (fun k p hk => by have := offsAB_spec (show offsAB 1 0 [(0, 1)] = true by kernel_rfl) k p hk; simpa using this) (by kernel_rfl) fk5_1_z ps K
/-! F3 lockgate/lockgatelaw16.HelperCopies -/
theorem F3 : CC.F.get 3 = some Go.Proofs.Tryz.f3 := by kernel_rfl
theorem F3_eq (t0 t1 t2 t3 : V) (h : Heap) (n : Nat) (K : V → Heap → Nat → Prop) : Wp CC (bodyOf Go.Proofs.Tryz.f3) ⟨initTm Go.Proofs.Tryz.f3 [t0, t1, t2, t3], h, n, []⟩ (retW CC Go.Proofs.Tryz.f3 K) = (
CallK CC 8 [(.s (.int .i64 64))] h n fun v1 h2 n3 =>
oK (normO (build CC 30 [(1, t0), (4, v1)])) fun v4 =>
let h5 := h2.set n3 (.cells (.lst (zr CC 30).toList) 8); let n6 := n3 + 1;
oK (asPtr (.ptr n3 0)) fun p7 => oK (store CC h5 30 p7.1 p7.2 v4) fun h8 =>
oK (normO (rLoad CC 30 h8 (.ptr n3 0))) fun v9 =>
CallK CC 9 [v9, (.s (.slice none 0 0))] h8 n6 fun v10 h11 n12 =>
oK (asBool v10) fun b13 => bif b13 then (
CallK CC 10 [] h11 n12 fun v14 h15 n16 =>
K v14 h15 n16) else (
oK (normO (rLoad CC 30 h11 (.ptr n3 0))) fun v17 =>
CallK CC 11 [v17] h11 n12 fun v18 h19 n20 =>
oK (rExt v18 0) fun v21 =>
oK (rExt v18 1) fun v22 =>
oK (binop CC .eql 33 true v21 (.s (.pointer none))) fun v23 =>
oK (asBool v23) fun b24 => bif b24 then (
CallK CC 10 [] h19 n20 fun v25 h26 n27 =>
K v25 h26 n27) else (
oK (normO (build CC 28 [(0, (.s (.int .i64 1))), (1, t1)])) fun v28 =>
oK (rNil v22) fun v29 =>
oK (rFA CC 43 3 v29) fun v30 =>
oK (indexAddr CC 37 v30 (.s (.int .i64 2))) fun v31 =>
oK (asPtr v31) fun p32 => oK (store CC h19 28 p32.1 p32.2 v28) fun h33 =>
oK (rNil v22) fun v34 =>
oK (rFA CC 43 3 v34) fun v35 =>
CallK CC 12 [t2] h33 (n20 + 7) fun v36 h37 n38 =>
(True) ∧
oK (indexAddr CC 37 v35 (.s (.int .i64 3))) fun v39 =>
oK (asPtr v39) fun p40 => oK (store CC h37 28 p40.1 p40.2 v36) fun h41 =>
(True) ∧
oK (rNil v22) fun v42 =>
oK (rFA CC 43 3 v42) fun v43 =>
CallK CC 13 [t3] h41 (n38 + 7) fun v44 h45 n46 =>
(True) ∧
oK (indexAddr CC 37 v43 (.s (.int .i64 4))) fun v47 =>
oK (asPtr v47) fun p48 => oK (store CC h45 28 p48.1 p48.2 v44) fun h49 =>
(True) ∧
oK (rNil v22) fun v50 =>
oK (normO (rLoad CC 43 h49 v50)) fun v51 =>
let h52 := h49.set n46 (.cells (.lst (zr CC 43).toList) 804); let n53 := n46 + 1;
oK (asPtr (.ptr n46 0)) fun p54 => oK (store CC h52 43 p54.1 p54.2 v51) fun h55 =>
CallK CC 14 [v21, v22, (.s (.int .i64 7))] h55 n53 fun v56 h57 n58 =>
oK (rExt v56 0) fun v59 =>
oK (rExt v56 1) fun v60 =>
oK (binop CC .lss 3 true t3 (.s (.int .i64 1))) fun v61 =>
oK (bif (rWant false v61) then some t3 else some undefV) fun v62 =>
oK (bif (rWant false v61) then binop CC .gtr 3 true v62 (.s (.int .i64 64)) else some undefV) fun v63 =>
oK (rPick v61 (.s (.bool true)) v63) fun v64 =>
oK (asBool v64) fun b65 => bif b65 then (
oK (binop CC .eql 45 true v60 (.s (.int .i64 25))) fun v66 =>
oK (bif (rWant true v66) then some v22 else some undefV) fun v67 =>
oK (bif (rWant true v66) then rNil v67 else some undefV) fun v68 =>
oK ((bif (rWant true v66) then normO (rLoad CC 43 h57 v68) else some undefV)) fun v69 =>
oK ((bif (rWant true v66) then normO (rLoad CC 43 h57 (.ptr n46 0)) else some undefV)) fun v70 =>
oK (bif (rWant true v66) then binop CC .eql 43 false v69 v70 else some undefV) fun v71 =>
oK (rPick v66 v71 (.s (.bool false))) fun v72 =>
let k73 := fun (v74 : V) (h75 : Heap) (n76 : Nat) => (
(True ∧ True ∧ True) ∧
oK (rPick v72 v74 (.s (.bool false))) fun v77 =>
K v77 h75 n76);
bif (rWant true v72) then (CallK CC 10 [] h57 (n58 + 13) fun v78 h79 n80 =>
k73 v78 h79 n80) else k73 undefV h57 (n58 + 13)) else (
oK (binop CC .lss 3 true t2 (.s (.int .i64 (-512)))) fun v81 =>
oK (bif (rWant false v81) then some t2 else some undefV) fun v82 =>
oK (bif (rWant false v81) then some t3 else some undefV) fun v83 =>
oK (bif (rWant false v81) then rUn CC .neg v83 else some undefV) fun v84 =>
oK (bif (rWant false v81) then binop CC .gtr 3 false v82 v84 else some undefV) fun v85 =>
oK (rPick v81 (.s (.bool true)) v85) fun v86 =>
oK (asBool v86) fun b87 => bif b87 then (
oK (binop CC .eql 45 true v60 (.s (.int .i64 22))) fun v88 =>
oK (bif (rWant true v88) then some v22 else some undefV) fun v89 =>
oK (bif (rWant true v88) then rNil v89 else some undefV) fun v90 =>
oK ((bif (rWant true v88) then normO (rLoad CC 43 h57 v90) else some undefV)) fun v91 =>
oK ((bif (rWant true v88) then normO (rLoad CC 43 h57 (.ptr n46 0)) else some undefV)) fun v92 =>
oK (bif (rWant true v88) then binop CC .eql 43 false v91 v92 else some undefV) fun v93 =>
oK (rPick v88 v93 (.s (.bool false))) fun v94 =>
let k95 := fun (v96 : V) (h97 : Heap) (n98 : Nat) => (
(True ∧ True ∧ True) ∧
oK (rPick v94 v96 (.s (.bool false))) fun v99 =>
K v99 h97 n98);
bif (rWant true v94) then (CallK CC 10 [] h57 (n58 + 13) fun v100 h101 n102 =>
k95 v100 h101 n102) else k95 undefV h57 (n58 + 13)) else (
oK (lenV CC h57 22 t0) fun v103 =>
oK (convert CC h57 3 23 v103) fun v104 =>
oK (binop CC .leq 23 false t1 v104) fun v105 =>
oK (bif (rWant true v105) then some t3 else some undefV) fun v106 =>
oK (bif (rWant true v105) then convert CC h57 3 23 v106 else some undefV) fun v107 =>
oK (bif (rWant true v105) then some t0 else some undefV) fun v108 =>
oK (bif (rWant true v105) then lenV CC h57 22 v108 else some undefV) fun v109 =>
oK (bif (rWant true v105) then convert CC h57 3 23 v109 else some undefV) fun v110 =>
oK (bif (rWant true v105) then some t1 else some undefV) fun v111 =>
oK (bif (rWant true v105) then binop CC .sub 23 false v110 v111 else some undefV) fun v112 =>
oK (bif (rWant true v105) then binop CC .leq 23 false v107 v112 else some undefV) fun v113 =>
oK (rPick v105 v113 (.s (.bool false))) fun v114 =>
CallK CC 12 [t2] h57 n58 fun v115 h116 n117 =>
CallK CC 15 [v21, v22, v115, t3] h116 n117 fun v118 h119 n120 =>
oK (rExt v118 0) fun v121 =>
oK (rExt v118 1) fun v122 =>
oK (binop CC .neq 45 true v60 (.s (.int .i64 0))) fun v123 =>
oK (bif (rWant false v123) then some v122 else some undefV) fun v124 =>
oK (bif (rWant false v123) then binop CC .neq 45 true v124 (.s (.int .i64 0)) else some undefV) fun v125 =>
oK (rPick v123 (.s (.bool true)) v125) fun v126 =>
oK (bif (rWant false v126) then some v121 else some undefV) fun v127 =>
oK ((bif (rWant false v126) then lenV CC h119 22 v127 else some undefV)) fun v128 =>
oK (bif (rWant false v126) then some t3 else some undefV) fun v129 =>
oK (bif (rWant false v126) then binop CC .neq 3 false v128 v129 else some undefV) fun v130 =>
oK (rPick v126 (.s (.bool true)) v130) fun v131 =>
oK (bif (rWant false v131) then some v22 else some undefV) fun v132 =>
oK (bif (rWant false v131) then rNil v132 else some undefV) fun v133 =>
oK (bif (rWant false v131) then rFA CC 43 3 v133 else some undefV) fun v134 =>
oK (bif (rWant false v131) then indexAddr CC 37 v134 (.s (.int .i64 0)) else some undefV) fun v135 =>
oK ((bif (rWant false v131) then normO (rLoad CC 28 h119 v135) else some undefV)) fun v136 =>
oK (bif (rWant false v131) then some v114 else some undefV) fun v137 =>
let k138 := fun (v139 : V) (h140 : Heap) (n141 : Nat) => (
((bif (rWant false v131) then normO (rLoad CC 28 h140 v135) else some undefV) = some v136 ∧ True ∧ True) ∧
oK (bif (rWant false v131) then binop CC .eql 28 false v136 v139 else some undefV) fun v142 =>
oK (bif (rWant false v131) then binop CC .neq 4 false v142 v137 else some undefV) fun v143 =>
oK (rPick v131 (.s (.bool true)) v143) fun v144 =>
oK (asBool v144) fun b145 => bif b145 then (
K (.s (.bool false)) h140 n141) else (
LoopK CC none (subC [1, 1, 1, 1, 1, 1, 1, 1, 1, 1, 1, 1, 1, 1, 1, 0, 1, 0, 0] (bodyOf Go.Proofs.Tryz.f3)) ⟨mkTm [t0, t1, t2, t3, undefV, undefV, undefV, undefV, (.s (.bool false)), (.ptr n3 0), v21, v22, (.ptr n46 0), v59, v60, v114, v121, v122, (.s (.int .i64 0)), undefV, undefV, undefV, undefV, undefV, undefV, t0, v1, v4, v9, v10, undefV, v18, v17, v18, v21, v22, v21, v23, undefV, v22, t1, v28, v29, v30, v31, v22, t2, v36, v34, v35, v39, v22, t3, v44, v42, v43, v47, v22, v50, v51, v56, v21, v22, v56, v59, v60, t3, v61, v61, v62, v63, v64, undefV, undefV, undefV, undefV, undefV, undefV, undefV, undefV, undefV, undefV, undefV, undefV, t2, v81, v81, v82, v83, v84, v85, v86, undefV, undefV, undefV, undefV, undefV, undefV, undefV, undefV, undefV, undefV, undefV, undefV, t1, t0, v103, v104, v105, v105, v106, v107, v108, v109, v110, v111, v112, v113, v114, v118, v21, v22, t2, v115, t3, v118, v121, v122, v60, v123, v123, v124, v125, v126, v126, v127, v128, v129, v130, v131, v131, v132, v133, v134, v135, v136, v139, v142, v137, v143, v144, undefV, undefV, undefV, undefV, undefV, undefV, undefV, undefV, undefV, undefV, undefV, undefV, undefV, undefV, undefV, undefV, undefV, undefV, undefV, undefV, undefV, undefV, undefV, undefV, undefV, undefV, undefV, undefV, undefV, undefV, undefV, undefV, undefV, undefV, undefV, undefV, undefV, undefV, undefV, undefV, undefV, undefV, undefV, undefV, undefV, undefV, undefV, undefV, undefV, undefV, undefV, undefV, undefV, undefV, undefV, undefV, undefV, undefV, undefV, undefV], h140, n141, []⟩ (resume CC none [.blk 0, .sq (subC [1, 1, 1, 1, 1, 1, 1, 1, 1, 1, 1, 1, 1, 1, 1, 1] (bodyOf Go.Proofs.Tryz.f3))] (retW CC Go.Proofs.Tryz.f3 K))));
bif (rWant false v131) then (CallK CC 13 [(.s (.int .i64 0))] h119 (n120 + 23) fun v146 h147 n148 =>
k138 v146 h147 n148) else k138 undefV h119 (n120 + 23)))))) := Wp.eq_of (by kernel_rfl)
theorem F3_call {t0 t1 t2 t3 : V} {h : Heap} {n : Nat} {K : V → Heap → Nat → Prop} (H : (∀ b o, h.get b = some o → b < n) → Wp CC (bodyOf Go.Proofs.Tryz.f3) ⟨initTm Go.Proofs.Tryz.f3 [t0, t1, t2, t3], h, n, []⟩ (retW CC Go.Proofs.Tryz.f3 K)) : CallK CC 3 [t0, t1, t2, t3] h n K := by
  have := @callK_of CC CCok 3 Go.Proofs.Tryz.f3 (bodyOf Go.Proofs.Tryz.f3) [t0, t1, t2, t3] h n K F3
  refine this ?_ ?_ ?_
  · kernel_rfl
  · kernel_rfl
  · exact H

def F3_L1111111111111110100 (t0 t1 t2 t3 t10 t11 t12 t15 t16 t18 : V) (h : Heap) (n : Nat) (s : St) : Prop := ∃ f : Nat → V, s = ⟨mkTm [t0, t1, t2, t3, (f 4), (f 5), (f 6), (f 7), (f 8), (f 9), t10, t11, t12, (f 13), (f 14), t15, t16, (f 17), t18, (f 19), (f 20), (f 21), (f 22), (f 23), (f 24), (f 25), (f 26), (f 27), (f 28), (f 29), (f 30), (f 31), (f 32), (f 33), (f 34), (f 35), (f 36), (f 37), (f 38), (f 39), (f 40), (f 41), (f 42), (f 43), (f 44), (f 45), (f 46), (f 47), (f 48), (f 49), (f 50), (f 51), (f 52), (f 53), (f 54), (f 55), (f 56), (f 57), (f 58), (f 59), (f 60), (f 61), (f 62), (f 63), (f 64), (f 65), (f 66), (f 67), (f 68), (f 69), (f 70), (f 71), (f 72), (f 73), (f 74), (f 75), (f 76), (f 77), (f 78), (f 79), (f 80), (f 81), (f 82), (f 83), (f 84), (f 85), (f 86), (f 87), (f 88), (f 89), (f 90), (f 91), (f 92), (f 93), (f 94), (f 95), (f 96), (f 97), (f 98), (f 99), (f 100), (f 101), (f 102), (f 103), (f 104), (f 105), (f 106), (f 107), (f 108), (f 109), (f 110), (f 111), (f 112), (f 113), (f 114), (f 115), (f 116), (f 117), (f 118), (f 119), (f 120), (f 121), (f 122), (f 123), (f 124), (f 125), (f 126), (f 127), (f 128), (f 129), (f 130), (f 131), (f 132), (f 133), (f 134), (f 135), (f 136), (f 137), (f 138), (f 139), (f 140), (f 141), (f 142), (f 143), (f 144), (f 145), (f 146), (f 147), (f 148), (f 149), (f 150), (f 151), (f 152), (f 153), (f 154), (f 155), (f 156), (f 157), (f 158), (f 159), (f 160), (f 161), (f 162), (f 163), (f 164), (f 165), (f 166), (f 167), (f 168), (f 169), (f 170), (f 171), (f 172), (f 173), (f 174), (f 175), (f 176), (f 177), (f 178), (f 179), (f 180), (f 181), (f 182), (f 183), (f 184), (f 185), (f 186), (f 187), (f 188), (f 189), (f 190), (f 191), (f 192), (f 193), (f 194), (f 195), (f 196), (f 197), (f 198), (f 199), (f 200), (f 201), (f 202), (f 203), (f 204), (f 205), (f 206), (f 207), (f 208), (f 209), (f 210)], h, n, []⟩
theorem F3_L1111111111111110100_of {t0 t1 t2 t3 t10 t11 t12 t15 t16 t18 : V} {t4 t5 t6 t7 t8 t9 t13 t14 t17 t19 t20 t21 t22 t23 t24 t25 t26 t27 t28 t29 t30 t31 t32 t33 t34 t35 t36 t37 t38 t39 t40 t41 t42 t43 t44 t45 t46 t47 t48 t49 t50 t51 t52 t53 t54 t55 t56 t57 t58 t59 t60 t61 t62 t63 t64 t65 t66 t67 t68 t69 t70 t71 t72 t73 t74 t75 t76 t77 t78 t79 t80 t81 t82 t83 t84 t85 t86 t87 t88 t89 t90 t91 t92 t93 t94 t95 t96 t97 t98 t99 t100 t101 t102 t103 t104 t105 t106 t107 t108 t109 t110 t111 t112 t113 t114 t115 t116 t117 t118 t119 t120 t121 t122 t123 t124 t125 t126 t127 t128 t129 t130 t131 t132 t133 t134 t135 t136 t137 t138 t139 t140 t141 t142 t143 t144 t145 t146 t147 t148 t149 t150 t151 t152 t153 t154 t155 t156 t157 t158 t159 t160 t161 t162 t163 t164 t165 t166 t167 t168 t169 t170 t171 t172 t173 t174 t175 t176 t177 t178 t179 t180 t181 t182 t183 t184 t185 t186 t187 t188 t189 t190 t191 t192 t193 t194 t195 t196 t197 t198 t199 t200 t201 t202 t203 t204 t205 t206 t207 t208 t209 t210 : V} {h : Heap} {n : Nat} : F3_L1111111111111110100 t0 t1 t2 t3 t10 t11 t12 t15 t16 t18 h n ⟨mkTm [t0, t1, t2, t3, t4, t5, t6, t7, t8, t9, t10, t11, t12, t13, t14, t15, t16, t17, t18, t19, t20, t21, t22, t23, t24, t25, t26, t27, t28, t29, t30, t31, t32, t33, t34, t35, t36, t37, t38, t39, t40, t41, t42, t43, t44, t45, t46, t47, t48, t49, t50, t51, t52, t53, t54, t55, t56, t57, t58, t59, t60, t61, t62, t63, t64, t65, t66, t67, t68, t69, t70, t71, t72, t73, t74, t75, t76, t77, t78, t79, t80, t81, t82, t83, t84, t85, t86, t87, t88, t89, t90, t91, t92, t93, t94, t95, t96, t97, t98, t99, t100, t101, t102, t103, t104, t105, t106, t107, t108, t109, t110, t111, t112, t113, t114, t115, t116, t117, t118, t119, t120, t121, t122, t123, t124, t125, t126, t127, t128, t129, t130, t131, t132, t133, t134, t135, t136, t137, t138, t139, t140, t141, t142, t143, t144, t145, t146, t147, t148, t149, t150, t151, t152, t153, t154, t155, t156, t157, t158, t159, t160, t161, t162, t163, t164, t165, t166, t167, t168, t169, t170, t171, t172, t173, t174, t175, t176, t177, t178, t179, t180, t181, t182, t183, t184, t185, t186, t187, t188, t189, t190, t191, t192, t193, t194, t195, t196, t197, t198, t199, t200, t201, t202, t203, t204, t205, t206, t207, t208, t209, t210], h, n, []⟩ :=
  ⟨fun i => ([t0, t1, t2, t3, t4, t5, t6, t7, t8, t9, t10, t11, t12, t13, t14, t15, t16, t17, t18, t19, t20, t21, t22, t23, t24, t25, t26, t27, t28, t29, t30, t31, t32, t33, t34, t35, t36, t37, t38, t39, t40, t41, t42, t43, t44, t45, t46, t47, t48, t49, t50, t51, t52, t53, t54, t55, t56, t57, t58, t59, t60, t61, t62, t63, t64, t65, t66, t67, t68, t69, t70, t71, t72, t73, t74, t75, t76, t77, t78, t79, t80, t81, t82, t83, t84, t85, t86, t87, t88, t89, t90, t91, t92, t93, t94, t95, t96, t97, t98, t99, t100, t101, t102, t103, t104, t105, t106, t107, t108, t109, t110, t111, t112, t113, t114, t115, t116, t117, t118, t119, t120, t121, t122, t123, t124, t125, t126, t127, t128, t129, t130, t131, t132, t133, t134, t135, t136, t137, t138, t139, t140, t141, t142, t143, t144, t145, t146, t147, t148, t149, t150, t151, t152, t153, t154, t155, t156, t157, t158, t159, t160, t161, t162, t163, t164, t165, t166, t167, t168, t169, t170, t171, t172, t173, t174, t175, t176, t177, t178, t179, t180, t181, t182, t183, t184, t185, t186, t187, t188, t189, t190, t191, t192, t193, t194, t195, t196, t197, t198, t199, t200, t201, t202, t203, t204, t205, t206, t207, t208, t209, t210] : List V).getD i undefV, by kernel_rfl⟩
theorem F3_L1111111111111110100_elim {t0 t1 t2 t3 t10 t11 t12 t15 t16 t18 : V} {h : Heap} {n : Nat} {s : St} {P : St → Prop} (hs : F3_L1111111111111110100 t0 t1 t2 t3 t10 t11 t12 t15 t16 t18 h n s) (H : ∀ t4 t5 t6 t7 t8 t9 t13 t14 t17 t19 t20 t21 t22 t23 t24 t25 t26 t27 t28 t29 t30 t31 t32 t33 t34 t35 t36 t37 t38 t39 t40 t41 t42 t43 t44 t45 t46 t47 t48 t49 t50 t51 t52 t53 t54 t55 t56 t57 t58 t59 t60 t61 t62 t63 t64 t65 t66 t67 t68 t69 t70 t71 t72 t73 t74 t75 t76 t77 t78 t79 t80 t81 t82 t83 t84 t85 t86 t87 t88 t89 t90 t91 t92 t93 t94 t95 t96 t97 t98 t99 t100 t101 t102 t103 t104 t105 t106 t107 t108 t109 t110 t111 t112 t113 t114 t115 t116 t117 t118 t119 t120 t121 t122 t123 t124 t125 t126 t127 t128 t129 t130 t131 t132 t133 t134 t135 t136 t137 t138 t139 t140 t141 t142 t143 t144 t145 t146 t147 t148 t149 t150 t151 t152 t153 t154 t155 t156 t157 t158 t159 t160 t161 t162 t163 t164 t165 t166 t167 t168 t169 t170 t171 t172 t173 t174 t175 t176 t177 t178 t179 t180 t181 t182 t183 t184 t185 t186 t187 t188 t189 t190 t191 t192 t193 t194 t195 t196 t197 t198 t199 t200 t201 t202 t203 t204 t205 t206 t207 t208 t209 t210 : V, P ⟨mkTm [t0, t1, t2, t3, t4, t5, t6, t7, t8, t9, t10, t11, t12, t13, t14, t15, t16, t17, t18, t19, t20, t21, t22, t23, t24, t25, t26, t27, t28, t29, t30, t31, t32, t33, t34, t35, t36, t37, t38, t39, t40, t41, t42, t43, t44, t45, t46, t47, t48, t49, t50, t51, t52, t53, t54, t55, t56, t57, t58, t59, t60, t61, t62, t63, t64, t65, t66, t67, t68, t69, t70, t71, t72, t73, t74, t75, t76, t77, t78, t79, t80, t81, t82, t83, t84, t85, t86, t87, t88, t89, t90, t91, t92, t93, t94, t95, t96, t97, t98, t99, t100, t101, t102, t103, t104, t105, t106, t107, t108, t109, t110, t111, t112, t113, t114, t115, t116, t117, t118, t119, t120, t121, t122, t123, t124, t125, t126, t127, t128, t129, t130, t131, t132, t133, t134, t135, t136, t137, t138, t139, t140, t141, t142, t143, t144, t145, t146, t147, t148, t149, t150, t151, t152, t153, t154, t155, t156, t157, t158, t159, t160, t161, t162, t163, t164, t165, t166, t167, t168, t169, t170, t171, t172, t173, t174, t175, t176, t177, t178, t179, t180, t181, t182, t183, t184, t185, t186, t187, t188, t189, t190, t191, t192, t193, t194, t195, t196, t197, t198, t199, t200, t201, t202, t203, t204, t205, t206, t207, t208, t209, t210], h, n, []⟩) : P s := by
  obtain ⟨f, rfl⟩ := hs
  exact H (f 4) (f 5) (f 6) (f 7) (f 8) (f 9) (f 13) (f 14) (f 17) (f 19) (f 20) (f 21) (f 22) (f 23) (f 24) (f 25) (f 26) (f 27) (f 28) (f 29) (f 30) (f 31) (f 32) (f 33) (f 34) (f 35) (f 36) (f 37) (f 38) (f 39) (f 40) (f 41) (f 42) (f 43) (f 44) (f 45) (f 46) (f 47) (f 48) (f 49) (f 50) (f 51) (f 52) (f 53) (f 54) (f 55) (f 56) (f 57) (f 58) (f 59) (f 60) (f 61) (f 62) (f 63) (f 64) (f 65) (f 66) (f 67) (f 68) (f 69) (f 70) (f 71) (f 72) (f 73) (f 74) (f 75) (f 76) (f 77) (f 78) (f 79) (f 80) (f 81) (f 82) (f 83) (f 84) (f 85) (f 86) (f 87) (f 88) (f 89) (f 90) (f 91) (f 92) (f 93) (f 94) (f 95) (f 96) (f 97) (f 98) (f 99) (f 100) (f 101) (f 102) (f 103) (f 104) (f 105) (f 106) (f 107) (f 108) (f 109) (f 110) (f 111) (f 112) (f 113) (f 114) (f 115) (f 116) (f 117) (f 118) (f 119) (f 120) (f 121) (f 122) (f 123) (f 124) (f 125) (f 126) (f 127) (f 128) (f 129) (f 130) (f 131) (f 132) (f 133) (f 134) (f 135) (f 136) (f 137) (f 138) (f 139) (f 140) (f 141) (f 142) (f 143) (f 144) (f 145) (f 146) (f 147) (f 148) (f 149) (f 150) (f 151) (f 152) (f 153) (f 154) (f 155) (f 156) (f 157) (f 158) (f 159) (f 160) (f 161) (f 162) (f 163) (f 164) (f 165) (f 166) (f 167) (f 168) (f 169) (f 170) (f 171) (f 172) (f 173) (f 174) (f 175) (f 176) (f 177) (f 178) (f 179) (f 180) (f 181) (f 182) (f 183) (f 184) (f 185) (f 186) (f 187) (f 188) (f 189) (f 190) (f 191) (f 192) (f 193) (f 194) (f 195) (f 196) (f 197) (f 198) (f 199) (f 200) (f 201) (f 202) (f 203) (f 204) (f 205) (f 206) (f 207) (f 208) (f 209) (f 210)

theorem F3_b1111111111111110100 (t0 t1 t2 t3 t4 t5 t6 t7 t8 t9 t10 t11 t12 t13 t14 t15 t16 t17 t18 t19 t20 t21 t22 t23 t24 t25 t26 t27 t28 t29 t30 t31 t32 t33 t34 t35 t36 t37 t38 t39 t40 t41 t42 t43 t44 t45 t46 t47 t48 t49 t50 t51 t52 t53 t54 t55 t56 t57 t58 t59 t60 t61 t62 t63 t64 t65 t66 t67 t68 t69 t70 t71 t72 t73 t74 t75 t76 t77 t78 t79 t80 t81 t82 t83 t84 t85 t86 t87 t88 t89 t90 t91 t92 t93 t94 t95 t96 t97 t98 t99 t100 t101 t102 t103 t104 t105 t106 t107 t108 t109 t110 t111 t112 t113 t114 t115 t116 t117 t118 t119 t120 t121 t122 t123 t124 t125 t126 t127 t128 t129 t130 t131 t132 t133 t134 t135 t136 t137 t138 t139 t140 t141 t142 t143 t144 t145 t146 t147 t148 t149 t150 t151 t152 t153 t154 t155 t156 t157 t158 t159 t160 t161 t162 t163 t164 t165 t166 t167 t168 t169 t170 t171 t172 t173 t174 t175 t176 t177 t178 t179 t180 t181 t182 t183 t184 t185 t186 t187 t188 t189 t190 t191 t192 t193 t194 t195 t196 t197 t198 t199 t200 t201 t202 t203 t204 t205 t206 t207 t208 t209 t210 : V) (h : Heap) (n : Nat) (Q : X → St → Prop) : Wp CC (subC [1, 1, 1, 1, 1, 1, 1, 1, 1, 1, 1, 1, 1, 1, 1, 0, 1, 0, 0] (bodyOf Go.Proofs.Tryz.f3)) ⟨mkTm [t0, t1, t2, t3, t4, t5, t6, t7, t8, t9, t10, t11, t12, t13, t14, t15, t16, t17, t18, t19, t20, t21, t22, t23, t24, t25, t26, t27, t28, t29, t30, t31, t32, t33, t34, t35, t36, t37, t38, t39, t40, t41, t42, t43, t44, t45, t46, t47, t48, t49, t50, t51, t52, t53, t54, t55, t56, t57, t58, t59, t60, t61, t62, t63, t64, t65, t66, t67, t68, t69, t70, t71, t72, t73, t74, t75, t76, t77, t78, t79, t80, t81, t82, t83, t84, t85, t86, t87, t88, t89, t90, t91, t92, t93, t94, t95, t96, t97, t98, t99, t100, t101, t102, t103, t104, t105, t106, t107, t108, t109, t110, t111, t112, t113, t114, t115, t116, t117, t118, t119, t120, t121, t122, t123, t124, t125, t126, t127, t128, t129, t130, t131, t132, t133, t134, t135, t136, t137, t138, t139, t140, t141, t142, t143, t144, t145, t146, t147, t148, t149, t150, t151, t152, t153, t154, t155, t156, t157, t158, t159, t160, t161, t162, t163, t164, t165, t166, t167, t168, t169, t170, t171, t172, t173, t174, t175, t176, t177, t178, t179, t180, t181, t182, t183, t184, t185, t186, t187, t188, t189, t190, t191, t192, t193, t194, t195, t196, t197, t198, t199, t200, t201, t202, t203, t204, t205, t206, t207, t208, t209, t210], h, n, []⟩ Q = (
oK (binop CC .lss 3 false t18 t3) fun v149 =>
oK (asBool v149) fun b150 => bif b150 then (
oK (asBool t15) fun b151 => bif b151 then (
oK (convert CC h 23 3 t1) fun v152 =>
oK (binop CC .add 3 false v152 t18) fun v153 =>
oK (indexAddr CC 22 t0 v153) fun v154 =>
oK (normO (rLoad CC 5 h v154)) fun v155 =>
oK (indexAddr CC 22 t16 t18) fun v156 =>
oK (normO (rLoad CC 5 h v156)) fun v157 =>
oK (binop CC .neq 5 false v157 v155) fun v158 =>
oK (asBool v158) fun b159 => bif b159 then (
Q .ret ⟨mkTm [t0, t1, t2, t3, t4, t5, t6, t7, (.s (.bool false)), t9, t10, t11, t12, t13, t14, t15, t16, t17, t18, v155, t20, t21, t22, t23, t24, t25, t26, t27, t28, t29, t30, t31, t32, t33, t34, t35, t36, t37, t38, t39, t40, t41, t42, t43, t44, t45, t46, t47, t48, t49, t50, t51, t52, t53, t54, t55, t56, t57, t58, t59, t60, t61, t62, t63, t64, t65, t66, t67, t68, t69, t70, t71, t72, t73, t74, t75, t76, t77, t78, t79, t80, t81, t82, t83, t84, t85, t86, t87, t88, t89, t90, t91, t92, t93, t94, t95, t96, t97, t98, t99, t100, t101, t102, t103, t104, t105, t106, t107, t108, t109, t110, t111, t112, t113, t114, t115, t116, t117, t118, t119, t120, t121, t122, t123, t124, t125, t126, t127, t128, t129, t130, t131, t132, t133, t134, t135, t136, t137, t138, t139, t140, t141, t142, t143, t144, t145, t146, t147, t148, t149, t150, t18, t3, v149, t154, t155, t15, t0, t1, v152, t18, v153, v154, v155, t16, t18, v156, v157, v155, v158, t170, t171, t172, t173, t174, t175, t176, t177, t178, t179, t180, t181, t182, t183, t184, t185, t186, t187, t188, t189, t190, t191, t192, t193, t194, t195, t196, t197, t198, t199, t200, t201, t202, t203, t204, t205, t206, t207, t208, t209, t210], h, n, []⟩) else (
oK (binop CC .add 3 true t18 (.s (.int .i64 1))) fun v160 =>
Q .normal ⟨mkTm [t0, t1, t2, t3, t4, t5, t6, t7, t8, t9, t10, t11, t12, t13, t14, t15, t16, t17, v160, v155, t20, t21, t22, t23, t24, t25, t26, t27, t28, t29, t30, t31, t32, t33, t34, t35, t36, t37, t38, t39, t40, t41, t42, t43, t44, t45, t46, t47, t48, t49, t50, t51, t52, t53, t54, t55, t56, t57, t58, t59, t60, t61, t62, t63, t64, t65, t66, t67, t68, t69, t70, t71, t72, t73, t74, t75, t76, t77, t78, t79, t80, t81, t82, t83, t84, t85, t86, t87, t88, t89, t90, t91, t92, t93, t94, t95, t96, t97, t98, t99, t100, t101, t102, t103, t104, t105, t106, t107, t108, t109, t110, t111, t112, t113, t114, t115, t116, t117, t118, t119, t120, t121, t122, t123, t124, t125, t126, t127, t128, t129, t130, t131, t132, t133, t134, t135, t136, t137, t138, t139, t140, t141, t142, t143, t144, t145, t146, t147, t148, t149, t150, t18, t3, v149, t18, v160, t15, t0, t1, v152, t18, v153, v154, v155, t16, t18, v156, v157, v155, v158, t170, t171, t172, t173, t174, t175, t176, t177, t178, t179, t180, t181, t182, t183, t184, t185, t186, t187, t188, t189, t190, t191, t192, t193, t194, t195, t196, t197, t198, t199, t200, t201, t202, t203, t204, t205, t206, t207, t208, t209, t210], h, n, []⟩)) else (
oK (indexAddr CC 22 t16 t18) fun v161 =>
oK (normO (rLoad CC 5 h v161)) fun v162 =>
oK (binop CC .neq 5 false v162 (.s (.int .u8 0))) fun v163 =>
oK (asBool v163) fun b164 => bif b164 then (
Q .ret ⟨mkTm [t0, t1, t2, t3, t4, t5, t6, t7, (.s (.bool false)), t9, t10, t11, t12, t13, t14, t15, t16, t17, t18, (.s (.int .u8 0)), t20, t21, t22, t23, t24, t25, t26, t27, t28, t29, t30, t31, t32, t33, t34, t35, t36, t37, t38, t39, t40, t41, t42, t43, t44, t45, t46, t47, t48, t49, t50, t51, t52, t53, t54, t55, t56, t57, t58, t59, t60, t61, t62, t63, t64, t65, t66, t67, t68, t69, t70, t71, t72, t73, t74, t75, t76, t77, t78, t79, t80, t81, t82, t83, t84, t85, t86, t87, t88, t89, t90, t91, t92, t93, t94, t95, t96, t97, t98, t99, t100, t101, t102, t103, t104, t105, t106, t107, t108, t109, t110, t111, t112, t113, t114, t115, t116, t117, t118, t119, t120, t121, t122, t123, t124, t125, t126, t127, t128, t129, t130, t131, t132, t133, t134, t135, t136, t137, t138, t139, t140, t141, t142, t143, t144, t145, t146, t147, t148, t149, t150, t18, t3, v149, t154, t155, t15, t157, t158, t159, t160, t161, t162, t163, t16, t18, v161, v162, (.s (.int .u8 0)), v163, t170, t171, t172, t173, t174, t175, t176, t177, t178, t179, t180, t181, t182, t183, t184, t185, t186, t187, t188, t189, t190, t191, t192, t193, t194, t195, t196, t197, t198, t199, t200, t201, t202, t203, t204, t205, t206, t207, t208, t209, t210], h, n, []⟩) else (
oK (binop CC .add 3 true t18 (.s (.int .i64 1))) fun v165 =>
Q .normal ⟨mkTm [t0, t1, t2, t3, t4, t5, t6, t7, t8, t9, t10, t11, t12, t13, t14, t15, t16, t17, v165, (.s (.int .u8 0)), t20, t21, t22, t23, t24, t25, t26, t27, t28, t29, t30, t31, t32, t33, t34, t35, t36, t37, t38, t39, t40, t41, t42, t43, t44, t45, t46, t47, t48, t49, t50, t51, t52, t53, t54, t55, t56, t57, t58, t59, t60, t61, t62, t63, t64, t65, t66, t67, t68, t69, t70, t71, t72, t73, t74, t75, t76, t77, t78, t79, t80, t81, t82, t83, t84, t85, t86, t87, t88, t89, t90, t91, t92, t93, t94, t95, t96, t97, t98, t99, t100, t101, t102, t103, t104, t105, t106, t107, t108, t109, t110, t111, t112, t113, t114, t115, t116, t117, t118, t119, t120, t121, t122, t123, t124, t125, t126, t127, t128, t129, t130, t131, t132, t133, t134, t135, t136, t137, t138, t139, t140, t141, t142, t143, t144, t145, t146, t147, t148, t149, t150, t18, t3, v149, t18, v165, t15, t157, t158, t159, t160, t161, t162, t163, t16, t18, v161, v162, (.s (.int .u8 0)), v163, t170, t171, t172, t173, t174, t175, t176, t177, t178, t179, t180, t181, t182, t183, t184, t185, t186, t187, t188, t189, t190, t191, t192, t193, t194, t195, t196, t197, t198, t199, t200, t201, t202, t203, t204, t205, t206, t207, t208, t209, t210], h, n, []⟩))) else (
Q (.exit 0) ⟨mkTm [t0, t1, t2, t3, t4, t5, t6, t7, t8, t9, t10, t11, t12, t13, t14, t15, t16, t17, t18, t19, t20, t21, t22, t23, t24, t25, t26, t27, t28, t29, t30, t31, t32, t33, t34, t35, t36, t37, t38, t39, t40, t41, t42, t43, t44, t45, t46, t47, t48, t49, t50, t51, t52, t53, t54, t55, t56, t57, t58, t59, t60, t61, t62, t63, t64, t65, t66, t67, t68, t69, t70, t71, t72, t73, t74, t75, t76, t77, t78, t79, t80, t81, t82, t83, t84, t85, t86, t87, t88, t89, t90, t91, t92, t93, t94, t95, t96, t97, t98, t99, t100, t101, t102, t103, t104, t105, t106, t107, t108, t109, t110, t111, t112, t113, t114, t115, t116, t117, t118, t119, t120, t121, t122, t123, t124, t125, t126, t127, t128, t129, t130, t131, t132, t133, t134, t135, t136, t137, t138, t139, t140, t141, t142, t143, t144, t145, t146, t147, t148, t149, t150, t18, t3, v149, t154, t155, t156, t157, t158, t159, t160, t161, t162, t163, t164, t165, t166, t167, t168, t169, t170, t171, t172, t173, t174, t175, t176, t177, t178, t179, t180, t181, t182, t183, t184, t185, t186, t187, t188, t189, t190, t191, t192, t193, t194, t195, t196, t197, t198, t199, t200, t201, t202, t203, t204, t205, t206, t207, t208, t209, t210], h, n, []⟩)) := Wp.eq_of (by kernel_rfl)

theorem F3_r1111111111111110100_0 (t0 t1 t2 t3 t4 t5 t6 t7 t8 t9 t10 t11 t12 t13 t14 t15 t16 t17 t18 t19 t20 t21 t22 t23 t24 t25 t26 t27 t28 t29 t30 t31 t32 t33 t34 t35 t36 t37 t38 t39 t40 t41 t42 t43 t44 t45 t46 t47 t48 t49 t50 t51 t52 t53 t54 t55 t56 t57 t58 t59 t60 t61 t62 t63 t64 t65 t66 t67 t68 t69 t70 t71 t72 t73 t74 t75 t76 t77 t78 t79 t80 t81 t82 t83 t84 t85 t86 t87 t88 t89 t90 t91 t92 t93 t94 t95 t96 t97 t98 t99 t100 t101 t102 t103 t104 t105 t106 t107 t108 t109 t110 t111 t112 t113 t114 t115 t116 t117 t118 t119 t120 t121 t122 t123 t124 t125 t126 t127 t128 t129 t130 t131 t132 t133 t134 t135 t136 t137 t138 t139 t140 t141 t142 t143 t144 t145 t146 t147 t148 t149 t150 t151 t152 t153 t154 t155 t156 t157 t158 t159 t160 t161 t162 t163 t164 t165 t166 t167 t168 t169 t170 t171 t172 t173 t174 t175 t176 t177 t178 t179 t180 t181 t182 t183 t184 t185 t186 t187 t188 t189 t190 t191 t192 t193 t194 t195 t196 t197 t198 t199 t200 t201 t202 t203 t204 t205 t206 t207 t208 t209 t210 : V) (h : Heap) (n : Nat) (K : V → Heap → Nat → Prop) : resume CC none [.blk 0, .sq (subC [1, 1, 1, 1, 1, 1, 1, 1, 1, 1, 1, 1, 1, 1, 1, 1] (bodyOf Go.Proofs.Tryz.f3))] (retW CC Go.Proofs.Tryz.f3 K) (.exit 0) ⟨mkTm [t0, t1, t2, t3, t4, t5, t6, t7, t8, t9, t10, t11, t12, t13, t14, t15, t16, t17, t18, t19, t20, t21, t22, t23, t24, t25, t26, t27, t28, t29, t30, t31, t32, t33, t34, t35, t36, t37, t38, t39, t40, t41, t42, t43, t44, t45, t46, t47, t48, t49, t50, t51, t52, t53, t54, t55, t56, t57, t58, t59, t60, t61, t62, t63, t64, t65, t66, t67, t68, t69, t70, t71, t72, t73, t74, t75, t76, t77, t78, t79, t80, t81, t82, t83, t84, t85, t86, t87, t88, t89, t90, t91, t92, t93, t94, t95, t96, t97, t98, t99, t100, t101, t102, t103, t104, t105, t106, t107, t108, t109, t110, t111, t112, t113, t114, t115, t116, t117, t118, t119, t120, t121, t122, t123, t124, t125, t126, t127, t128, t129, t130, t131, t132, t133, t134, t135, t136, t137, t138, t139, t140, t141, t142, t143, t144, t145, t146, t147, t148, t149, t150, t151, t152, t153, t154, t155, t156, t157, t158, t159, t160, t161, t162, t163, t164, t165, t166, t167, t168, t169, t170, t171, t172, t173, t174, t175, t176, t177, t178, t179, t180, t181, t182, t183, t184, t185, t186, t187, t188, t189, t190, t191, t192, t193, t194, t195, t196, t197, t198, t199, t200, t201, t202, t203, t204, t205, t206, t207, t208, t209, t210], h, n, []⟩ = (
LoopK CC none (subC [1, 1, 1, 1, 1, 1, 1, 1, 1, 1, 1, 1, 1, 1, 1, 1, 0, 1, 0, 0] (bodyOf Go.Proofs.Tryz.f3)) ⟨mkTm [t0, t1, t2, t3, t4, t5, t6, t7, t8, t9, t10, t11, t12, t13, t14, t15, t16, t17, t18, t19, (.s (.int .i64 (-64))), t21, t22, t23, t24, t25, t26, t27, t28, t29, t30, t31, t32, t33, t34, t35, t36, t37, t38, t39, t40, t41, t42, t43, t44, t45, t46, t47, t48, t49, t50, t51, t52, t53, t54, t55, t56, t57, t58, t59, t60, t61, t62, t63, t64, t65, t66, t67, t68, t69, t70, t71, t72, t73, t74, t75, t76, t77, t78, t79, t80, t81, t82, t83, t84, t85, t86, t87, t88, t89, t90, t91, t92, t93, t94, t95, t96, t97, t98, t99, t100, t101, t102, t103, t104, t105, t106, t107, t108, t109, t110, t111, t112, t113, t114, t115, t116, t117, t118, t119, t120, t121, t122, t123, t124, t125, t126, t127, t128, t129, t130, t131, t132, t133, t134, t135, t136, t137, t138, t139, t140, t141, t142, t143, t144, t145, t146, t147, t148, t149, t150, t151, t152, t153, t154, t155, t156, t157, t158, t159, t160, t161, t162, t163, t164, t165, t166, t167, t168, t169, t170, t171, t172, t173, t174, t175, t176, t177, t178, t179, t180, t181, t182, t183, t184, t185, t186, t187, t188, t189, t190, t191, t192, t193, t194, t195, t196, t197, t198, t199, t200, t201, t202, t203, t204, t205, t206, t207, t208, t209, t210], h, n, []⟩ (resume CC none [.blk 2, .sq (subC [1, 1, 1, 1, 1, 1, 1, 1, 1, 1, 1, 1, 1, 1, 1, 1, 1] (bodyOf Go.Proofs.Tryz.f3))] (retW CC Go.Proofs.Tryz.f3 K))) := by kernel_rfl

def F3_L11111111111111110100 (t2 t3 t10 t11 t12 t20 : V) (h : Heap) (n : Nat) (s : St) : Prop := ∃ f : Nat → V, s = ⟨mkTm [(f 0), (f 1), t2, t3, (f 4), (f 5), (f 6), (f 7), (f 8), (f 9), t10, t11, t12, (f 13), (f 14), (f 15), (f 16), (f 17), (f 18), (f 19), t20, (f 21), (f 22), (f 23), (f 24), (f 25), (f 26), (f 27), (f 28), (f 29), (f 30), (f 31), (f 32), (f 33), (f 34), (f 35), (f 36), (f 37), (f 38), (f 39), (f 40), (f 41), (f 42), (f 43), (f 44), (f 45), (f 46), (f 47), (f 48), (f 49), (f 50), (f 51), (f 52), (f 53), (f 54), (f 55), (f 56), (f 57), (f 58), (f 59), (f 60), (f 61), (f 62), (f 63), (f 64), (f 65), (f 66), (f 67), (f 68), (f 69), (f 70), (f 71), (f 72), (f 73), (f 74), (f 75), (f 76), (f 77), (f 78), (f 79), (f 80), (f 81), (f 82), (f 83), (f 84), (f 85), (f 86), (f 87), (f 88), (f 89), (f 90), (f 91), (f 92), (f 93), (f 94), (f 95), (f 96), (f 97), (f 98), (f 99), (f 100), (f 101), (f 102), (f 103), (f 104), (f 105), (f 106), (f 107), (f 108), (f 109), (f 110), (f 111), (f 112), (f 113), (f 114), (f 115), (f 116), (f 117), (f 118), (f 119), (f 120), (f 121), (f 122), (f 123), (f 124), (f 125), (f 126), (f 127), (f 128), (f 129), (f 130), (f 131), (f 132), (f 133), (f 134), (f 135), (f 136), (f 137), (f 138), (f 139), (f 140), (f 141), (f 142), (f 143), (f 144), (f 145), (f 146), (f 147), (f 148), (f 149), (f 150), (f 151), (f 152), (f 153), (f 154), (f 155), (f 156), (f 157), (f 158), (f 159), (f 160), (f 161), (f 162), (f 163), (f 164), (f 165), (f 166), (f 167), (f 168), (f 169), (f 170), (f 171), (f 172), (f 173), (f 174), (f 175), (f 176), (f 177), (f 178), (f 179), (f 180), (f 181), (f 182), (f 183), (f 184), (f 185), (f 186), (f 187), (f 188), (f 189), (f 190), (f 191), (f 192), (f 193), (f 194), (f 195), (f 196), (f 197), (f 198), (f 199), (f 200), (f 201), (f 202), (f 203), (f 204), (f 205), (f 206), (f 207), (f 208), (f 209), (f 210)], h, n, []⟩
theorem F3_L11111111111111110100_of {t2 t3 t10 t11 t12 t20 : V} {t0 t1 t4 t5 t6 t7 t8 t9 t13 t14 t15 t16 t17 t18 t19 t21 t22 t23 t24 t25 t26 t27 t28 t29 t30 t31 t32 t33 t34 t35 t36 t37 t38 t39 t40 t41 t42 t43 t44 t45 t46 t47 t48 t49 t50 t51 t52 t53 t54 t55 t56 t57 t58 t59 t60 t61 t62 t63 t64 t65 t66 t67 t68 t69 t70 t71 t72 t73 t74 t75 t76 t77 t78 t79 t80 t81 t82 t83 t84 t85 t86 t87 t88 t89 t90 t91 t92 t93 t94 t95 t96 t97 t98 t99 t100 t101 t102 t103 t104 t105 t106 t107 t108 t109 t110 t111 t112 t113 t114 t115 t116 t117 t118 t119 t120 t121 t122 t123 t124 t125 t126 t127 t128 t129 t130 t131 t132 t133 t134 t135 t136 t137 t138 t139 t140 t141 t142 t143 t144 t145 t146 t147 t148 t149 t150 t151 t152 t153 t154 t155 t156 t157 t158 t159 t160 t161 t162 t163 t164 t165 t166 t167 t168 t169 t170 t171 t172 t173 t174 t175 t176 t177 t178 t179 t180 t181 t182 t183 t184 t185 t186 t187 t188 t189 t190 t191 t192 t193 t194 t195 t196 t197 t198 t199 t200 t201 t202 t203 t204 t205 t206 t207 t208 t209 t210 : V} {h : Heap} {n : Nat} : F3_L11111111111111110100 t2 t3 t10 t11 t12 t20 h n ⟨mkTm [t0, t1, t2, t3, t4, t5, t6, t7, t8, t9, t10, t11, t12, t13, t14, t15, t16, t17, t18, t19, t20, t21, t22, t23, t24, t25, t26, t27, t28, t29, t30, t31, t32, t33, t34, t35, t36, t37, t38, t39, t40, t41, t42, t43, t44, t45, t46, t47, t48, t49, t50, t51, t52, t53, t54, t55, t56, t57, t58, t59, t60, t61, t62, t63, t64, t65, t66, t67, t68, t69, t70, t71, t72, t73, t74, t75, t76, t77, t78, t79, t80, t81, t82, t83, t84, t85, t86, t87, t88, t89, t90, t91, t92, t93, t94, t95, t96, t97, t98, t99, t100, t101, t102, t103, t104, t105, t106, t107, t108, t109, t110, t111, t112, t113, t114, t115, t116, t117, t118, t119, t120, t121, t122, t123, t124, t125, t126, t127, t128, t129, t130, t131, t132, t133, t134, t135, t136, t137, t138, t139, t140, t141, t142, t143, t144, t145, t146, t147, t148, t149, t150, t151, t152, t153, t154, t155, t156, t157, t158, t159, t160, t161, t162, t163, t164, t165, t166, t167, t168, t169, t170, t171, t172, t173, t174, t175, t176, t177, t178, t179, t180, t181, t182, t183, t184, t185, t186, t187, t188, t189, t190, t191, t192, t193, t194, t195, t196, t197, t198, t199, t200, t201, t202, t203, t204, t205, t206, t207, t208, t209, t210], h, n, []⟩ :=
  ⟨fun i => ([t0, t1, t2, t3, t4, t5, t6, t7, t8, t9, t10, t11, t12, t13, t14, t15, t16, t17, t18, t19, t20, t21, t22, t23, t24, t25, t26, t27, t28, t29, t30, t31, t32, t33, t34, t35, t36, t37, t38, t39, t40, t41, t42, t43, t44, t45, t46, t47, t48, t49, t50, t51, t52, t53, t54, t55, t56, t57, t58, t59, t60, t61, t62, t63, t64, t65, t66, t67, t68, t69, t70, t71, t72, t73, t74, t75, t76, t77, t78, t79, t80, t81, t82, t83, t84, t85, t86, t87, t88, t89, t90, t91, t92, t93, t94, t95, t96, t97, t98, t99, t100, t101, t102, t103, t104, t105, t106, t107, t108, t109, t110, t111, t112, t113, t114, t115, t116, t117, t118, t119, t120, t121, t122, t123, t124, t125, t126, t127, t128, t129, t130, t131, t132, t133, t134, t135, t136, t137, t138, t139, t140, t141, t142, t143, t144, t145, t146, t147, t148, t149, t150, t151, t152, t153, t154, t155, t156, t157, t158, t159, t160, t161, t162, t163, t164, t165, t166, t167, t168, t169, t170, t171, t172, t173, t174, t175, t176, t177, t178, t179, t180, t181, t182, t183, t184, t185, t186, t187, t188, t189, t190, t191, t192, t193, t194, t195, t196, t197, t198, t199, t200, t201, t202, t203, t204, t205, t206, t207, t208, t209, t210] : List V).getD i undefV, by kernel_rfl⟩
theorem F3_L11111111111111110100_elim {t2 t3 t10 t11 t12 t20 : V} {h : Heap} {n : Nat} {s : St} {P : St → Prop} (hs : F3_L11111111111111110100 t2 t3 t10 t11 t12 t20 h n s) (H : ∀ t0 t1 t4 t5 t6 t7 t8 t9 t13 t14 t15 t16 t17 t18 t19 t21 t22 t23 t24 t25 t26 t27 t28 t29 t30 t31 t32 t33 t34 t35 t36 t37 t38 t39 t40 t41 t42 t43 t44 t45 t46 t47 t48 t49 t50 t51 t52 t53 t54 t55 t56 t57 t58 t59 t60 t61 t62 t63 t64 t65 t66 t67 t68 t69 t70 t71 t72 t73 t74 t75 t76 t77 t78 t79 t80 t81 t82 t83 t84 t85 t86 t87 t88 t89 t90 t91 t92 t93 t94 t95 t96 t97 t98 t99 t100 t101 t102 t103 t104 t105 t106 t107 t108 t109 t110 t111 t112 t113 t114 t115 t116 t117 t118 t119 t120 t121 t122 t123 t124 t125 t126 t127 t128 t129 t130 t131 t132 t133 t134 t135 t136 t137 t138 t139 t140 t141 t142 t143 t144 t145 t146 t147 t148 t149 t150 t151 t152 t153 t154 t155 t156 t157 t158 t159 t160 t161 t162 t163 t164 t165 t166 t167 t168 t169 t170 t171 t172 t173 t174 t175 t176 t177 t178 t179 t180 t181 t182 t183 t184 t185 t186 t187 t188 t189 t190 t191 t192 t193 t194 t195 t196 t197 t198 t199 t200 t201 t202 t203 t204 t205 t206 t207 t208 t209 t210 : V, P ⟨mkTm [t0, t1, t2, t3, t4, t5, t6, t7, t8, t9, t10, t11, t12, t13, t14, t15, t16, t17, t18, t19, t20, t21, t22, t23, t24, t25, t26, t27, t28, t29, t30, t31, t32, t33, t34, t35, t36, t37, t38, t39, t40, t41, t42, t43, t44, t45, t46, t47, t48, t49, t50, t51, t52, t53, t54, t55, t56, t57, t58, t59, t60, t61, t62, t63, t64, t65, t66, t67, t68, t69, t70, t71, t72, t73, t74, t75, t76, t77, t78, t79, t80, t81, t82, t83, t84, t85, t86, t87, t88, t89, t90, t91, t92, t93, t94, t95, t96, t97, t98, t99, t100, t101, t102, t103, t104, t105, t106, t107, t108, t109, t110, t111, t112, t113, t114, t115, t116, t117, t118, t119, t120, t121, t122, t123, t124, t125, t126, t127, t128, t129, t130, t131, t132, t133, t134, t135, t136, t137, t138, t139, t140, t141, t142, t143, t144, t145, t146, t147, t148, t149, t150, t151, t152, t153, t154, t155, t156, t157, t158, t159, t160, t161, t162, t163, t164, t165, t166, t167, t168, t169, t170, t171, t172, t173, t174, t175, t176, t177, t178, t179, t180, t181, t182, t183, t184, t185, t186, t187, t188, t189, t190, t191, t192, t193, t194, t195, t196, t197, t198, t199, t200, t201, t202, t203, t204, t205, t206, t207, t208, t209, t210], h, n, []⟩) : P s := by
  obtain ⟨f, rfl⟩ := hs
  exact H (f 0) (f 1) (f 4) (f 5) (f 6) (f 7) (f 8) (f 9) (f 13) (f 14) (f 15) (f 16) (f 17) (f 18) (f 19) (f 21) (f 22) (f 23) (f 24) (f 25) (f 26) (f 27) (f 28) (f 29) (f 30) (f 31) (f 32) (f 33) (f 34) (f 35) (f 36) (f 37) (f 38) (f 39) (f 40) (f 41) (f 42) (f 43) (f 44) (f 45) (f 46) (f 47) (f 48) (f 49) (f 50) (f 51) (f 52) (f 53) (f 54) (f 55) (f 56) (f 57) (f 58) (f 59) (f 60) (f 61) (f 62) (f 63) (f 64) (f 65) (f 66) (f 67) (f 68) (f 69) (f 70) (f 71) (f 72) (f 73) (f 74) (f 75) (f 76) (f 77) (f 78) (f 79) (f 80) (f 81) (f 82) (f 83) (f 84) (f 85) (f 86) (f 87) (f 88) (f 89) (f 90) (f 91) (f 92) (f 93) (f 94) (f 95) (f 96) (f 97) (f 98) (f 99) (f 100) (f 101) (f 102) (f 103) (f 104) (f 105) (f 106) (f 107) (f 108) (f 109) (f 110) (f 111) (f 112) (f 113) (f 114) (f 115) (f 116) (f 117) (f 118) (f 119) (f 120) (f 121) (f 122) (f 123) (f 124) (f 125) (f 126) (f 127) (f 128) (f 129) (f 130) (f 131) (f 132) (f 133) (f 134) (f 135) (f 136) (f 137) (f 138) (f 139) (f 140) (f 141) (f 142) (f 143) (f 144) (f 145) (f 146) (f 147) (f 148) (f 149) (f 150) (f 151) (f 152) (f 153) (f 154) (f 155) (f 156) (f 157) (f 158) (f 159) (f 160) (f 161) (f 162) (f 163) (f 164) (f 165) (f 166) (f 167) (f 168) (f 169) (f 170) (f 171) (f 172) (f 173) (f 174) (f 175) (f 176) (f 177) (f 178) (f 179) (f 180) (f 181) (f 182) (f 183) (f 184) (f 185) (f 186) (f 187) (f 188) (f 189) (f 190) (f 191) (f 192) (f 193) (f 194) (f 195) (f 196) (f 197) (f 198) (f 199) (f 200) (f 201) (f 202) (f 203) (f 204) (f 205) (f 206) (f 207) (f 208) (f 209) (f 210)

theorem F3_b11111111111111110100 (t0 t1 t2 t3 t4 t5 t6 t7 t8 t9 t10 t11 t12 t13 t14 t15 t16 t17 t18 t19 t20 t21 t22 t23 t24 t25 t26 t27 t28 t29 t30 t31 t32 t33 t34 t35 t36 t37 t38 t39 t40 t41 t42 t43 t44 t45 t46 t47 t48 t49 t50 t51 t52 t53 t54 t55 t56 t57 t58 t59 t60 t61 t62 t63 t64 t65 t66 t67 t68 t69 t70 t71 t72 t73 t74 t75 t76 t77 t78 t79 t80 t81 t82 t83 t84 t85 t86 t87 t88 t89 t90 t91 t92 t93 t94 t95 t96 t97 t98 t99 t100 t101 t102 t103 t104 t105 t106 t107 t108 t109 t110 t111 t112 t113 t114 t115 t116 t117 t118 t119 t120 t121 t122 t123 t124 t125 t126 t127 t128 t129 t130 t131 t132 t133 t134 t135 t136 t137 t138 t139 t140 t141 t142 t143 t144 t145 t146 t147 t148 t149 t150 t151 t152 t153 t154 t155 t156 t157 t158 t159 t160 t161 t162 t163 t164 t165 t166 t167 t168 t169 t170 t171 t172 t173 t174 t175 t176 t177 t178 t179 t180 t181 t182 t183 t184 t185 t186 t187 t188 t189 t190 t191 t192 t193 t194 t195 t196 t197 t198 t199 t200 t201 t202 t203 t204 t205 t206 t207 t208 t209 t210 : V) (h : Heap) (n : Nat) (Q : X → St → Prop) : Wp CC (subC [1, 1, 1, 1, 1, 1, 1, 1, 1, 1, 1, 1, 1, 1, 1, 1, 0, 1, 0, 0] (bodyOf Go.Proofs.Tryz.f3)) ⟨mkTm [t0, t1, t2, t3, t4, t5, t6, t7, t8, t9, t10, t11, t12, t13, t14, t15, t16, t17, t18, t19, t20, t21, t22, t23, t24, t25, t26, t27, t28, t29, t30, t31, t32, t33, t34, t35, t36, t37, t38, t39, t40, t41, t42, t43, t44, t45, t46, t47, t48, t49, t50, t51, t52, t53, t54, t55, t56, t57, t58, t59, t60, t61, t62, t63, t64, t65, t66, t67, t68, t69, t70, t71, t72, t73, t74, t75, t76, t77, t78, t79, t80, t81, t82, t83, t84, t85, t86, t87, t88, t89, t90, t91, t92, t93, t94, t95, t96, t97, t98, t99, t100, t101, t102, t103, t104, t105, t106, t107, t108, t109, t110, t111, t112, t113, t114, t115, t116, t117, t118, t119, t120, t121, t122, t123, t124, t125, t126, t127, t128, t129, t130, t131, t132, t133, t134, t135, t136, t137, t138, t139, t140, t141, t142, t143, t144, t145, t146, t147, t148, t149, t150, t151, t152, t153, t154, t155, t156, t157, t158, t159, t160, t161, t162, t163, t164, t165, t166, t167, t168, t169, t170, t171, t172, t173, t174, t175, t176, t177, t178, t179, t180, t181, t182, t183, t184, t185, t186, t187, t188, t189, t190, t191, t192, t193, t194, t195, t196, t197, t198, t199, t200, t201, t202, t203, t204, t205, t206, t207, t208, t209, t210], h, n, []⟩ Q = (
oK (binop CC .lss 3 true t20 (.s (.int .i64 0))) fun v166 =>
oK (asBool v166) fun b167 => bif b167 then (
CallK CC 12 [t20] h n fun v168 h169 n170 =>
CallK CC 15 [t10, t12, v168, (.s (.int .i64 1))] h169 n170 fun v171 h172 n173 =>
oK (rExt v171 0) fun v174 =>
oK (rExt v171 1) fun v175 =>
CallK CC 12 [t20] h172 n173 fun v176 h177 n178 =>
CallK CC 15 [t10, t11, v176, (.s (.int .i64 1))] h177 n178 fun v179 h180 n181 =>
oK (rExt v179 0) fun v182 =>
oK (rExt v179 1) fun v183 =>
oK (binop CC .lss 3 false t20 t2) fun v184 =>
oK (bif (rWant false v184) then some t20 else some undefV) fun v185 =>
oK (bif (rWant false v184) then some t2 else some undefV) fun v186 =>
oK (bif (rWant false v184) then some t3 else some undefV) fun v187 =>
oK (bif (rWant false v184) then binop CC .add 3 false v186 v187 else some undefV) fun v188 =>
oK (bif (rWant false v184) then binop CC .geq 3 false v185 v188 else some undefV) fun v189 =>
oK (rPick v184 (.s (.bool true)) v189) fun v190 =>
oK (bif (rWant true v190) then some v175 else some undefV) fun v191 =>
oK (bif (rWant true v190) then some v183 else some undefV) fun v192 =>
oK (bif (rWant true v190) then binop CC .neq 45 false v191 v192 else some undefV) fun v193 =>
oK (bif (rWant true v190) then some v193 else some undefV) fun v194 =>
oK (bif (rWant false v194) then some v174 else some undefV) fun v195 =>
oK (bif (rWant false v194) then some v182 else some undefV) fun v196 =>
let k197 := fun (v198 : V) (h199 : Heap) (n200 : Nat) => (
oK (bif (rWant false v194) then rUn CC .not v198 else some undefV) fun v201 =>
oK (bif (rWant true v190) then rPick v194 (.s (.bool true)) v201 else some undefV) fun v202 =>
oK (rPick v190 v202 (.s (.bool false))) fun v203 =>
oK (asBool v203) fun b204 => bif b204 then (
Q .ret ⟨mkTm [t0, t1, t2, t3, t4, t5, t6, t7, (.s (.bool false)), t9, t10, t11, t12, t13, t14, t15, t16, t17, t18, t19, t20, v174, v175, v182, v183, t25, t26, t27, t28, t29, t30, t31, t32, t33, t34, t35, t36, t37, t38, t39, t40, t41, t42, t43, t44, t45, t46, t47, t48, t49, t50, t51, t52, t53, t54, t55, t56, t57, t58, t59, t60, t61, t62, t63, t64, t65, t66, t67, t68, t69, t70, t71, t72, t73, t74, t75, t76, t77, t78, t79, t80, t81, t82, t83, t84, t85, t86, t87, t88, t89, t90, t91, t92, t93, t94, t95, t96, t97, t98, t99, t100, t101, t102, t103, t104, t105, t106, t107, t108, t109, t110, t111, t112, t113, t114, t115, t116, t117, t118, t119, t120, t121, t122, t123, t124, t125, t126, t127, t128, t129, t130, t131, t132, t133, t134, t135, t136, t137, t138, t139, t140, t141, t142, t143, t144, t145, t146, t147, t148, t149, t150, t151, t152, t153, t154, t155, t156, t157, t158, t159, t160, t161, t162, t163, t164, t165, t166, t167, t168, t169, t20, v166, t172, t173, v171, t10, t20, v168, v171, v174, v175, v179, t10, t11, t20, v176, v179, v182, v183, t20, t2, v184, v184, v185, v186, v187, v188, v189, v190, v190, v191, v192, v193, v194, v195, v196, v198, v201, v202, v203, t210], h199, n200, []⟩) else (
oK (binop CC .add 3 true t20 (.s (.int .i64 1))) fun v205 =>
Q .normal ⟨mkTm [t0, t1, t2, t3, t4, t5, t6, t7, t8, t9, t10, t11, t12, t13, t14, t15, t16, t17, t18, t19, v205, v174, v175, v182, v183, t25, t26, t27, t28, t29, t30, t31, t32, t33, t34, t35, t36, t37, t38, t39, t40, t41, t42, t43, t44, t45, t46, t47, t48, t49, t50, t51, t52, t53, t54, t55, t56, t57, t58, t59, t60, t61, t62, t63, t64, t65, t66, t67, t68, t69, t70, t71, t72, t73, t74, t75, t76, t77, t78, t79, t80, t81, t82, t83, t84, t85, t86, t87, t88, t89, t90, t91, t92, t93, t94, t95, t96, t97, t98, t99, t100, t101, t102, t103, t104, t105, t106, t107, t108, t109, t110, t111, t112, t113, t114, t115, t116, t117, t118, t119, t120, t121, t122, t123, t124, t125, t126, t127, t128, t129, t130, t131, t132, t133, t134, t135, t136, t137, t138, t139, t140, t141, t142, t143, t144, t145, t146, t147, t148, t149, t150, t151, t152, t153, t154, t155, t156, t157, t158, t159, t160, t161, t162, t163, t164, t165, t166, t167, t168, t169, t20, v166, t20, v205, v171, t10, t20, v168, v171, v174, v175, v179, t10, t11, t20, v176, v179, v182, v183, t20, t2, v184, v184, v185, v186, v187, v188, v189, v190, v190, v191, v192, v193, v194, v195, v196, v198, v201, v202, v203, t210], h199, n200, []⟩));
bif (rWant false v194) then (CallK CC 16 [v195, v196] h180 n181 fun v206 h207 n208 =>
k197 v206 h207 n208) else k197 undefV h180 n181) else (
Q (.exit 2) ⟨mkTm [t0, t1, t2, t3, t4, t5, t6, t7, t8, t9, t10, t11, t12, t13, t14, t15, t16, t17, t18, t19, t20, t21, t22, t23, t24, t25, t26, t27, t28, t29, t30, t31, t32, t33, t34, t35, t36, t37, t38, t39, t40, t41, t42, t43, t44, t45, t46, t47, t48, t49, t50, t51, t52, t53, t54, t55, t56, t57, t58, t59, t60, t61, t62, t63, t64, t65, t66, t67, t68, t69, t70, t71, t72, t73, t74, t75, t76, t77, t78, t79, t80, t81, t82, t83, t84, t85, t86, t87, t88, t89, t90, t91, t92, t93, t94, t95, t96, t97, t98, t99, t100, t101, t102, t103, t104, t105, t106, t107, t108, t109, t110, t111, t112, t113, t114, t115, t116, t117, t118, t119, t120, t121, t122, t123, t124, t125, t126, t127, t128, t129, t130, t131, t132, t133, t134, t135, t136, t137, t138, t139, t140, t141, t142, t143, t144, t145, t146, t147, t148, t149, t150, t151, t152, t153, t154, t155, t156, t157, t158, t159, t160, t161, t162, t163, t164, t165, t166, t167, t168, t169, t20, v166, t172, t173, t174, t175, t176, t177, t178, t179, t180, t181, t182, t183, t184, t185, t186, t187, t188, t189, t190, t191, t192, t193, t194, t195, t196, t197, t198, t199, t200, t201, t202, t203, t204, t205, t206, t207, t208, t209, t210], h, n, []⟩)) := Wp.eq_of (by kernel_rfl)

theorem F3_r11111111111111110100_2 (t0 t1 t2 t3 t4 t5 t6 t7 t8 t9 t10 t11 t12 t13 t14 t15 t16 t17 t18 t19 t20 t21 t22 t23 t24 t25 t26 t27 t28 t29 t30 t31 t32 t33 t34 t35 t36 t37 t38 t39 t40 t41 t42 t43 t44 t45 t46 t47 t48 t49 t50 t51 t52 t53 t54 t55 t56 t57 t58 t59 t60 t61 t62 t63 t64 t65 t66 t67 t68 t69 t70 t71 t72 t73 t74 t75 t76 t77 t78 t79 t80 t81 t82 t83 t84 t85 t86 t87 t88 t89 t90 t91 t92 t93 t94 t95 t96 t97 t98 t99 t100 t101 t102 t103 t104 t105 t106 t107 t108 t109 t110 t111 t112 t113 t114 t115 t116 t117 t118 t119 t120 t121 t122 t123 t124 t125 t126 t127 t128 t129 t130 t131 t132 t133 t134 t135 t136 t137 t138 t139 t140 t141 t142 t143 t144 t145 t146 t147 t148 t149 t150 t151 t152 t153 t154 t155 t156 t157 t158 t159 t160 t161 t162 t163 t164 t165 t166 t167 t168 t169 t170 t171 t172 t173 t174 t175 t176 t177 t178 t179 t180 t181 t182 t183 t184 t185 t186 t187 t188 t189 t190 t191 t192 t193 t194 t195 t196 t197 t198 t199 t200 t201 t202 t203 t204 t205 t206 t207 t208 t209 t210 : V) (h : Heap) (n : Nat) (K : V → Heap → Nat → Prop) : resume CC none [.blk 2, .sq (subC [1, 1, 1, 1, 1, 1, 1, 1, 1, 1, 1, 1, 1, 1, 1, 1, 1] (bodyOf Go.Proofs.Tryz.f3))] (retW CC Go.Proofs.Tryz.f3 K) (.exit 2) ⟨mkTm [t0, t1, t2, t3, t4, t5, t6, t7, t8, t9, t10, t11, t12, t13, t14, t15, t16, t17, t18, t19, t20, t21, t22, t23, t24, t25, t26, t27, t28, t29, t30, t31, t32, t33, t34, t35, t36, t37, t38, t39, t40, t41, t42, t43, t44, t45, t46, t47, t48, t49, t50, t51, t52, t53, t54, t55, t56, t57, t58, t59, t60, t61, t62, t63, t64, t65, t66, t67, t68, t69, t70, t71, t72, t73, t74, t75, t76, t77, t78, t79, t80, t81, t82, t83, t84, t85, t86, t87, t88, t89, t90, t91, t92, t93, t94, t95, t96, t97, t98, t99, t100, t101, t102, t103, t104, t105, t106, t107, t108, t109, t110, t111, t112, t113, t114, t115, t116, t117, t118, t119, t120, t121, t122, t123, t124, t125, t126, t127, t128, t129, t130, t131, t132, t133, t134, t135, t136, t137, t138, t139, t140, t141, t142, t143, t144, t145, t146, t147, t148, t149, t150, t151, t152, t153, t154, t155, t156, t157, t158, t159, t160, t161, t162, t163, t164, t165, t166, t167, t168, t169, t170, t171, t172, t173, t174, t175, t176, t177, t178, t179, t180, t181, t182, t183, t184, t185, t186, t187, t188, t189, t190, t191, t192, t193, t194, t195, t196, t197, t198, t199, t200, t201, t202, t203, t204, t205, t206, t207, t208, t209, t210], h, n, []⟩ = (
CallK CC 10 [] h n fun v209 h210 n211 =>
K v209 h210 n211) := by kernel_rfl

/-! F8 lockgate/lockgatekit.Row -/
theorem F8 : CC.F.get 8 = some Go.Proofs.Tryz.f8 := by kernel_rfl
theorem F8_eq (t0 : V) (h : Heap) (n : Nat) (K : V → Heap → Nat → Prop) : Wp CC (bodyOf Go.Proofs.Tryz.f8) ⟨initTm Go.Proofs.Tryz.f8 [t0], h, n, []⟩ (retW CC Go.Proofs.Tryz.f8 K) = (
LoopK CC none (subC [1, 1, 0, 1, 0, 0] (bodyOf Go.Proofs.Tryz.f8)) ⟨mkTm [t0, undefV, (.s (.slice none 0 0)), (.s (.slice none 0 0)), (.s (.int .i64 0)), undefV, undefV, undefV, undefV, undefV, undefV, undefV, undefV, undefV, undefV, undefV, undefV, undefV], h, n, []⟩ (resume CC none [.blk 0, .sq (subC [1, 1, 1] (bodyOf Go.Proofs.Tryz.f8))] (retW CC Go.Proofs.Tryz.f8 K))) := Wp.eq_of (by kernel_rfl)
theorem F8_call {t0 : V} {h : Heap} {n : Nat} {K : V → Heap → Nat → Prop} (H : (∀ b o, h.get b = some o → b < n) → Wp CC (bodyOf Go.Proofs.Tryz.f8) ⟨initTm Go.Proofs.Tryz.f8 [t0], h, n, []⟩ (retW CC Go.Proofs.Tryz.f8 K)) : CallK CC 8 [t0] h n K := by
  have := @callK_of CC CCok 8 Go.Proofs.Tryz.f8 (bodyOf Go.Proofs.Tryz.f8) [t0] h n K F8
  refine this ?_ ?_ ?_
  · kernel_rfl
  · kernel_rfl
  · exact H

def F8_L110100 (t0 t3 t4 : V) (h : Heap) (n : Nat) (s : St) : Prop := ∃ f : Nat → V, s = ⟨mkTm [t0, (f 1), (f 2), t3, t4, (f 5), (f 6), (f 7), (f 8), (f 9), (f 10), (f 11), (f 12), (f 13), (f 14), (f 15), (f 16), (f 17)], h, n, []⟩
theorem F8_L110100_of {t0 t3 t4 : V} {t1 t2 t5 t6 t7 t8 t9 t10 t11 t12 t13 t14 t15 t16 t17 : V} {h : Heap} {n : Nat} : F8_L110100 t0 t3 t4 h n ⟨mkTm [t0, t1, t2, t3, t4, t5, t6, t7, t8, t9, t10, t11, t12, t13, t14, t15, t16, t17], h, n, []⟩ :=
  ⟨fun i => ([t0, t1, t2, t3, t4, t5, t6, t7, t8, t9, t10, t11, t12, t13, t14, t15, t16, t17] : List V).getD i undefV, by kernel_rfl⟩
theorem F8_L110100_elim {t0 t3 t4 : V} {h : Heap} {n : Nat} {s : St} {P : St → Prop} (hs : F8_L110100 t0 t3 t4 h n s) (H : ∀ t1 t2 t5 t6 t7 t8 t9 t10 t11 t12 t13 t14 t15 t16 t17 : V, P ⟨mkTm [t0, t1, t2, t3, t4, t5, t6, t7, t8, t9, t10, t11, t12, t13, t14, t15, t16, t17], h, n, []⟩) : P s := by
  obtain ⟨f, rfl⟩ := hs
  exact H (f 1) (f 2) (f 5) (f 6) (f 7) (f 8) (f 9) (f 10) (f 11) (f 12) (f 13) (f 14) (f 15) (f 16) (f 17)

theorem F8_b110100 (t0 t1 t2 t3 t4 t5 t6 t7 t8 t9 t10 t11 t12 t13 t14 t15 t16 t17 : V) (h : Heap) (n : Nat) (Q : X → St → Prop) : Wp CC (subC [1, 1, 0, 1, 0, 0] (bodyOf Go.Proofs.Tryz.f8)) ⟨mkTm [t0, t1, t2, t3, t4, t5, t6, t7, t8, t9, t10, t11, t12, t13, t14, t15, t16, t17], h, n, []⟩ Q = (
oK (binop CC .lss 3 false t4 t0) fun v1 =>
oK (asBool v1) fun b2 => bif b2 then (
oK (binop CC .mul 3 true (.s (.int .i64 5)) t4) fun v3 =>
oK (binop CC .add 3 true (.s (.int .i64 3)) v3) fun v4 =>
oK (convert CC h 3 5 v4) fun v5 =>
fillK 1 ((zr CC 5).rep 1) [(0, v5)] fun c6 =>
let h7 := h.set n (.cells (.lst c6) 1); let n8 := n + 1;
appendK CC h7 n8 22 22 t3 (.slice n 0 1 1 false) fun v9 h10 n11 =>
oK (binop CC .add 3 true t4 (.s (.int .i64 1))) fun v12 =>
Q .normal ⟨mkTm [t0, t1, t2, v9, v12, t4, t0, v1, t4, v12, t3, t4, v3, v4, v5, (.slice n 0 1 1 false), v9, t17], h10, n11, []⟩) else (
Q (.exit 0) ⟨mkTm [t0, t1, t2, t3, t4, t4, t0, v1, t8, t9, t10, t11, t12, t13, t14, t15, t16, t17], h, n, []⟩)) := Wp.eq_of (by kernel_rfl)

theorem F8_r110100_0 (t0 t1 t2 t3 t4 t5 t6 t7 t8 t9 t10 t11 t12 t13 t14 t15 t16 t17 : V) (h : Heap) (n : Nat) (K : V → Heap → Nat → Prop) : resume CC none [.blk 0, .sq (subC [1, 1, 1] (bodyOf Go.Proofs.Tryz.f8))] (retW CC Go.Proofs.Tryz.f8 K) (.exit 0) ⟨mkTm [t0, t1, t2, t3, t4, t5, t6, t7, t8, t9, t10, t11, t12, t13, t14, t15, t16, t17], h, n, []⟩ = (
K t3 h n) := by kernel_rfl

/-! F9 lockgate/lockgatelaw16.Long -/
theorem F9 : CC.F.get 9 = some Go.Proofs.Tryz.f9 := by kernel_rfl
theorem F9_eq (t0 t1 : V) (h : Heap) (n : Nat) (K : V → Heap → Nat → Prop) : Wp CC (bodyOf Go.Proofs.Tryz.f9) ⟨initTm Go.Proofs.Tryz.f9 [t0, t1], h, n, []⟩ (retW CC Go.Proofs.Tryz.f9 K) = (
oK (V.cells t0) fun c1 =>
let h2 := h.set n (.cells (.lst c1.toList) 8); let n3 := n + 1;
oK (rFA CC 30 0 (.ptr n 0)) fun v4 =>
oK (normO (rLoad CC 25 h2 v4)) fun v5 =>
CallK CC 18 [v5] h2 n3 fun v6 h7 n8 =>
oK (bif (rWant false v6) then rFA CC 30 0 (.ptr n 0) else some undefV) fun v9 =>
oK (bif (rWant false v6) then normO (rLoad CC 25 h7 v9) else some undefV) fun v10 =>
oK (bif (rWant false v6) then lenV CC h7 25 v10 else some undefV) fun v11 =>
oK (bif (rWant false v6) then binop CC .gtr 3 true v11 (.s (.int .i64 60)) else some undefV) fun v12 =>
oK (rPick v6 (.s (.bool true)) v12) fun v13 =>
oK (bif (rWant false v13) then rFA CC 30 1 (.ptr n 0) else some undefV) fun v14 =>
oK (bif (rWant false v13) then normO (rLoad CC 22 h7 v14) else some undefV) fun v15 =>
oK (bif (rWant false v13) then lenV CC h7 22 v15 else some undefV) fun v16 =>
oK (bif (rWant false v13) then binop CC .gtr 3 true v16 (.s (.int .i64 4096)) else some undefV) fun v17 =>
oK (rPick v13 (.s (.bool true)) v17) fun v18 =>
oK (bif (rWant false v18) then rFA CC 30 2 (.ptr n 0) else some undefV) fun v19 =>
oK (bif (rWant false v18) then normO (rLoad CC 26 h7 v19) else some undefV) fun v20 =>
oK (bif (rWant false v18) then lenV CC h7 26 v20 else some undefV) fun v21 =>
oK (bif (rWant false v18) then binop CC .gtr 3 true v21 (.s (.int .i64 100)) else some undefV) fun v22 =>
oK (rPick v18 (.s (.bool true)) v22) fun v23 =>
oK (bif (rWant false v23) then rFA CC 30 4 (.ptr n 0) else some undefV) fun v24 =>
oK (bif (rWant false v23) then normO (rLoad CC 22 h7 v24) else some undefV) fun v25 =>
oK (bif (rWant false v23) then lenV CC h7 22 v25 else some undefV) fun v26 =>
oK (bif (rWant false v23) then binop CC .gtr 3 true v26 (.s (.int .i64 64)) else some undefV) fun v27 =>
oK (rPick v23 (.s (.bool true)) v27) fun v28 =>
oK (bif (rWant false v28) then some t1 else some undefV) fun v29 =>
oK (bif (rWant false v28) then lenV CC h7 82 v29 else some undefV) fun v30 =>
oK (bif (rWant false v28) then binop CC .gtr 3 true v30 (.s (.int .i64 60)) else some undefV) fun v31 =>
oK (rPick v28 (.s (.bool true)) v31) fun v32 =>
oK (bif (rWant false v32) then rFA CC 30 5 (.ptr n 0) else some undefV) fun v33 =>
oK (bif (rWant false v32) then rFA CC 28 0 v33 else some undefV) fun v34 =>
oK (bif (rWant false v32) then normO (rLoad CC 3 h7 v34) else some undefV) fun v35 =>
oK (bif (rWant false v32) then binop CC .lss 3 true v35 (.s (.int .i64 0)) else some undefV) fun v36 =>
oK (rPick v32 (.s (.bool true)) v36) fun v37 =>
oK (bif (rWant false v37) then rFA CC 30 5 (.ptr n 0) else some undefV) fun v38 =>
oK (bif (rWant false v37) then rFA CC 28 0 v38 else some undefV) fun v39 =>
oK (bif (rWant false v37) then normO (rLoad CC 3 h7 v39) else some undefV) fun v40 =>
oK (bif (rWant false v37) then binop CC .gtr 3 true v40 (.s (.int .i64 7)) else some undefV) fun v41 =>
oK (rPick v37 (.s (.bool true)) v41) fun v42 =>
oK (asBool v42) fun b43 => bif b43 then (
K (.s (.bool true)) h7 n8) else (
LoopK CC none (subC [1, 1, 0, 1, 0, 0] (bodyOf Go.Proofs.Tryz.f9)) ⟨mkTm [t0, t1, (.ptr n 0), undefV, (.s (.bool false)), (.s (.int .i64 0)), v4, v5, v6, v6, v9, v10, v11, v12, v13, v13, v14, v15, v16, v17, v18, v18, v19, v20, v21, v22, v23, v23, v24, v25, v26, v27, v28, v28, v29, v30, v31, v32, v32, v33, v34, v35, v36, v37, v37, v38, v39, v40, v41, v42, undefV, undefV, undefV, undefV, undefV, undefV, undefV, undefV, undefV, undefV, undefV, undefV, undefV, undefV, undefV, undefV, undefV, undefV, undefV, undefV, undefV, undefV, undefV, undefV], h7, n8, []⟩ (resume CC none [.blk 0, .sq (subC [1, 1, 1] (bodyOf Go.Proofs.Tryz.f9))] (retW CC Go.Proofs.Tryz.f9 K)))) := Wp.eq_of (by kernel_rfl)
theorem F9_call {t0 t1 : V} {h : Heap} {n : Nat} {K : V → Heap → Nat → Prop} (H : (∀ b o, h.get b = some o → b < n) → Wp CC (bodyOf Go.Proofs.Tryz.f9) ⟨initTm Go.Proofs.Tryz.f9 [t0, t1], h, n, []⟩ (retW CC Go.Proofs.Tryz.f9 K)) : CallK CC 9 [t0, t1] h n K := by
  have := @callK_of CC CCok 9 Go.Proofs.Tryz.f9 (bodyOf Go.Proofs.Tryz.f9) [t0, t1] h n K F9
  refine this ?_ ?_ ?_
  · kernel_rfl
  · kernel_rfl
  · exact H

def F9_L110100 (t1 t5 : V) (h : Heap) (n : Nat) (s : St) : Prop := ∃ f : Nat → V, s = ⟨mkTm [(f 0), t1, (f 2), (f 3), (f 4), t5, (f 6), (f 7), (f 8), (f 9), (f 10), (f 11), (f 12), (f 13), (f 14), (f 15), (f 16), (f 17), (f 18), (f 19), (f 20), (f 21), (f 22), (f 23), (f 24), (f 25), (f 26), (f 27), (f 28), (f 29), (f 30), (f 31), (f 32), (f 33), (f 34), (f 35), (f 36), (f 37), (f 38), (f 39), (f 40), (f 41), (f 42), (f 43), (f 44), (f 45), (f 46), (f 47), (f 48), (f 49), (f 50), (f 51), (f 52), (f 53), (f 54), (f 55), (f 56), (f 57), (f 58), (f 59), (f 60), (f 61), (f 62), (f 63), (f 64), (f 65), (f 66), (f 67), (f 68), (f 69), (f 70), (f 71), (f 72), (f 73)], h, n, []⟩
theorem F9_L110100_of {t1 t5 : V} {t0 t2 t3 t4 t6 t7 t8 t9 t10 t11 t12 t13 t14 t15 t16 t17 t18 t19 t20 t21 t22 t23 t24 t25 t26 t27 t28 t29 t30 t31 t32 t33 t34 t35 t36 t37 t38 t39 t40 t41 t42 t43 t44 t45 t46 t47 t48 t49 t50 t51 t52 t53 t54 t55 t56 t57 t58 t59 t60 t61 t62 t63 t64 t65 t66 t67 t68 t69 t70 t71 t72 t73 : V} {h : Heap} {n : Nat} : F9_L110100 t1 t5 h n ⟨mkTm [t0, t1, t2, t3, t4, t5, t6, t7, t8, t9, t10, t11, t12, t13, t14, t15, t16, t17, t18, t19, t20, t21, t22, t23, t24, t25, t26, t27, t28, t29, t30, t31, t32, t33, t34, t35, t36, t37, t38, t39, t40, t41, t42, t43, t44, t45, t46, t47, t48, t49, t50, t51, t52, t53, t54, t55, t56, t57, t58, t59, t60, t61, t62, t63, t64, t65, t66, t67, t68, t69, t70, t71, t72, t73], h, n, []⟩ :=
  ⟨fun i => ([t0, t1, t2, t3, t4, t5, t6, t7, t8, t9, t10, t11, t12, t13, t14, t15, t16, t17, t18, t19, t20, t21, t22, t23, t24, t25, t26, t27, t28, t29, t30, t31, t32, t33, t34, t35, t36, t37, t38, t39, t40, t41, t42, t43, t44, t45, t46, t47, t48, t49, t50, t51, t52, t53, t54, t55, t56, t57, t58, t59, t60, t61, t62, t63, t64, t65, t66, t67, t68, t69, t70, t71, t72, t73] : List V).getD i undefV, by kernel_rfl⟩
theorem F9_L110100_elim {t1 t5 : V} {h : Heap} {n : Nat} {s : St} {P : St → Prop} (hs : F9_L110100 t1 t5 h n s) (H : ∀ t0 t2 t3 t4 t6 t7 t8 t9 t10 t11 t12 t13 t14 t15 t16 t17 t18 t19 t20 t21 t22 t23 t24 t25 t26 t27 t28 t29 t30 t31 t32 t33 t34 t35 t36 t37 t38 t39 t40 t41 t42 t43 t44 t45 t46 t47 t48 t49 t50 t51 t52 t53 t54 t55 t56 t57 t58 t59 t60 t61 t62 t63 t64 t65 t66 t67 t68 t69 t70 t71 t72 t73 : V, P ⟨mkTm [t0, t1, t2, t3, t4, t5, t6, t7, t8, t9, t10, t11, t12, t13, t14, t15, t16, t17, t18, t19, t20, t21, t22, t23, t24, t25, t26, t27, t28, t29, t30, t31, t32, t33, t34, t35, t36, t37, t38, t39, t40, t41, t42, t43, t44, t45, t46, t47, t48, t49, t50, t51, t52, t53, t54, t55, t56, t57, t58, t59, t60, t61, t62, t63, t64, t65, t66, t67, t68, t69, t70, t71, t72, t73], h, n, []⟩) : P s := by
  obtain ⟨f, rfl⟩ := hs
  exact H (f 0) (f 2) (f 3) (f 4) (f 6) (f 7) (f 8) (f 9) (f 10) (f 11) (f 12) (f 13) (f 14) (f 15) (f 16) (f 17) (f 18) (f 19) (f 20) (f 21) (f 22) (f 23) (f 24) (f 25) (f 26) (f 27) (f 28) (f 29) (f 30) (f 31) (f 32) (f 33) (f 34) (f 35) (f 36) (f 37) (f 38) (f 39) (f 40) (f 41) (f 42) (f 43) (f 44) (f 45) (f 46) (f 47) (f 48) (f 49) (f 50) (f 51) (f 52) (f 53) (f 54) (f 55) (f 56) (f 57) (f 58) (f 59) (f 60) (f 61) (f 62) (f 63) (f 64) (f 65) (f 66) (f 67) (f 68) (f 69) (f 70) (f 71) (f 72) (f 73)

theorem F9_b110100 (t0 t1 t2 t3 t4 t5 t6 t7 t8 t9 t10 t11 t12 t13 t14 t15 t16 t17 t18 t19 t20 t21 t22 t23 t24 t25 t26 t27 t28 t29 t30 t31 t32 t33 t34 t35 t36 t37 t38 t39 t40 t41 t42 t43 t44 t45 t46 t47 t48 t49 t50 t51 t52 t53 t54 t55 t56 t57 t58 t59 t60 t61 t62 t63 t64 t65 t66 t67 t68 t69 t70 t71 t72 t73 : V) (h : Heap) (n : Nat) (Q : X → St → Prop) : Wp CC (subC [1, 1, 0, 1, 0, 0] (bodyOf Go.Proofs.Tryz.f9)) ⟨mkTm [t0, t1, t2, t3, t4, t5, t6, t7, t8, t9, t10, t11, t12, t13, t14, t15, t16, t17, t18, t19, t20, t21, t22, t23, t24, t25, t26, t27, t28, t29, t30, t31, t32, t33, t34, t35, t36, t37, t38, t39, t40, t41, t42, t43, t44, t45, t46, t47, t48, t49, t50, t51, t52, t53, t54, t55, t56, t57, t58, t59, t60, t61, t62, t63, t64, t65, t66, t67, t68, t69, t70, t71, t72, t73], h, n, []⟩ Q = (
oK (lenV CC h 82 t1) fun v44 =>
oK (binop CC .lss 3 false t5 v44) fun v45 =>
oK (asBool v45) fun b46 => bif b46 then (
oK (indexAddr CC 82 t1 t5) fun v47 =>
oK (rFA CC 85 2 v47) fun v48 =>
oK (rFA CC 65 8 v48) fun v49 =>
oK (normO (rLoad CC 22 h v49)) fun v50 =>
oK (lenV CC h 22 v50) fun v51 =>
oK (binop CC .gtr 3 true v51 (.s (.int .i64 100))) fun v52 =>
oK (bif (rWant false v52) then some t1 else some undefV) fun v53 =>
oK (bif (rWant false v52) then some t5 else some undefV) fun v54 =>
oK (bif (rWant false v52) then indexAddr CC 82 v53 v54 else some undefV) fun v55 =>
oK (bif (rWant false v52) then rFA CC 85 2 v55 else some undefV) fun v56 =>
oK (bif (rWant false v52) then rFA CC 65 9 v56 else some undefV) fun v57 =>
oK (bif (rWant false v52) then normO (rLoad CC 22 h v57) else some undefV) fun v58 =>
oK (bif (rWant false v52) then lenV CC h 22 v58 else some undefV) fun v59 =>
oK (bif (rWant false v52) then binop CC .gtr 3 true v59 (.s (.int .i64 200)) else some undefV) fun v60 =>
oK (rPick v52 (.s (.bool true)) v60) fun v61 =>
oK (asBool v61) fun b62 => bif b62 then (
Q .ret ⟨mkTm [t0, t1, t2, t3, (.s (.bool true)), t5, t6, t7, t8, t9, t10, t11, t12, t13, t14, t15, t16, t17, t18, t19, t20, t21, t22, t23, t24, t25, t26, t27, t28, t29, t30, t31, t32, t33, t34, t35, t36, t37, t38, t39, t40, t41, t42, t43, t44, t45, t46, t47, t48, t49, t5, t1, v44, v45, t54, t55, t1, t5, v47, v48, v49, v50, v51, v52, v52, v53, v54, v55, v56, v57, v58, v59, v60, v61], h, n, []⟩) else (
oK (binop CC .add 3 true t5 (.s (.int .i64 1))) fun v63 =>
Q .normal ⟨mkTm [t0, t1, t2, t3, t4, v63, t6, t7, t8, t9, t10, t11, t12, t13, t14, t15, t16, t17, t18, t19, t20, t21, t22, t23, t24, t25, t26, t27, t28, t29, t30, t31, t32, t33, t34, t35, t36, t37, t38, t39, t40, t41, t42, t43, t44, t45, t46, t47, t48, t49, t5, t1, v44, v45, t5, v63, t1, t5, v47, v48, v49, v50, v51, v52, v52, v53, v54, v55, v56, v57, v58, v59, v60, v61], h, n, []⟩)) else (
Q (.exit 0) ⟨mkTm [t0, t1, t2, t3, t4, t5, t6, t7, t8, t9, t10, t11, t12, t13, t14, t15, t16, t17, t18, t19, t20, t21, t22, t23, t24, t25, t26, t27, t28, t29, t30, t31, t32, t33, t34, t35, t36, t37, t38, t39, t40, t41, t42, t43, t44, t45, t46, t47, t48, t49, t5, t1, v44, v45, t54, t55, t56, t57, t58, t59, t60, t61, t62, t63, t64, t65, t66, t67, t68, t69, t70, t71, t72, t73], h, n, []⟩)) := Wp.eq_of (by kernel_rfl)

theorem F9_r110100_0 (t0 t1 t2 t3 t4 t5 t6 t7 t8 t9 t10 t11 t12 t13 t14 t15 t16 t17 t18 t19 t20 t21 t22 t23 t24 t25 t26 t27 t28 t29 t30 t31 t32 t33 t34 t35 t36 t37 t38 t39 t40 t41 t42 t43 t44 t45 t46 t47 t48 t49 t50 t51 t52 t53 t54 t55 t56 t57 t58 t59 t60 t61 t62 t63 t64 t65 t66 t67 t68 t69 t70 t71 t72 t73 : V) (h : Heap) (n : Nat) (K : V → Heap → Nat → Prop) : resume CC none [.blk 0, .sq (subC [1, 1, 1] (bodyOf Go.Proofs.Tryz.f9))] (retW CC Go.Proofs.Tryz.f9 K) (.exit 0) ⟨mkTm [t0, t1, t2, t3, t4, t5, t6, t7, t8, t9, t10, t11, t12, t13, t14, t15, t16, t17, t18, t19, t20, t21, t22, t23, t24, t25, t26, t27, t28, t29, t30, t31, t32, t33, t34, t35, t36, t37, t38, t39, t40, t41, t42, t43, t44, t45, t46, t47, t48, t49, t50, t51, t52, t53, t54, t55, t56, t57, t58, t59, t60, t61, t62, t63, t64, t65, t66, t67, t68, t69, t70, t71, t72, t73], h, n, []⟩ = (
K (.s (.bool false)) h n) := by kernel_rfl

/-! F11 lockgate/lockgatelaw16.Begin -/
theorem F11 : CC.F.get 11 = some Go.Proofs.Tryz.f11 := by kernel_rfl
theorem F11_eq (t0 : V) (h : Heap) (n : Nat) (K : V → Heap → Nat → Prop) : Wp CC (bodyOf Go.Proofs.Tryz.f11) ⟨initTm Go.Proofs.Tryz.f11 [t0], h, n, []⟩ (retW CC Go.Proofs.Tryz.f11 K) = (
oK (V.cells t0) fun c1 =>
let h2 := h.set n (.cells (.lst c1.toList) 8); let n3 := n + 1;
oK (rFA CC 30 1 (.ptr n 0)) fun v4 =>
oK (normO (rLoad CC 22 h2 v4)) fun v5 =>
CallK CC 36 [v5] h2 n3 fun v6 h7 n8 =>
oK (rExt v6 0) fun v9 =>
oK (rExt v6 1) fun v10 =>
CallK CC 20 [] h7 n8 fun v11 h12 n13 =>
CallK CC 37 [] h12 n13 fun v14 h15 n16 =>
oK (binop CC .neq 45 true v10 (.s (.int .i64 0))) fun v17 =>
oK (bif (rWant false v17) then some v9 else some undefV) fun v18 =>
oK (bif (rWant false v17) then binop CC .eql 54 true v18 (.s (.pointer none)) else some undefV) fun v19 =>
oK (rPick v17 (.s (.bool true)) v19) fun v20 =>
oK (bif (rWant false v20) then some v11 else some undefV) fun v21 =>
oK (bif (rWant false v20) then binop CC .eql 53 true v21 (.s (.pointer none)) else some undefV) fun v22 =>
oK (rPick v20 (.s (.bool true)) v22) fun v23 =>
oK (bif (rWant false v23) then some v14 else some undefV) fun v24 =>
oK (bif (rWant false v23) then binop CC .eql 55 true v24 (.s (.pointer none)) else some undefV) fun v25 =>
oK (rPick v23 (.s (.bool true)) v25) fun v26 =>
oK (asBool v26) fun b27 => bif b27 then (
K (.tup [(.s (.pointer none)), (.s (.pointer none))]) h15 n16) else (
LoopK CC none (subC [1, 1, 1, 1, 1, 0, 1, 0, 0] (bodyOf Go.Proofs.Tryz.f11)) ⟨mkTm [t0, (.ptr n 0), (.s (.pointer none)), (.s (.pointer none)), v9, v10, v11, v14, (.s (.int .i64 0)), undefV, undefV, v6, v4, v5, v6, v9, v10, v11, v14, v10, v17, v17, v18, v19, v20, v20, v21, v22, v23, v23, v24, v25, v26, undefV, undefV, undefV, undefV, undefV, undefV, undefV, undefV, undefV, undefV, undefV, undefV, undefV, undefV, undefV, undefV, undefV, undefV, undefV, undefV, undefV, undefV, undefV, undefV, undefV, undefV, undefV, undefV, undefV, undefV, undefV, undefV, undefV, undefV, undefV, undefV, undefV, undefV, undefV, undefV, undefV, undefV, undefV, undefV, undefV, undefV], h15, n16, []⟩ (resume CC none [.blk 0, .sq (subC [1, 1, 1, 1, 1, 1] (bodyOf Go.Proofs.Tryz.f11))] (retW CC Go.Proofs.Tryz.f11 K)))) := Wp.eq_of (by kernel_rfl)
theorem F11_call {t0 : V} {h : Heap} {n : Nat} {K : V → Heap → Nat → Prop} (H : (∀ b o, h.get b = some o → b < n) → Wp CC (bodyOf Go.Proofs.Tryz.f11) ⟨initTm Go.Proofs.Tryz.f11 [t0], h, n, []⟩ (retW CC Go.Proofs.Tryz.f11 K)) : CallK CC 11 [t0] h n K := by
  have := @callK_of CC CCok 11 Go.Proofs.Tryz.f11 (bodyOf Go.Proofs.Tryz.f11) [t0] h n K F11
  refine this ?_ ?_ ?_
  · kernel_rfl
  · kernel_rfl
  · exact H

def F11_L111110100 (t1 t4 t6 t7 t8 : V) (h : Heap) (n : Nat) (s : St) : Prop := ∃ f : Nat → V, s = ⟨mkTm [(f 0), t1, (f 2), (f 3), t4, (f 5), t6, t7, t8, (f 9), (f 10), (f 11), (f 12), (f 13), (f 14), (f 15), (f 16), (f 17), (f 18), (f 19), (f 20), (f 21), (f 22), (f 23), (f 24), (f 25), (f 26), (f 27), (f 28), (f 29), (f 30), (f 31), (f 32), (f 33), (f 34), (f 35), (f 36), (f 37), (f 38), (f 39), (f 40), (f 41), (f 42), (f 43), (f 44), (f 45), (f 46), (f 47), (f 48), (f 49), (f 50), (f 51), (f 52), (f 53), (f 54), (f 55), (f 56), (f 57), (f 58), (f 59), (f 60), (f 61), (f 62), (f 63), (f 64), (f 65), (f 66), (f 67), (f 68), (f 69), (f 70), (f 71), (f 72), (f 73), (f 74), (f 75), (f 76), (f 77), (f 78)], h, n, []⟩
theorem F11_L111110100_of {t1 t4 t6 t7 t8 : V} {t0 t2 t3 t5 t9 t10 t11 t12 t13 t14 t15 t16 t17 t18 t19 t20 t21 t22 t23 t24 t25 t26 t27 t28 t29 t30 t31 t32 t33 t34 t35 t36 t37 t38 t39 t40 t41 t42 t43 t44 t45 t46 t47 t48 t49 t50 t51 t52 t53 t54 t55 t56 t57 t58 t59 t60 t61 t62 t63 t64 t65 t66 t67 t68 t69 t70 t71 t72 t73 t74 t75 t76 t77 t78 : V} {h : Heap} {n : Nat} : F11_L111110100 t1 t4 t6 t7 t8 h n ⟨mkTm [t0, t1, t2, t3, t4, t5, t6, t7, t8, t9, t10, t11, t12, t13, t14, t15, t16, t17, t18, t19, t20, t21, t22, t23, t24, t25, t26, t27, t28, t29, t30, t31, t32, t33, t34, t35, t36, t37, t38, t39, t40, t41, t42, t43, t44, t45, t46, t47, t48, t49, t50, t51, t52, t53, t54, t55, t56, t57, t58, t59, t60, t61, t62, t63, t64, t65, t66, t67, t68, t69, t70, t71, t72, t73, t74, t75, t76, t77, t78], h, n, []⟩ :=
  ⟨fun i => ([t0, t1, t2, t3, t4, t5, t6, t7, t8, t9, t10, t11, t12, t13, t14, t15, t16, t17, t18, t19, t20, t21, t22, t23, t24, t25, t26, t27, t28, t29, t30, t31, t32, t33, t34, t35, t36, t37, t38, t39, t40, t41, t42, t43, t44, t45, t46, t47, t48, t49, t50, t51, t52, t53, t54, t55, t56, t57, t58, t59, t60, t61, t62, t63, t64, t65, t66, t67, t68, t69, t70, t71, t72, t73, t74, t75, t76, t77, t78] : List V).getD i undefV, by kernel_rfl⟩
theorem F11_L111110100_elim {t1 t4 t6 t7 t8 : V} {h : Heap} {n : Nat} {s : St} {P : St → Prop} (hs : F11_L111110100 t1 t4 t6 t7 t8 h n s) (H : ∀ t0 t2 t3 t5 t9 t10 t11 t12 t13 t14 t15 t16 t17 t18 t19 t20 t21 t22 t23 t24 t25 t26 t27 t28 t29 t30 t31 t32 t33 t34 t35 t36 t37 t38 t39 t40 t41 t42 t43 t44 t45 t46 t47 t48 t49 t50 t51 t52 t53 t54 t55 t56 t57 t58 t59 t60 t61 t62 t63 t64 t65 t66 t67 t68 t69 t70 t71 t72 t73 t74 t75 t76 t77 t78 : V, P ⟨mkTm [t0, t1, t2, t3, t4, t5, t6, t7, t8, t9, t10, t11, t12, t13, t14, t15, t16, t17, t18, t19, t20, t21, t22, t23, t24, t25, t26, t27, t28, t29, t30, t31, t32, t33, t34, t35, t36, t37, t38, t39, t40, t41, t42, t43, t44, t45, t46, t47, t48, t49, t50, t51, t52, t53, t54, t55, t56, t57, t58, t59, t60, t61, t62, t63, t64, t65, t66, t67, t68, t69, t70, t71, t72, t73, t74, t75, t76, t77, t78], h, n, []⟩) : P s := by
  obtain ⟨f, rfl⟩ := hs
  exact H (f 0) (f 2) (f 3) (f 5) (f 9) (f 10) (f 11) (f 12) (f 13) (f 14) (f 15) (f 16) (f 17) (f 18) (f 19) (f 20) (f 21) (f 22) (f 23) (f 24) (f 25) (f 26) (f 27) (f 28) (f 29) (f 30) (f 31) (f 32) (f 33) (f 34) (f 35) (f 36) (f 37) (f 38) (f 39) (f 40) (f 41) (f 42) (f 43) (f 44) (f 45) (f 46) (f 47) (f 48) (f 49) (f 50) (f 51) (f 52) (f 53) (f 54) (f 55) (f 56) (f 57) (f 58) (f 59) (f 60) (f 61) (f 62) (f 63) (f 64) (f 65) (f 66) (f 67) (f 68) (f 69) (f 70) (f 71) (f 72) (f 73) (f 74) (f 75) (f 76) (f 77) (f 78)

theorem F11_b111110100 (t0 t1 t2 t3 t4 t5 t6 t7 t8 t9 t10 t11 t12 t13 t14 t15 t16 t17 t18 t19 t20 t21 t22 t23 t24 t25 t26 t27 t28 t29 t30 t31 t32 t33 t34 t35 t36 t37 t38 t39 t40 t41 t42 t43 t44 t45 t46 t47 t48 t49 t50 t51 t52 t53 t54 t55 t56 t57 t58 t59 t60 t61 t62 t63 t64 t65 t66 t67 t68 t69 t70 t71 t72 t73 t74 t75 t76 t77 t78 : V) (h : Heap) (n : Nat) (Q : X → St → Prop) : Wp CC (subC [1, 1, 1, 1, 1, 0, 1, 0, 0] (bodyOf Go.Proofs.Tryz.f11)) ⟨mkTm [t0, t1, t2, t3, t4, t5, t6, t7, t8, t9, t10, t11, t12, t13, t14, t15, t16, t17, t18, t19, t20, t21, t22, t23, t24, t25, t26, t27, t28, t29, t30, t31, t32, t33, t34, t35, t36, t37, t38, t39, t40, t41, t42, t43, t44, t45, t46, t47, t48, t49, t50, t51, t52, t53, t54, t55, t56, t57, t58, t59, t60, t61, t62, t63, t64, t65, t66, t67, t68, t69, t70, t71, t72, t73, t74, t75, t76, t77, t78], h, n, []⟩ Q = (
oK (rFA CC 30 0 t1) fun v28 =>
oK (normO (rLoad CC 25 h v28)) fun v29 =>
oK (lenV CC h 25 v29) fun v30 =>
oK (binop CC .lss 3 false t8 v30) fun v31 =>
oK (asBool v31) fun b32 => bif b32 then (
oK (rFA CC 30 0 t1) fun v33 =>
oK (normO (rLoad CC 25 h v33)) fun v34 =>
oK (indexAddr CC 25 v34 t8) fun v35 =>
oK (normO (rLoad CC 65 h v35)) fun v36 =>
CallK CC 22 [t6, v36] h n fun v37 h38 n39 =>
oK (binop CC .add 3 true t8 (.s (.int .i64 1))) fun v40 =>
Q .normal ⟨mkTm [t0, t1, t2, t3, t4, t5, t6, t7, v40, t9, t10, t11, t12, t13, t14, t15, t16, t17, t18, t19, t20, t21, t22, t23, t24, t25, t26, t27, t28, t29, t30, t31, t32, t8, v28, v29, v30, v31, t8, v40, t6, v33, v34, t8, v35, v36, v37, t47, t48, t49, t50, t51, t52, t53, t54, t55, t56, t57, t58, t59, t60, t61, t62, t63, t64, t65, t66, t67, t68, t69, t70, t71, t72, t73, t74, t75, t76, t77, t78], h38, n39, []⟩) else (
Q (.exit 0) ⟨mkTm [t0, t1, t2, t3, t4, t5, t6, t7, t8, t9, t10, t11, t12, t13, t14, t15, t16, t17, t18, t19, t20, t21, t22, t23, t24, t25, t26, t27, t28, t29, t30, t31, t32, t8, v28, v29, v30, v31, t38, t39, t40, t41, t42, t43, t44, t45, t46, t47, t48, t49, t50, t51, t52, t53, t54, t55, t56, t57, t58, t59, t60, t61, t62, t63, t64, t65, t66, t67, t68, t69, t70, t71, t72, t73, t74, t75, t76, t77, t78], h, n, []⟩)) := Wp.eq_of (by kernel_rfl)

theorem F11_r111110100_0 (t0 t1 t2 t3 t4 t5 t6 t7 t8 t9 t10 t11 t12 t13 t14 t15 t16 t17 t18 t19 t20 t21 t22 t23 t24 t25 t26 t27 t28 t29 t30 t31 t32 t33 t34 t35 t36 t37 t38 t39 t40 t41 t42 t43 t44 t45 t46 t47 t48 t49 t50 t51 t52 t53 t54 t55 t56 t57 t58 t59 t60 t61 t62 t63 t64 t65 t66 t67 t68 t69 t70 t71 t72 t73 t74 t75 t76 t77 t78 : V) (h : Heap) (n : Nat) (K : V → Heap → Nat → Prop) : resume CC none [.blk 0, .sq (subC [1, 1, 1, 1, 1, 1] (bodyOf Go.Proofs.Tryz.f11))] (retW CC Go.Proofs.Tryz.f11 K) (.exit 0) ⟨mkTm [t0, t1, t2, t3, t4, t5, t6, t7, t8, t9, t10, t11, t12, t13, t14, t15, t16, t17, t18, t19, t20, t21, t22, t23, t24, t25, t26, t27, t28, t29, t30, t31, t32, t33, t34, t35, t36, t37, t38, t39, t40, t41, t42, t43, t44, t45, t46, t47, t48, t49, t50, t51, t52, t53, t54, t55, t56, t57, t58, t59, t60, t61, t62, t63, t64, t65, t66, t67, t68, t69, t70, t71, t72, t73, t74, t75, t76, t77, t78], h, n, []⟩ = (
LoopK CC none (subC [1, 1, 1, 1, 1, 1, 0, 1, 0, 0] (bodyOf Go.Proofs.Tryz.f11)) ⟨mkTm [t0, t1, t2, t3, t4, t5, t6, t7, t8, (.s (.int .i64 0)), t10, t11, t12, t13, t14, t15, t16, t17, t18, t19, t20, t21, t22, t23, t24, t25, t26, t27, t28, t29, t30, t31, t32, t33, t34, t35, t36, t37, t38, t39, t40, t41, t42, t43, t44, t45, t46, t47, t48, t49, t50, t51, t52, t53, t54, t55, t56, t57, t58, t59, t60, t61, t62, t63, t64, t65, t66, t67, t68, t69, t70, t71, t72, t73, t74, t75, t76, t77, t78], h, n, []⟩ (resume CC none [.blk 2, .sq (subC [1, 1, 1, 1, 1, 1, 1] (bodyOf Go.Proofs.Tryz.f11))] (retW CC Go.Proofs.Tryz.f11 K))) := by kernel_rfl

def F11_L1111110100 (t1 t4 t6 t7 t9 : V) (h : Heap) (n : Nat) (s : St) : Prop := ∃ f : Nat → V, s = ⟨mkTm [(f 0), t1, (f 2), (f 3), t4, (f 5), t6, t7, (f 8), t9, (f 10), (f 11), (f 12), (f 13), (f 14), (f 15), (f 16), (f 17), (f 18), (f 19), (f 20), (f 21), (f 22), (f 23), (f 24), (f 25), (f 26), (f 27), (f 28), (f 29), (f 30), (f 31), (f 32), (f 33), (f 34), (f 35), (f 36), (f 37), (f 38), (f 39), (f 40), (f 41), (f 42), (f 43), (f 44), (f 45), (f 46), (f 47), (f 48), (f 49), (f 50), (f 51), (f 52), (f 53), (f 54), (f 55), (f 56), (f 57), (f 58), (f 59), (f 60), (f 61), (f 62), (f 63), (f 64), (f 65), (f 66), (f 67), (f 68), (f 69), (f 70), (f 71), (f 72), (f 73), (f 74), (f 75), (f 76), (f 77), (f 78)], h, n, []⟩
theorem F11_L1111110100_of {t1 t4 t6 t7 t9 : V} {t0 t2 t3 t5 t8 t10 t11 t12 t13 t14 t15 t16 t17 t18 t19 t20 t21 t22 t23 t24 t25 t26 t27 t28 t29 t30 t31 t32 t33 t34 t35 t36 t37 t38 t39 t40 t41 t42 t43 t44 t45 t46 t47 t48 t49 t50 t51 t52 t53 t54 t55 t56 t57 t58 t59 t60 t61 t62 t63 t64 t65 t66 t67 t68 t69 t70 t71 t72 t73 t74 t75 t76 t77 t78 : V} {h : Heap} {n : Nat} : F11_L1111110100 t1 t4 t6 t7 t9 h n ⟨mkTm [t0, t1, t2, t3, t4, t5, t6, t7, t8, t9, t10, t11, t12, t13, t14, t15, t16, t17, t18, t19, t20, t21, t22, t23, t24, t25, t26, t27, t28, t29, t30, t31, t32, t33, t34, t35, t36, t37, t38, t39, t40, t41, t42, t43, t44, t45, t46, t47, t48, t49, t50, t51, t52, t53, t54, t55, t56, t57, t58, t59, t60, t61, t62, t63, t64, t65, t66, t67, t68, t69, t70, t71, t72, t73, t74, t75, t76, t77, t78], h, n, []⟩ :=
  ⟨fun i => ([t0, t1, t2, t3, t4, t5, t6, t7, t8, t9, t10, t11, t12, t13, t14, t15, t16, t17, t18, t19, t20, t21, t22, t23, t24, t25, t26, t27, t28, t29, t30, t31, t32, t33, t34, t35, t36, t37, t38, t39, t40, t41, t42, t43, t44, t45, t46, t47, t48, t49, t50, t51, t52, t53, t54, t55, t56, t57, t58, t59, t60, t61, t62, t63, t64, t65, t66, t67, t68, t69, t70, t71, t72, t73, t74, t75, t76, t77, t78] : List V).getD i undefV, by kernel_rfl⟩
theorem F11_L1111110100_elim {t1 t4 t6 t7 t9 : V} {h : Heap} {n : Nat} {s : St} {P : St → Prop} (hs : F11_L1111110100 t1 t4 t6 t7 t9 h n s) (H : ∀ t0 t2 t3 t5 t8 t10 t11 t12 t13 t14 t15 t16 t17 t18 t19 t20 t21 t22 t23 t24 t25 t26 t27 t28 t29 t30 t31 t32 t33 t34 t35 t36 t37 t38 t39 t40 t41 t42 t43 t44 t45 t46 t47 t48 t49 t50 t51 t52 t53 t54 t55 t56 t57 t58 t59 t60 t61 t62 t63 t64 t65 t66 t67 t68 t69 t70 t71 t72 t73 t74 t75 t76 t77 t78 : V, P ⟨mkTm [t0, t1, t2, t3, t4, t5, t6, t7, t8, t9, t10, t11, t12, t13, t14, t15, t16, t17, t18, t19, t20, t21, t22, t23, t24, t25, t26, t27, t28, t29, t30, t31, t32, t33, t34, t35, t36, t37, t38, t39, t40, t41, t42, t43, t44, t45, t46, t47, t48, t49, t50, t51, t52, t53, t54, t55, t56, t57, t58, t59, t60, t61, t62, t63, t64, t65, t66, t67, t68, t69, t70, t71, t72, t73, t74, t75, t76, t77, t78], h, n, []⟩) : P s := by
  obtain ⟨f, rfl⟩ := hs
  exact H (f 0) (f 2) (f 3) (f 5) (f 8) (f 10) (f 11) (f 12) (f 13) (f 14) (f 15) (f 16) (f 17) (f 18) (f 19) (f 20) (f 21) (f 22) (f 23) (f 24) (f 25) (f 26) (f 27) (f 28) (f 29) (f 30) (f 31) (f 32) (f 33) (f 34) (f 35) (f 36) (f 37) (f 38) (f 39) (f 40) (f 41) (f 42) (f 43) (f 44) (f 45) (f 46) (f 47) (f 48) (f 49) (f 50) (f 51) (f 52) (f 53) (f 54) (f 55) (f 56) (f 57) (f 58) (f 59) (f 60) (f 61) (f 62) (f 63) (f 64) (f 65) (f 66) (f 67) (f 68) (f 69) (f 70) (f 71) (f 72) (f 73) (f 74) (f 75) (f 76) (f 77) (f 78)

theorem F11_b1111110100 (t0 t1 t2 t3 t4 t5 t6 t7 t8 t9 t10 t11 t12 t13 t14 t15 t16 t17 t18 t19 t20 t21 t22 t23 t24 t25 t26 t27 t28 t29 t30 t31 t32 t33 t34 t35 t36 t37 t38 t39 t40 t41 t42 t43 t44 t45 t46 t47 t48 t49 t50 t51 t52 t53 t54 t55 t56 t57 t58 t59 t60 t61 t62 t63 t64 t65 t66 t67 t68 t69 t70 t71 t72 t73 t74 t75 t76 t77 t78 : V) (h : Heap) (n : Nat) (Q : X → St → Prop) : Wp CC (subC [1, 1, 1, 1, 1, 1, 0, 1, 0, 0] (bodyOf Go.Proofs.Tryz.f11)) ⟨mkTm [t0, t1, t2, t3, t4, t5, t6, t7, t8, t9, t10, t11, t12, t13, t14, t15, t16, t17, t18, t19, t20, t21, t22, t23, t24, t25, t26, t27, t28, t29, t30, t31, t32, t33, t34, t35, t36, t37, t38, t39, t40, t41, t42, t43, t44, t45, t46, t47, t48, t49, t50, t51, t52, t53, t54, t55, t56, t57, t58, t59, t60, t61, t62, t63, t64, t65, t66, t67, t68, t69, t70, t71, t72, t73, t74, t75, t76, t77, t78], h, n, []⟩ Q = (
oK (rFA CC 30 2 t1) fun v41 =>
oK (normO (rLoad CC 26 h v41)) fun v42 =>
oK (lenV CC h 26 v42) fun v43 =>
oK (binop CC .lss 3 false t9 v43) fun v44 =>
oK (asBool v44) fun b45 => bif b45 then (
oK (rFA CC 30 2 t1) fun v46 =>
oK (normO (rLoad CC 26 h v46)) fun v47 =>
oK (indexAddr CC 26 v47 t9) fun v48 =>
oK (normO (rLoad CC 52 h v48)) fun v49 =>
CallK CC 38 [t7, v49] h n fun v50 h51 n52 =>
oK (binop CC .add 3 true t9 (.s (.int .i64 1))) fun v53 =>
Q .normal ⟨mkTm [t0, t1, t2, t3, t4, t5, t6, t7, t8, v53, t10, t11, t12, t13, t14, t15, t16, t17, t18, t19, t20, t21, t22, t23, t24, t25, t26, t27, t28, t29, t30, t31, t32, t33, t34, t35, t36, t37, t38, t39, t40, t41, t42, t43, t44, t45, t46, t9, v41, v42, v43, v44, t9, v53, t7, v46, v47, t9, v48, v49, v50, t61, t62, t63, t64, t65, t66, t67, t68, t69, t70, t71, t72, t73, t74, t75, t76, t77, t78], h51, n52, []⟩) else (
Q (.exit 2) ⟨mkTm [t0, t1, t2, t3, t4, t5, t6, t7, t8, t9, t10, t11, t12, t13, t14, t15, t16, t17, t18, t19, t20, t21, t22, t23, t24, t25, t26, t27, t28, t29, t30, t31, t32, t33, t34, t35, t36, t37, t38, t39, t40, t41, t42, t43, t44, t45, t46, t9, v41, v42, v43, v44, t52, t53, t54, t55, t56, t57, t58, t59, t60, t61, t62, t63, t64, t65, t66, t67, t68, t69, t70, t71, t72, t73, t74, t75, t76, t77, t78], h, n, []⟩)) := Wp.eq_of (by kernel_rfl)

theorem F11_r1111110100_2 (t0 t1 t2 t3 t4 t5 t6 t7 t8 t9 t10 t11 t12 t13 t14 t15 t16 t17 t18 t19 t20 t21 t22 t23 t24 t25 t26 t27 t28 t29 t30 t31 t32 t33 t34 t35 t36 t37 t38 t39 t40 t41 t42 t43 t44 t45 t46 t47 t48 t49 t50 t51 t52 t53 t54 t55 t56 t57 t58 t59 t60 t61 t62 t63 t64 t65 t66 t67 t68 t69 t70 t71 t72 t73 t74 t75 t76 t77 t78 : V) (h : Heap) (n : Nat) (K : V → Heap → Nat → Prop) : resume CC none [.blk 2, .sq (subC [1, 1, 1, 1, 1, 1, 1] (bodyOf Go.Proofs.Tryz.f11))] (retW CC Go.Proofs.Tryz.f11 K) (.exit 2) ⟨mkTm [t0, t1, t2, t3, t4, t5, t6, t7, t8, t9, t10, t11, t12, t13, t14, t15, t16, t17, t18, t19, t20, t21, t22, t23, t24, t25, t26, t27, t28, t29, t30, t31, t32, t33, t34, t35, t36, t37, t38, t39, t40, t41, t42, t43, t44, t45, t46, t47, t48, t49, t50, t51, t52, t53, t54, t55, t56, t57, t58, t59, t60, t61, t62, t63, t64, t65, t66, t67, t68, t69, t70, t71, t72, t73, t74, t75, t76, t77, t78], h, n, []⟩ = (
oK (rFA CC 30 3 t1) fun v54 =>
oK (normO (rLoad CC 3 h v54)) fun v55 =>
CallK CC 39 [(.s (.int .i64 1)), v55] h n fun v56 h57 n58 =>
let h59 := h57.set n58 (.cells (.lst (zr CC 43).toList) 804); let n60 := n58 + 1;
oK (asPtr (.ptr n58 0)) fun p61 => oK (store CC h59 43 p61.1 p61.2 v56) fun h62 =>
oK (rFA CC 30 4 t1) fun v63 =>
oK (normO (rLoad CC 22 h62 v63)) fun v64 =>
CallK CC 40 [(.ptr n58 0), (.s (.int .i64 (-64))), v64] h62 n60 fun v65 h66 n67 =>
oK (rFA CC 30 5 t1) fun v68 =>
oK (rFA CC 28 0 v68) fun v69 =>
oK (normO (rLoad CC 3 h66 v69)) fun v70 =>
oK (binop CC .neq 3 true v70 (.s (.int .i64 0))) fun v71 =>
oK (asBool v71) fun b72 => bif b72 then (
oK (rFA CC 30 5 t1) fun v73 =>
oK (normO (rLoad CC 28 h66 v73)) fun v74 =>
CallK CC 41 [(.ptr n58 0), (.s (.int .i64 (-8))), (.s (.int .i64 8)), v74] h66 n67 fun v75 h76 n77 =>
oK (normO (build CC 57 [(0, t6), (1, t4), (3, t7)])) fun v78 =>
oK (V.cells v78) fun c79 =>
let h80 := h76.set n77 (.cells (.lst c79.toList) 4); let n81 := n77 + 1;
K (.tup [(.ptr n77 0), (.ptr n58 0)]) h80 n81) else (
oK (normO (build CC 57 [(0, t6), (1, t4), (3, t7)])) fun v82 =>
oK (V.cells v82) fun c83 =>
let h84 := h66.set n67 (.cells (.lst c83.toList) 4); let n85 := n67 + 1;
K (.tup [(.ptr n67 0), (.ptr n58 0)]) h84 n85)) := by kernel_rfl

/-! F12 lockgate/lockgatelaw16.at -/
theorem F12 : CC.F.get 12 = some Go.Proofs.Tryz.f12 := by kernel_rfl
theorem F12_eq (t0 : V) (h : Heap) (n : Nat) (K : V → Heap → Nat → Prop) : Wp CC (bodyOf Go.Proofs.Tryz.f12) ⟨initTm Go.Proofs.Tryz.f12 [t0], h, n, []⟩ (retW CC Go.Proofs.Tryz.f12 K) = (
let h1 := h.set n (.cells (.lst (zr CC 28).toList) 3); let n2 := n + 1;
oK (convert CC h1 3 23 t0) fun v3 =>
oK (normO (build CC 28 [(0, (.s (.int .i64 4))), (1, v3)])) fun v4 =>
oK (asPtr (.ptr n 0)) fun p5 => oK (store CC h1 28 p5.1 p5.2 v4) fun h6 =>
oK (resultsOf CC (mkTm [t0, undefV, (.ptr n 0), t0, v3, v4]) h6 [.cell 2 28]) fun vs => K (oneOf vs) h6 n2) := Wp.eq_of (by kernel_rfl)
theorem F12_call {t0 : V} {h : Heap} {n : Nat} {K : V → Heap → Nat → Prop} (H : (∀ b o, h.get b = some o → b < n) → Wp CC (bodyOf Go.Proofs.Tryz.f12) ⟨initTm Go.Proofs.Tryz.f12 [t0], h, n, []⟩ (retW CC Go.Proofs.Tryz.f12 K)) : CallK CC 12 [t0] h n K := by
  have := @callK_of CC CCok 12 Go.Proofs.Tryz.f12 (bodyOf Go.Proofs.Tryz.f12) [t0] h n K F12
  refine this ?_ ?_ ?_
  · kernel_rfl
  · kernel_rfl
  · exact H

/-! F13 lockgate/lockgatelaw16.num -/
theorem F13 : CC.F.get 13 = some Go.Proofs.Tryz.f13 := by kernel_rfl
theorem F13_eq (t0 : V) (h : Heap) (n : Nat) (K : V → Heap → Nat → Prop) : Wp CC (bodyOf Go.Proofs.Tryz.f13) ⟨initTm Go.Proofs.Tryz.f13 [t0], h, n, []⟩ (retW CC Go.Proofs.Tryz.f13 K) = (
let h1 := h.set n (.cells (.lst (zr CC 28).toList) 3); let n2 := n + 1;
oK (convert CC h1 3 23 t0) fun v3 =>
oK (normO (build CC 28 [(0, (.s (.int .i64 1))), (1, v3)])) fun v4 =>
oK (asPtr (.ptr n 0)) fun p5 => oK (store CC h1 28 p5.1 p5.2 v4) fun h6 =>
oK (resultsOf CC (mkTm [t0, undefV, (.ptr n 0), t0, v3, v4]) h6 [.cell 2 28]) fun vs => K (oneOf vs) h6 n2) := Wp.eq_of (by kernel_rfl)
theorem F13_call {t0 : V} {h : Heap} {n : Nat} {K : V → Heap → Nat → Prop} (H : (∀ b o, h.get b = some o → b < n) → Wp CC (bodyOf Go.Proofs.Tryz.f13) ⟨initTm Go.Proofs.Tryz.f13 [t0], h, n, []⟩ (retW CC Go.Proofs.Tryz.f13 K)) : CallK CC 13 [t0] h n K := by
  have := @callK_of CC CCok 13 Go.Proofs.Tryz.f13 (bodyOf Go.Proofs.Tryz.f13) [t0] h n K F13
  refine this ?_ ?_ ?_
  · kernel_rfl
  · kernel_rfl
  · exact H

/-! F14 lockgate/helper.Call -/
theorem F14 : CC.F.get 14 = some Go.Proofs.Tryz.f14 := by kernel_rfl
theorem F14_eq (t0 t1 t2 : V) (h : Heap) (n : Nat) (K : V → Heap → Nat → Prop) : Wp CC (bodyOf Go.Proofs.Tryz.f14) ⟨initTm Go.Proofs.Tryz.f14 [t0, t1, t2], h, n, []⟩ (retW CC Go.Proofs.Tryz.f14 K) = (
oK (normO (build CC 100 [(0, t0), (1, t1)])) fun v1 =>
oK (V.cells v1) fun c2 =>
let h3 := h.set n (.cells (.lst c2.toList) 2); let n4 := n + 1;
let h5 := h3.set n4 (.map [] 0); let n6 := n4 + 1;
oK (mapUpdate CC h5 103 (.map n4) (.s (.int .i64 1)) (.func (.func 42) [(.ptr n 0)] [])) fun h7 =>
oK (mapUpdate CC h7 103 (.map n4) (.s (.int .i64 2)) (.func (.func 43) [(.ptr n 0)] [])) fun h8 =>
oK (mapUpdate CC h8 103 (.map n4) (.s (.int .i64 3)) (.func (.func 44) [(.ptr n 0)] [])) fun h9 =>
oK (mapUpdate CC h9 103 (.map n4) (.s (.int .i64 4)) (.func (.func 45) [(.ptr n 0)] [])) fun h10 =>
oK (mapUpdate CC h10 103 (.map n4) (.s (.int .i64 5)) (.func (.func 46) [(.ptr n 0)] [])) fun h11 =>
oK (mapUpdate CC h11 103 (.map n4) (.s (.int .i64 6)) (.func (.func 47) [(.ptr n 0)] [])) fun h12 =>
oK (mapUpdate CC h12 103 (.map n4) (.s (.int .i64 7)) (.func (.func 48) [(.ptr n 0)] [])) fun h13 =>
oK (mapUpdate CC h13 103 (.map n4) (.s (.int .i64 8)) (.func (.func 49) [(.ptr n 0)] [])) fun h14 =>
oK (lookup CC h14 103 (.map n4) t2 true) fun v15 =>
oK (rExt v15 0) fun v16 =>
oK (rExt v15 1) fun v17 =>
oK (rUn CC .not v17) fun v18 =>
oK (asBool v18) fun b19 => bif b19 then (
K (.tup [(.s (.int .i64 0)), (.s (.int .i64 25))]) h14 n6) else (
callV CC v16 [] h14 n6 fun v20 h21 n22 =>
oK (rExt v20 0) fun v23 =>
oK (rExt v20 1) fun v24 =>
K (.tup [v23, v24]) h21 n22)) := Wp.eq_of (by kernel_rfl)
theorem F14_call {t0 t1 t2 : V} {h : Heap} {n : Nat} {K : V → Heap → Nat → Prop} (H : (∀ b o, h.get b = some o → b < n) → Wp CC (bodyOf Go.Proofs.Tryz.f14) ⟨initTm Go.Proofs.Tryz.f14 [t0, t1, t2], h, n, []⟩ (retW CC Go.Proofs.Tryz.f14 K)) : CallK CC 14 [t0, t1, t2] h n K := by
  have := @callK_of CC CCok 14 Go.Proofs.Tryz.f14 (bodyOf Go.Proofs.Tryz.f14) [t0, t1, t2] h n K F14
  refine this ?_ ?_ ?_
  · kernel_rfl
  · kernel_rfl
  · exact H

/-! F15 lockgate/helper.Read -/
theorem F15 : CC.F.get 15 = some Go.Proofs.Tryz.f15 := by kernel_rfl
theorem F15_eq (t0 t1 t2 t3 : V) (h : Heap) (n : Nat) (K : V → Heap → Nat → Prop) : Wp CC (bodyOf Go.Proofs.Tryz.f15) ⟨initTm Go.Proofs.Tryz.f15 [t0, t1, t2, t3], h, n, []⟩ (retW CC Go.Proofs.Tryz.f15 K) = (
oK (V.cells t2) fun c1 =>
let h2 := h.set n (.cells (.lst c1.toList) 3); let n3 := n + 1;
oK (binop CC .lss 3 true t3 (.s (.int .i64 0))) fun v4 =>
oK (bif (rWant false v4) then some t3 else some undefV) fun v5 =>
oK (bif (rWant false v4) then binop CC .gtr 3 true v5 (.s (.int .i64 64)) else some undefV) fun v6 =>
oK (rPick v4 (.s (.bool true)) v6) fun v7 =>
oK (asBool v7) fun b8 => bif b8 then (
K (.tup [(.s (.slice none 0 0)), (.s (.int .i64 22))]) h2 n3) else (
oK (rFA CC 28 0 (.ptr n 0)) fun v9 =>
oK (normO (rLoad CC 3 h2 v9)) fun v10 =>
oK (binop CC .eql 3 true v10 (.s (.int .i64 0))) fun v11 =>
oK (asBool v11) fun b12 => bif b12 then (
K (.tup [(.s (.slice none 0 0)), (.s (.int .i64 20))]) h2 n3) else (
oK (binop CC .eql 3 true v10 (.s (.int .i64 4))) fun v13 =>
oK (asBool v13) fun b14 => bif b14 then (
oK (rFA CC 28 1 (.ptr n 0)) fun v15 =>
oK (normO (rLoad CC 23 h2 v15)) fun v16 =>
oK (convert CC h2 23 3 v16) fun v17 =>
CallK CC 50 [t1, v17, t3] h2 n3 fun v18 h19 n20 =>
oK (rExt v18 0) fun v21 =>
oK (rExt v18 1) fun v22 =>
K (.tup [v21, v22]) h19 n20) else (
oK (binop CC .eql 3 true v10 (.s (.int .i64 2))) fun v23 =>
oK (asBool v23) fun b24 => bif b24 then (
oK (asBool v23) fun b25 => bif b25 then (
oK (normO (rLoad CC 28 h2 (.ptr n 0))) fun v26 =>
oK (rFA CC 28 1 (.ptr n 0)) fun v27 =>
oK (normO (rLoad CC 23 h2 v27)) fun v28 =>
oK (convert CC .leaf 23 3 v28) fun v29 =>
CallK CC 51 [t0, v26] h2 (n3 + 8) fun v30 h31 n32 =>
(normO (rLoad CC 23 h31 v27) = some v28 ∧ True ∧ True) ∧
oK (binop CC .lss 3 true v29 (.s (.int .i64 0))) fun v33 =>
oK (bif (rWant false v33) then some v29 else some undefV) fun v34 =>
oK (bif (rWant false v33) then some v30 else some undefV) fun v35 =>
oK (bif (rWant false v33) then lenV CC h31 22 v35 else some undefV) fun v36 =>
oK (bif (rWant false v33) then binop CC .gtr 3 false v34 v36 else some undefV) fun v37 =>
oK (rPick v33 (.s (.bool true)) v37) fun v38 =>
oK (bif (rWant false v38) then some t3 else some undefV) fun v39 =>
oK (bif (rWant false v38) then some v30 else some undefV) fun v40 =>
oK (bif (rWant false v38) then lenV CC h31 22 v40 else some undefV) fun v41 =>
oK (bif (rWant false v38) then some v29 else some undefV) fun v42 =>
oK (bif (rWant false v38) then binop CC .sub 3 false v41 v42 else some undefV) fun v43 =>
oK (bif (rWant false v38) then binop CC .gtr 3 false v39 v43 else some undefV) fun v44 =>
oK (rPick v38 (.s (.bool true)) v44) fun v45 =>
oK (asBool v45) fun b46 => bif b46 then (
K (.tup [(.s (.slice none 0 0)), (.s (.int .i64 22))]) h31 n32) else (
oK (binop CC .add 3 false v29 t3) fun v47 =>
oK (sliceOp CC 22 v30 (some v29) (some v47) none) fun v48 =>
K (.tup [v48, (.s (.int .i64 0))]) h31 n32)) else (
oK (binop CC .eql 3 true v10 (.s (.int .i64 1))) fun v49 =>
oK (asBool v49) fun b50 => bif b50 then (
oK (rFA CC 28 1 (.ptr n 0)) fun v51 =>
oK (normO (rLoad CC 23 h2 v51)) fun v52 =>
oK (binop CC .eql 23 true v52 (.s (.int .u64 0))) fun v53 =>
oK (asBool v53) fun b54 => bif b54 then (
K (.tup [(.s (.slice none 0 0)), (.s (.int .i64 23))]) h2 n3) else (
K (.tup [(.s (.slice none 0 0)), (.s (.int .i64 21))]) h2 n3)) else (
K (.tup [(.s (.slice none 0 0)), (.s (.int .i64 21))]) h2 n3))) else (
oK (binop CC .eql 3 true v10 (.s (.int .i64 6))) fun v55 =>
oK (asBool v55) fun b56 => bif b56 then (
oK (normO (rLoad CC 28 h2 (.ptr n 0))) fun v57 =>
oK (rFA CC 28 1 (.ptr n 0)) fun v58 =>
oK (normO (rLoad CC 23 h2 v58)) fun v59 =>
oK (convert CC .leaf 23 3 v59) fun v60 =>
CallK CC 51 [t0, v57] h2 (n3 + 8) fun v61 h62 n63 =>
(normO (rLoad CC 23 h62 v58) = some v59 ∧ True ∧ True) ∧
oK (binop CC .lss 3 true v60 (.s (.int .i64 0))) fun v64 =>
oK (bif (rWant false v64) then some v60 else some undefV) fun v65 =>
oK (bif (rWant false v64) then some v61 else some undefV) fun v66 =>
oK (bif (rWant false v64) then lenV CC h62 22 v66 else some undefV) fun v67 =>
oK (bif (rWant false v64) then binop CC .gtr 3 false v65 v67 else some undefV) fun v68 =>
oK (rPick v64 (.s (.bool true)) v68) fun v69 =>
oK (bif (rWant false v69) then some t3 else some undefV) fun v70 =>
oK (bif (rWant false v69) then some v61 else some undefV) fun v71 =>
oK (bif (rWant false v69) then lenV CC h62 22 v71 else some undefV) fun v72 =>
oK (bif (rWant false v69) then some v60 else some undefV) fun v73 =>
oK (bif (rWant false v69) then binop CC .sub 3 false v72 v73 else some undefV) fun v74 =>
oK (bif (rWant false v69) then binop CC .gtr 3 false v70 v74 else some undefV) fun v75 =>
oK (rPick v69 (.s (.bool true)) v75) fun v76 =>
oK (asBool v76) fun b77 => bif b77 then (
K (.tup [(.s (.slice none 0 0)), (.s (.int .i64 22))]) h62 n63) else (
oK (binop CC .add 3 false v60 t3) fun v78 =>
oK (sliceOp CC 22 v61 (some v60) (some v78) none) fun v79 =>
K (.tup [v79, (.s (.int .i64 0))]) h62 n63)) else (
oK (binop CC .eql 3 true v10 (.s (.int .i64 1))) fun v80 =>
oK (asBool v80) fun b81 => bif b81 then (
oK (rFA CC 28 1 (.ptr n 0)) fun v82 =>
oK (normO (rLoad CC 23 h2 v82)) fun v83 =>
oK (binop CC .eql 23 true v83 (.s (.int .u64 0))) fun v84 =>
oK (asBool v84) fun b85 => bif b85 then (
K (.tup [(.s (.slice none 0 0)), (.s (.int .i64 23))]) h2 n3) else (
K (.tup [(.s (.slice none 0 0)), (.s (.int .i64 21))]) h2 n3)) else (
K (.tup [(.s (.slice none 0 0)), (.s (.int .i64 21))]) h2 n3))))))) := Wp.eq_of (by kernel_rfl)
theorem F15_call {t0 t1 t2 t3 : V} {h : Heap} {n : Nat} {K : V → Heap → Nat → Prop} (H : (∀ b o, h.get b = some o → b < n) → Wp CC (bodyOf Go.Proofs.Tryz.f15) ⟨initTm Go.Proofs.Tryz.f15 [t0, t1, t2, t3], h, n, []⟩ (retW CC Go.Proofs.Tryz.f15 K)) : CallK CC 15 [t0, t1, t2, t3] h n K := by
  have := @callK_of CC CCok 15 Go.Proofs.Tryz.f15 (bodyOf Go.Proofs.Tryz.f15) [t0, t1, t2, t3] h n K F15
  refine this ?_ ?_ ?_
  · kernel_rfl
  · kernel_rfl
  · exact H

/-! F16 lockgate/lockgatekit.SameBytes -/
theorem F16 : CC.F.get 16 = some Go.Proofs.Tryz.f16 := by kernel_rfl
theorem F16_eq (t0 t1 : V) (h : Heap) (n : Nat) (K : V → Heap → Nat → Prop) : Wp CC (bodyOf Go.Proofs.Tryz.f16) ⟨initTm Go.Proofs.Tryz.f16 [t0, t1], h, n, []⟩ (retW CC Go.Proofs.Tryz.f16 K) = (
oK (lenV CC h 22 t0) fun v1 =>
oK (lenV CC h 22 t1) fun v2 =>
oK (binop CC .neq 3 false v1 v2) fun v3 =>
oK (asBool v3) fun b4 => bif b4 then (
K (.s (.bool false)) h n) else (
LoopK CC none (subC [1, 1, 0, 1, 0, 0] (bodyOf Go.Proofs.Tryz.f16)) ⟨mkTm [t0, t1, undefV, undefV, (.s (.bool false)), (.s (.int .i64 0)), t0, v1, t1, v2, v3, undefV, undefV, undefV, undefV, undefV, undefV, undefV, undefV, undefV, undefV, undefV, undefV, undefV, undefV, undefV], h, n, []⟩ (resume CC none [.blk 0, .sq (subC [1, 1, 1] (bodyOf Go.Proofs.Tryz.f16))] (retW CC Go.Proofs.Tryz.f16 K)))) := Wp.eq_of (by kernel_rfl)
theorem F16_call {t0 t1 : V} {h : Heap} {n : Nat} {K : V → Heap → Nat → Prop} (H : (∀ b o, h.get b = some o → b < n) → Wp CC (bodyOf Go.Proofs.Tryz.f16) ⟨initTm Go.Proofs.Tryz.f16 [t0, t1], h, n, []⟩ (retW CC Go.Proofs.Tryz.f16 K)) : CallK CC 16 [t0, t1] h n K := by
  have := @callK_of CC CCok 16 Go.Proofs.Tryz.f16 (bodyOf Go.Proofs.Tryz.f16) [t0, t1] h n K F16
  refine this ?_ ?_ ?_
  · kernel_rfl
  · kernel_rfl
  · exact H

def F16_L110100 (t0 t1 t5 : V) (h : Heap) (n : Nat) (s : St) : Prop := ∃ f : Nat → V, s = ⟨mkTm [t0, t1, (f 2), (f 3), (f 4), t5, (f 6), (f 7), (f 8), (f 9), (f 10), (f 11), (f 12), (f 13), (f 14), (f 15), (f 16), (f 17), (f 18), (f 19), (f 20), (f 21), (f 22), (f 23), (f 24), (f 25)], h, n, []⟩
theorem F16_L110100_of {t0 t1 t5 : V} {t2 t3 t4 t6 t7 t8 t9 t10 t11 t12 t13 t14 t15 t16 t17 t18 t19 t20 t21 t22 t23 t24 t25 : V} {h : Heap} {n : Nat} : F16_L110100 t0 t1 t5 h n ⟨mkTm [t0, t1, t2, t3, t4, t5, t6, t7, t8, t9, t10, t11, t12, t13, t14, t15, t16, t17, t18, t19, t20, t21, t22, t23, t24, t25], h, n, []⟩ :=
  ⟨fun i => ([t0, t1, t2, t3, t4, t5, t6, t7, t8, t9, t10, t11, t12, t13, t14, t15, t16, t17, t18, t19, t20, t21, t22, t23, t24, t25] : List V).getD i undefV, by kernel_rfl⟩
theorem F16_L110100_elim {t0 t1 t5 : V} {h : Heap} {n : Nat} {s : St} {P : St → Prop} (hs : F16_L110100 t0 t1 t5 h n s) (H : ∀ t2 t3 t4 t6 t7 t8 t9 t10 t11 t12 t13 t14 t15 t16 t17 t18 t19 t20 t21 t22 t23 t24 t25 : V, P ⟨mkTm [t0, t1, t2, t3, t4, t5, t6, t7, t8, t9, t10, t11, t12, t13, t14, t15, t16, t17, t18, t19, t20, t21, t22, t23, t24, t25], h, n, []⟩) : P s := by
  obtain ⟨f, rfl⟩ := hs
  exact H (f 2) (f 3) (f 4) (f 6) (f 7) (f 8) (f 9) (f 10) (f 11) (f 12) (f 13) (f 14) (f 15) (f 16) (f 17) (f 18) (f 19) (f 20) (f 21) (f 22) (f 23) (f 24) (f 25)

theorem F16_b110100 (t0 t1 t2 t3 t4 t5 t6 t7 t8 t9 t10 t11 t12 t13 t14 t15 t16 t17 t18 t19 t20 t21 t22 t23 t24 t25 : V) (h : Heap) (n : Nat) (Q : X → St → Prop) : Wp CC (subC [1, 1, 0, 1, 0, 0] (bodyOf Go.Proofs.Tryz.f16)) ⟨mkTm [t0, t1, t2, t3, t4, t5, t6, t7, t8, t9, t10, t11, t12, t13, t14, t15, t16, t17, t18, t19, t20, t21, t22, t23, t24, t25], h, n, []⟩ Q = (
oK (lenV CC h 22 t0) fun v5 =>
oK (binop CC .lss 3 false t5 v5) fun v6 =>
oK (asBool v6) fun b7 => bif b7 then (
oK (indexAddr CC 22 t0 t5) fun v8 =>
oK (normO (rLoad CC 5 h v8)) fun v9 =>
oK (indexAddr CC 22 t1 t5) fun v10 =>
oK (normO (rLoad CC 5 h v10)) fun v11 =>
oK (binop CC .neq 5 false v9 v11) fun v12 =>
oK (asBool v12) fun b13 => bif b13 then (
Q .ret ⟨mkTm [t0, t1, t2, t3, (.s (.bool false)), t5, t6, t7, t8, t9, t10, t5, t0, v5, v6, t15, t16, t0, t5, v8, v9, t1, t5, v10, v11, v12], h, (n + 9), []⟩) else (
oK (binop CC .add 3 true t5 (.s (.int .i64 1))) fun v14 =>
Q .normal ⟨mkTm [t0, t1, t2, t3, t4, v14, t6, t7, t8, t9, t10, t5, t0, v5, v6, t5, v14, t0, t5, v8, v9, t1, t5, v10, v11, v12], h, (n + 9), []⟩)) else (
Q (.exit 0) ⟨mkTm [t0, t1, t2, t3, t4, t5, t6, t7, t8, t9, t10, t5, t0, v5, v6, t15, t16, t17, t18, t19, t20, t21, t22, t23, t24, t25], h, n, []⟩)) := Wp.eq_of (by kernel_rfl)

theorem F16_r110100_0 (t0 t1 t2 t3 t4 t5 t6 t7 t8 t9 t10 t11 t12 t13 t14 t15 t16 t17 t18 t19 t20 t21 t22 t23 t24 t25 : V) (h : Heap) (n : Nat) (K : V → Heap → Nat → Prop) : resume CC none [.blk 0, .sq (subC [1, 1, 1] (bodyOf Go.Proofs.Tryz.f16))] (retW CC Go.Proofs.Tryz.f16 K) (.exit 0) ⟨mkTm [t0, t1, t2, t3, t4, t5, t6, t7, t8, t9, t10, t11, t12, t13, t14, t15, t16, t17, t18, t19, t20, t21, t22, t23, t24, t25], h, n, []⟩ = (
K (.s (.bool true)) h n) := by kernel_rfl

/-! F18 lockgate/lockgatelaw12.Long -/
theorem F18 : CC.F.get 18 = some Go.Proofs.Tryz.f18 := by kernel_rfl
theorem F18_eq (t0 : V) (h : Heap) (n : Nat) (K : V → Heap → Nat → Prop) : Wp CC (bodyOf Go.Proofs.Tryz.f18) ⟨initTm Go.Proofs.Tryz.f18 [t0], h, n, []⟩ (retW CC Go.Proofs.Tryz.f18 K) = (
oK (lenV CC h 25 t0) fun v1 =>
oK (binop CC .gtr 3 true v1 (.s (.int .i64 200))) fun v2 =>
oK (asBool v2) fun b3 => bif b3 then (
K (.s (.bool true)) h n) else (
LoopK CC none (subC [1, 1, 0, 1, 0, 0] (bodyOf Go.Proofs.Tryz.f18)) ⟨mkTm [t0, undefV, (.s (.bool false)), (.s (.int .i64 0)), t0, v1, v2, undefV, undefV, undefV, undefV, undefV, undefV, undefV, undefV, undefV, undefV, undefV, undefV, undefV, undefV, undefV, undefV, undefV, undefV, undefV, undefV, undefV, undefV], h, n, []⟩ (resume CC none [.blk 0, .sq (subC [1, 1, 1] (bodyOf Go.Proofs.Tryz.f18))] (retW CC Go.Proofs.Tryz.f18 K)))) := Wp.eq_of (by kernel_rfl)
theorem F18_call {t0 : V} {h : Heap} {n : Nat} {K : V → Heap → Nat → Prop} (H : (∀ b o, h.get b = some o → b < n) → Wp CC (bodyOf Go.Proofs.Tryz.f18) ⟨initTm Go.Proofs.Tryz.f18 [t0], h, n, []⟩ (retW CC Go.Proofs.Tryz.f18 K)) : CallK CC 18 [t0] h n K := by
  have := @callK_of CC CCok 18 Go.Proofs.Tryz.f18 (bodyOf Go.Proofs.Tryz.f18) [t0] h n K F18
  refine this ?_ ?_ ?_
  · kernel_rfl
  · kernel_rfl
  · exact H

def F18_L110100 (t0 t3 : V) (h : Heap) (n : Nat) (s : St) : Prop := ∃ f : Nat → V, s = ⟨mkTm [t0, (f 1), (f 2), t3, (f 4), (f 5), (f 6), (f 7), (f 8), (f 9), (f 10), (f 11), (f 12), (f 13), (f 14), (f 15), (f 16), (f 17), (f 18), (f 19), (f 20), (f 21), (f 22), (f 23), (f 24), (f 25), (f 26), (f 27), (f 28)], h, n, []⟩
theorem F18_L110100_of {t0 t3 : V} {t1 t2 t4 t5 t6 t7 t8 t9 t10 t11 t12 t13 t14 t15 t16 t17 t18 t19 t20 t21 t22 t23 t24 t25 t26 t27 t28 : V} {h : Heap} {n : Nat} : F18_L110100 t0 t3 h n ⟨mkTm [t0, t1, t2, t3, t4, t5, t6, t7, t8, t9, t10, t11, t12, t13, t14, t15, t16, t17, t18, t19, t20, t21, t22, t23, t24, t25, t26, t27, t28], h, n, []⟩ :=
  ⟨fun i => ([t0, t1, t2, t3, t4, t5, t6, t7, t8, t9, t10, t11, t12, t13, t14, t15, t16, t17, t18, t19, t20, t21, t22, t23, t24, t25, t26, t27, t28] : List V).getD i undefV, by kernel_rfl⟩
theorem F18_L110100_elim {t0 t3 : V} {h : Heap} {n : Nat} {s : St} {P : St → Prop} (hs : F18_L110100 t0 t3 h n s) (H : ∀ t1 t2 t4 t5 t6 t7 t8 t9 t10 t11 t12 t13 t14 t15 t16 t17 t18 t19 t20 t21 t22 t23 t24 t25 t26 t27 t28 : V, P ⟨mkTm [t0, t1, t2, t3, t4, t5, t6, t7, t8, t9, t10, t11, t12, t13, t14, t15, t16, t17, t18, t19, t20, t21, t22, t23, t24, t25, t26, t27, t28], h, n, []⟩) : P s := by
  obtain ⟨f, rfl⟩ := hs
  exact H (f 1) (f 2) (f 4) (f 5) (f 6) (f 7) (f 8) (f 9) (f 10) (f 11) (f 12) (f 13) (f 14) (f 15) (f 16) (f 17) (f 18) (f 19) (f 20) (f 21) (f 22) (f 23) (f 24) (f 25) (f 26) (f 27) (f 28)

theorem F18_b110100 (t0 t1 t2 t3 t4 t5 t6 t7 t8 t9 t10 t11 t12 t13 t14 t15 t16 t17 t18 t19 t20 t21 t22 t23 t24 t25 t26 t27 t28 : V) (h : Heap) (n : Nat) (Q : X → St → Prop) : Wp CC (subC [1, 1, 0, 1, 0, 0] (bodyOf Go.Proofs.Tryz.f18)) ⟨mkTm [t0, t1, t2, t3, t4, t5, t6, t7, t8, t9, t10, t11, t12, t13, t14, t15, t16, t17, t18, t19, t20, t21, t22, t23, t24, t25, t26, t27, t28], h, n, []⟩ Q = (
oK (lenV CC h 25 t0) fun v4 =>
oK (binop CC .lss 3 false t3 v4) fun v5 =>
oK (asBool v5) fun b6 => bif b6 then (
oK (indexAddr CC 25 t0 t3) fun v7 =>
oK (rFA CC 65 8 v7) fun v8 =>
oK (normO (rLoad CC 22 h v8)) fun v9 =>
oK (lenV CC h 22 v9) fun v10 =>
oK (binop CC .gtr 3 true v10 (.s (.int .i64 100))) fun v11 =>
oK (bif (rWant false v11) then some t0 else some undefV) fun v12 =>
oK (bif (rWant false v11) then some t3 else some undefV) fun v13 =>
oK (bif (rWant false v11) then indexAddr CC 25 v12 v13 else some undefV) fun v14 =>
oK (bif (rWant false v11) then rFA CC 65 9 v14 else some undefV) fun v15 =>
oK (bif (rWant false v11) then normO (rLoad CC 22 h v15) else some undefV) fun v16 =>
oK (bif (rWant false v11) then lenV CC h 22 v16 else some undefV) fun v17 =>
oK (bif (rWant false v11) then binop CC .gtr 3 true v17 (.s (.int .i64 200)) else some undefV) fun v18 =>
oK (rPick v11 (.s (.bool true)) v18) fun v19 =>
oK (asBool v19) fun b20 => bif b20 then (
Q .ret ⟨mkTm [t0, t1, (.s (.bool true)), t3, t4, t5, t6, t3, t0, v4, v5, t11, t12, t0, t3, v7, v8, v9, v10, v11, v11, v12, v13, v14, v15, v16, v17, v18, v19], h, n, []⟩) else (
oK (binop CC .add 3 true t3 (.s (.int .i64 1))) fun v21 =>
Q .normal ⟨mkTm [t0, t1, t2, v21, t4, t5, t6, t3, t0, v4, v5, t3, v21, t0, t3, v7, v8, v9, v10, v11, v11, v12, v13, v14, v15, v16, v17, v18, v19], h, n, []⟩)) else (
Q (.exit 0) ⟨mkTm [t0, t1, t2, t3, t4, t5, t6, t3, t0, v4, v5, t11, t12, t13, t14, t15, t16, t17, t18, t19, t20, t21, t22, t23, t24, t25, t26, t27, t28], h, n, []⟩)) := Wp.eq_of (by kernel_rfl)

theorem F18_r110100_0 (t0 t1 t2 t3 t4 t5 t6 t7 t8 t9 t10 t11 t12 t13 t14 t15 t16 t17 t18 t19 t20 t21 t22 t23 t24 t25 t26 t27 t28 : V) (h : Heap) (n : Nat) (K : V → Heap → Nat → Prop) : resume CC none [.blk 0, .sq (subC [1, 1, 1] (bodyOf Go.Proofs.Tryz.f18))] (retW CC Go.Proofs.Tryz.f18 K) (.exit 0) ⟨mkTm [t0, t1, t2, t3, t4, t5, t6, t7, t8, t9, t10, t11, t12, t13, t14, t15, t16, t17, t18, t19, t20, t21, t22, t23, t24, t25, t26, t27, t28], h, n, []⟩ = (
K (.s (.bool false)) h n) := by kernel_rfl

/-! F20 lockgate/maps.New -/
theorem F20 : CC.F.get 20 = some Go.Proofs.Tryz.f20 := by kernel_rfl
theorem F20_eq (h : Heap) (n : Nat) (K : V → Heap → Nat → Prop) : Wp CC (bodyOf Go.Proofs.Tryz.f20) ⟨initTm Go.Proofs.Tryz.f20 ([] : List V), h, n, []⟩ (retW CC Go.Proofs.Tryz.f20 K) = (
CallK CC 56 [] h n fun v1 h2 n3 =>
oK (normO (build CC 118 [(0, v1)])) fun v4 =>
oK (V.cells v4) fun c5 =>
let h6 := h2.set n3 (.cells (.lst c5.toList) 4); let n7 := n3 + 1;
K (.ptr n3 0) h6 n7) := Wp.eq_of (by kernel_rfl)
theorem F20_call {h : Heap} {n : Nat} {K : V → Heap → Nat → Prop} (H : (∀ b o, h.get b = some o → b < n) → Wp CC (bodyOf Go.Proofs.Tryz.f20) ⟨initTm Go.Proofs.Tryz.f20 ([] : List V), h, n, []⟩ (retW CC Go.Proofs.Tryz.f20 K)) : CallK CC 20 [] h n K := by
  have := @callK_of CC CCok 20 Go.Proofs.Tryz.f20 (bodyOf Go.Proofs.Tryz.f20) [] h n K F20
  refine this ?_ ?_ ?_
  · kernel_rfl
  · kernel_rfl
  · exact H

/-! F33 (*lockgate/mem.Packet).Bytes -/
theorem F33 : CC.F.get 33 = some Go.Proofs.Tryz.f33 := by kernel_rfl
theorem F33_eq (t0 : V) (h : Heap) (n : Nat) (K : V → Heap → Nat → Prop) : Wp CC (bodyOf Go.Proofs.Tryz.f33) ⟨initTm Go.Proofs.Tryz.f33 [t0], h, n, []⟩ (retW CC Go.Proofs.Tryz.f33 K) = (
oK (rNil t0) fun v1 =>
oK (rFA CC 140 0 v1) fun v2 =>
oK (normO (rLoad CC 22 h v2)) fun v3 =>
oK (rNil t0) fun v4 =>
oK (rFA CC 140 1 v4) fun v5 =>
oK (normO (rLoad CC 3 h v5)) fun v6 =>
oK (sliceOp CC 22 v3 (some v6) none none) fun v7 =>
CallK CC 74 [v7] h (n + 11) fun v8 h9 n10 =>
(True ∧ True ∧ True) ∧
K v8 h9 n10) := Wp.eq_of (by kernel_rfl)
theorem F33_call {t0 : V} {h : Heap} {n : Nat} {K : V → Heap → Nat → Prop} (H : (∀ b o, h.get b = some o → b < n) → Wp CC (bodyOf Go.Proofs.Tryz.f33) ⟨initTm Go.Proofs.Tryz.f33 [t0], h, n, []⟩ (retW CC Go.Proofs.Tryz.f33 K)) : CallK CC 33 [t0] h n K := by
  have := @callK_of CC CCok 33 Go.Proofs.Tryz.f33 (bodyOf Go.Proofs.Tryz.f33) [t0] h n K F33
  refine this ?_ ?_ ?_
  · kernel_rfl
  · kernel_rfl
  · exact H

/-! F36 lockgate/mem.New -/
theorem F36 : CC.F.get 36 = some Go.Proofs.Tryz.f36 := by kernel_rfl
theorem F36_eq (t0 : V) (h : Heap) (n : Nat) (K : V → Heap → Nat → Prop) : Wp CC (bodyOf Go.Proofs.Tryz.f36) ⟨initTm Go.Proofs.Tryz.f36 [t0], h, n, []⟩ (retW CC Go.Proofs.Tryz.f36 K) = (
oK (lenV CC h 22 t0) fun v1 =>
oK (binop CC .gtr 3 true v1 (.s (.int .i64 65535))) fun v2 =>
oK (asBool v2) fun b3 => bif b3 then (
K (.tup [(.s (.pointer none)), (.s (.int .i64 3))]) h n) else (
oK (lenV CC h 22 t0) fun v4 =>
oK (binop CC .add 3 true (.s (.int .i64 64)) v4) fun v5 =>
oK (asNat v5) fun l6 => oK (asNat v5) fun c7 =>
bif Nat.ble l6 c7 && (Nat.ble (1 * c7) 281474976710656 && (Nat.blt c7 9223372036854775808 && true)) then (
let h8 := h.set n (.cells (.lst ((zr CC 5).rep c7).toList) 1); let n9 := n + 1;
oK (sliceOp CC 22 (.slice n 0 l6 c7 false) (some (.s (.int .i64 64))) none none) fun v10 =>
copyK CC h8 22 v10 t0 fun v11 h12 =>
oK (normO (build CC 140 [(0, (.slice n 0 l6 c7 false)), (1, (.s (.int .i64 64)))])) fun v13 =>
oK (V.cells v13) fun c14 =>
let h15 := h12.set n9 (.cells (.lst c14.toList) 2); let n16 := n9 + 1;
K (.tup [(.ptr n9 0), (.s (.int .i64 0))]) h15 n16) else False)) := Wp.eq_of (by kernel_rfl)
theorem F36_call {t0 : V} {h : Heap} {n : Nat} {K : V → Heap → Nat → Prop} (H : (∀ b o, h.get b = some o → b < n) → Wp CC (bodyOf Go.Proofs.Tryz.f36) ⟨initTm Go.Proofs.Tryz.f36 [t0], h, n, []⟩ (retW CC Go.Proofs.Tryz.f36 K)) : CallK CC 36 [t0] h n K := by
  have := @callK_of CC CCok 36 Go.Proofs.Tryz.f36 (bodyOf Go.Proofs.Tryz.f36) [t0] h n K F36
  refine this ?_ ?_ ?_
  · kernel_rfl
  · kernel_rfl
  · exact H

/-! F37 lockgate/helper.NewDraws -/
theorem F37 : CC.F.get 37 = some Go.Proofs.Tryz.f37 := by kernel_rfl
theorem F37_eq (h : Heap) (n : Nat) (K : V → Heap → Nat → Prop) : Wp CC (bodyOf Go.Proofs.Tryz.f37) ⟨initTm Go.Proofs.Tryz.f37 ([] : List V), h, n, []⟩ (retW CC Go.Proofs.Tryz.f37 K) = (
oK (normO (build CC 107 [])) fun v1 =>
oK (V.cells v1) fun c2 =>
let h3 := h.set n (.cells (.lst c2.toList) 1); let n4 := n + 1;
K (.ptr n 0) h3 n4) := Wp.eq_of (by kernel_rfl)
theorem F37_call {h : Heap} {n : Nat} {K : V → Heap → Nat → Prop} (H : (∀ b o, h.get b = some o → b < n) → Wp CC (bodyOf Go.Proofs.Tryz.f37) ⟨initTm Go.Proofs.Tryz.f37 ([] : List V), h, n, []⟩ (retW CC Go.Proofs.Tryz.f37 K)) : CallK CC 37 [] h n K := by
  have := @callK_of CC CCok 37 Go.Proofs.Tryz.f37 (bodyOf Go.Proofs.Tryz.f37) [] h n K F37
  refine this ?_ ?_ ?_
  · kernel_rfl
  · kernel_rfl
  · exact H

/-! F39 lockgate/frame.Start -/
theorem F39 : CC.F.get 39 = some Go.Proofs.Tryz.f39 := by kernel_rfl
theorem F39_eq (t0 t1 : V) (h : Heap) (n : Nat) (K : V → Heap → Nat → Prop) : Wp CC (bodyOf Go.Proofs.Tryz.f39) ⟨initTm Go.Proofs.Tryz.f39 [t0, t1], h, n, []⟩ (retW CC Go.Proofs.Tryz.f39 K) = (
let h1 := h.set n (.cells (.lst (zr CC 43).toList) 804); let n2 := n + 1;
oK (normO (build CC 28 [(0, (.s (.int .i64 5)))])) fun v3 =>
oK (normO (build CC 28 [(0, (.s (.int .i64 4)))])) fun v4 =>
oK (normO (build CC 37 [(1, v3), (10, v4)])) fun v5 =>
oK (normO (build CC 43 [(0, t0), (2, t1), (3, v5)])) fun v6 =>
oK (asPtr (.ptr n 0)) fun p7 => oK (store CC h1 43 p7.1 p7.2 v6) fun h8 =>
oK (resultsOf CC (mkTm [t0, t1, undefV, undefV, (.ptr n 0), t0, t1, v3, v4, v5, v6]) h8 [.cell 4 43]) fun vs => K (oneOf vs) h8 n2) := Wp.eq_of (by kernel_rfl)
theorem F39_call {t0 t1 : V} {h : Heap} {n : Nat} {K : V → Heap → Nat → Prop} (H : (∀ b o, h.get b = some o → b < n) → Wp CC (bodyOf Go.Proofs.Tryz.f39) ⟨initTm Go.Proofs.Tryz.f39 [t0, t1], h, n, []⟩ (retW CC Go.Proofs.Tryz.f39 K)) : CallK CC 39 [t0, t1] h n K := by
  have := @callK_of CC CCok 39 Go.Proofs.Tryz.f39 (bodyOf Go.Proofs.Tryz.f39) [t0, t1] h n K F39
  refine this ?_ ?_ ?_
  · kernel_rfl
  · kernel_rfl
  · exact H

/-! F40 lockgate/mem.StackFill -/
theorem F40 : CC.F.get 40 = some Go.Proofs.Tryz.f40 := by kernel_rfl
theorem F40_eq (t0 t1 t2 : V) (h : Heap) (n : Nat) (K : V → Heap → Nat → Prop) : Wp CC (bodyOf Go.Proofs.Tryz.f40) ⟨initTm Go.Proofs.Tryz.f40 [t0, t1, t2], h, n, []⟩ (retW CC Go.Proofs.Tryz.f40 K) = (
oK (lenV CC h 22 t2) fun v1 =>
oK (binop CC .gtr 3 true v1 (.s (.int .i64 64))) fun v2 =>
oK (bif (rWant false v2) then some t1 else some undefV) fun v3 =>
oK (bif (rWant false v2) then some t2 else some undefV) fun v4 =>
oK (bif (rWant false v2) then lenV CC h 22 v4 else some undefV) fun v5 =>
let k6 := fun (v7 : V) (h8 : Heap) (n9 : Nat) => (
oK (bif (rWant false v2) then rUn CC .not v7 else some undefV) fun v10 =>
oK (rPick v2 (.s (.bool true)) v10) fun v11 =>
oK (asBool v11) fun b12 => bif b12 then (
K (.s (.int .i64 22)) h8 n9) else (
CallK CC 76 [t0, t1, t2] h8 n9 fun v13 h14 n15 =>
K (.s (.int .i64 0)) h14 n15));
bif (rWant false v2) then (CallK CC 75 [v3, v5] h n fun v16 h17 n18 =>
k6 v16 h17 n18) else k6 undefV h n) := Wp.eq_of (by kernel_rfl)
theorem F40_call {t0 t1 t2 : V} {h : Heap} {n : Nat} {K : V → Heap → Nat → Prop} (H : (∀ b o, h.get b = some o → b < n) → Wp CC (bodyOf Go.Proofs.Tryz.f40) ⟨initTm Go.Proofs.Tryz.f40 [t0, t1, t2], h, n, []⟩ (retW CC Go.Proofs.Tryz.f40 K)) : CallK CC 40 [t0, t1, t2] h n K := by
  have := @callK_of CC CCok 40 Go.Proofs.Tryz.f40 (bodyOf Go.Proofs.Tryz.f40) [t0, t1, t2] h n K F40
  refine this ?_ ?_ ?_
  · kernel_rfl
  · kernel_rfl
  · exact H

/-! F48 (*lockgate/helper.call).copied -/
theorem F48 : CC.F.get 48 = some Go.Proofs.Tryz.f48 := by kernel_rfl
theorem F48_eq (t0 : V) (h : Heap) (n : Nat) (K : V → Heap → Nat → Prop) : Wp CC (bodyOf Go.Proofs.Tryz.f48) ⟨initTm Go.Proofs.Tryz.f48 [t0], h, n, []⟩ (retW CC Go.Proofs.Tryz.f48 K) = (
fillK 1 ((zr CC 149).rep 4) [(0, (.s (.int .i64 2))), (1, (.s (.int .i64 3))), (2, (.s (.int .i64 5))), (3, (.s (.int .i64 4)))] fun c1 =>
let h2 := h.set n (.cells (.lst c1) 1); let n3 := n + 1;
CallK CC 86 [t0, (.slice n 0 4 4 false)] h2 n3 fun v4 h5 n6 =>
oK (binop CC .neq 45 true v4 (.s (.int .i64 0))) fun v7 =>
oK (asBool v7) fun b8 => bif b8 then (
K (.tup [(.s (.int .i64 0)), v4]) h5 n6) else (
oK (rNil t0) fun v9 =>
oK (rFA CC 100 0 v9) fun v10 =>
oK (normO (rLoad CC 33 h5 v10)) fun v11 =>
oK (rNil v11) fun v12 =>
oK (rFA CC 57 1 v12) fun v13 =>
oK (normO (rLoad CC 54 h5 v13)) fun v14 =>
oK (rNil t0) fun v15 =>
oK (rFA CC 100 1 v15) fun v16 =>
oK (normO (rLoad CC 34 h5 v16)) fun v17 =>
oK (rNil v17) fun v18 =>
oK (rFA CC 43 3 v18) fun v19 =>
oK (indexAddr CC 37 v19 (.s (.int .i64 2))) fun v20 =>
oK (rFA CC 28 1 v20) fun v21 =>
oK (normO (rLoad CC 23 h5 v21)) fun v22 =>
oK (rNil t0) fun v23 =>
oK (rFA CC 100 1 v23) fun v24 =>
oK (normO (rLoad CC 34 h5 v24)) fun v25 =>
oK (rNil v25) fun v26 =>
oK (rFA CC 43 3 v26) fun v27 =>
oK (indexAddr CC 37 v27 (.s (.int .i64 4))) fun v28 =>
oK (rFA CC 28 1 v28) fun v29 =>
oK (normO (rLoad CC 23 h5 v29)) fun v30 =>
CallK CC 33 [v14] h5 (n6 + 29) fun v31 h32 n33 =>
(normO (rLoad CC 23 h32 v29) = some v30 ∧ normO (rLoad CC 34 h32 v24) = some v25 ∧ normO (rLoad CC 23 h32 v21) = some v22 ∧ normO (rLoad CC 34 h32 v16) = some v17 ∧ True ∧ True ∧ True) ∧
oK (asNat v30) fun l34 => oK (asNat v30) fun c35 =>
bif Nat.ble l34 c35 && (Nat.ble (1 * c35) 281474976710656 && (Nat.blt c35 9223372036854775808 && true)) then (
let h36 := h32.set n33 (.cells (.lst ((zr CC 5).rep c35).toList) 1); let n37 := n33 + 1;
oK (lenV CC h36 22 v31) fun v38 =>
oK (convert CC h36 3 23 v38) fun v39 =>
oK (binop CC .leq 23 false v22 v39) fun v40 =>
oK (bif (rWant true v40) then some v30 else some undefV) fun v41 =>
oK (bif (rWant true v40) then some v31 else some undefV) fun v42 =>
oK (bif (rWant true v40) then lenV CC h36 22 v42 else some undefV) fun v43 =>
oK (bif (rWant true v40) then convert CC h36 3 23 v43 else some undefV) fun v44 =>
oK (bif (rWant true v40) then some v22 else some undefV) fun v45 =>
oK (bif (rWant true v40) then binop CC .sub 23 false v44 v45 else some undefV) fun v46 =>
oK (bif (rWant true v40) then binop CC .leq 23 false v41 v46 else some undefV) fun v47 =>
oK (rPick v40 v47 (.s (.bool false))) fun v48 =>
oK (asBool v48) fun b49 => bif b49 then (
oK (sliceOp CC 22 v31 (some v22) none none) fun v50 =>
copyK CC h36 22 (.slice n33 0 l34 c35 false) v50 fun v51 h52 =>
oK (rNil t0) fun v53 =>
oK (rFA CC 100 1 v53) fun v54 =>
oK (normO (rLoad CC 34 h52 v54)) fun v55 =>
oK (rNil t0) fun v56 =>
oK (rFA CC 100 1 v56) fun v57 =>
oK (normO (rLoad CC 34 h52 v57)) fun v58 =>
oK (rNil v58) fun v59 =>
oK (rFA CC 43 3 v59) fun v60 =>
oK (indexAddr CC 37 v60 (.s (.int .i64 3))) fun v61 =>
oK (rFA CC 28 1 v61) fun v62 =>
oK (normO (rLoad CC 23 h52 v62)) fun v63 =>
oK (convert CC .leaf 23 3 v63) fun v64 =>
CallK CC 40 [v55, v64, (.slice n33 0 l34 c35 false)] h52 (n37 + 17) fun v65 h66 n67 =>
(True ∧ True ∧ True ∧ True) ∧
oK (binop CC .neq 45 true v65 (.s (.int .i64 0))) fun v68 =>
oK (asBool v68) fun b69 => bif b69 then (
K (.tup [(.s (.int .i64 0)), v65]) h66 n67) else (
CallK CC 83 [t0, (.s (.int .i64 0))] h66 n67 fun v70 h71 n72 =>
oK (rExt v70 0) fun v73 =>
oK (rExt v70 1) fun v74 =>
K (.tup [v73, v74]) h71 n72)) else (
oK (rNil t0) fun v75 =>
oK (rFA CC 100 1 v75) fun v76 =>
oK (normO (rLoad CC 34 h36 v76)) fun v77 =>
oK (rNil t0) fun v78 =>
oK (rFA CC 100 1 v78) fun v79 =>
oK (normO (rLoad CC 34 h36 v79)) fun v80 =>
oK (rNil v80) fun v81 =>
oK (rFA CC 43 3 v81) fun v82 =>
oK (indexAddr CC 37 v82 (.s (.int .i64 3))) fun v83 =>
oK (rFA CC 28 1 v83) fun v84 =>
oK (normO (rLoad CC 23 h36 v84)) fun v85 =>
oK (convert CC .leaf 23 3 v85) fun v86 =>
CallK CC 40 [v77, v86, (.slice n33 0 l34 c35 false)] h36 (n37 + 17) fun v87 h88 n89 =>
(True ∧ True ∧ True ∧ True) ∧
oK (binop CC .neq 45 true v87 (.s (.int .i64 0))) fun v90 =>
oK (asBool v90) fun b91 => bif b91 then (
K (.tup [(.s (.int .i64 0)), v87]) h88 n89) else (
CallK CC 83 [t0, (.s (.int .i64 22))] h88 n89 fun v92 h93 n94 =>
oK (rExt v92 0) fun v95 =>
oK (rExt v92 1) fun v96 =>
K (.tup [v95, v96]) h93 n94))) else False)) := Wp.eq_of (by kernel_rfl)
theorem F48_call {t0 : V} {h : Heap} {n : Nat} {K : V → Heap → Nat → Prop} (H : (∀ b o, h.get b = some o → b < n) → Wp CC (bodyOf Go.Proofs.Tryz.f48) ⟨initTm Go.Proofs.Tryz.f48 [t0], h, n, []⟩ (retW CC Go.Proofs.Tryz.f48 K)) : CallK CC 48 [t0] h n K := by
  have := @callK_of CC CCok 48 Go.Proofs.Tryz.f48 (bodyOf Go.Proofs.Tryz.f48) [t0] h n K F48
  refine this ?_ ?_ ?_
  · kernel_rfl
  · kernel_rfl
  · exact H

/-! F50 lockgate/mem.StackBytes -/
theorem F50 : CC.F.get 50 = some Go.Proofs.Tryz.f50 := by kernel_rfl
theorem F50_eq (t0 t1 t2 : V) (h : Heap) (n : Nat) (K : V → Heap → Nat → Prop) : Wp CC (bodyOf Go.Proofs.Tryz.f50) ⟨initTm Go.Proofs.Tryz.f50 [t0, t1, t2], h, n, []⟩ (retW CC Go.Proofs.Tryz.f50 K) = (
oK (binop CC .lss 3 true t2 (.s (.int .i64 0))) fun v1 =>
oK (bif (rWant false v1) then some t2 else some undefV) fun v2 =>
oK (bif (rWant false v1) then binop CC .gtr 3 true v2 (.s (.int .i64 64)) else some undefV) fun v3 =>
oK (rPick v1 (.s (.bool true)) v3) fun v4 =>
oK (bif (rWant false v4) then some t1 else some undefV) fun v5 =>
oK (bif (rWant false v4) then some t2 else some undefV) fun v6 =>
let k7 := fun (v8 : V) (h9 : Heap) (n10 : Nat) => (
oK (bif (rWant false v4) then rUn CC .not v8 else some undefV) fun v11 =>
oK (rPick v4 (.s (.bool true)) v11) fun v12 =>
oK (asBool v12) fun b13 => bif b13 then (
K (.tup [(.s (.slice none 0 0)), (.s (.int .i64 22))]) h9 n10) else (
CallK CC 90 [t0, t1, t2] h9 n10 fun v14 h15 n16 =>
oK (rExt v14 0) fun v17 =>
oK (rExt v14 1) fun v18 =>
K (.tup [v17, v18]) h15 n16));
bif (rWant false v4) then (CallK CC 75 [v5, v6] h n fun v19 h20 n21 =>
k7 v19 h20 n21) else k7 undefV h n) := Wp.eq_of (by kernel_rfl)
theorem F50_call {t0 t1 t2 : V} {h : Heap} {n : Nat} {K : V → Heap → Nat → Prop} (H : (∀ b o, h.get b = some o → b < n) → Wp CC (bodyOf Go.Proofs.Tryz.f50) ⟨initTm Go.Proofs.Tryz.f50 [t0, t1, t2], h, n, []⟩ (retW CC Go.Proofs.Tryz.f50 K)) : CallK CC 50 [t0, t1, t2] h n K := by
  have := @callK_of CC CCok 50 Go.Proofs.Tryz.f50 (bodyOf Go.Proofs.Tryz.f50) [t0, t1, t2] h n K F50
  refine this ?_ ?_ ?_
  · kernel_rfl
  · kernel_rfl
  · exact H

/-! F56 lockgate/cells.New -/
theorem F56 : CC.F.get 56 = some Go.Proofs.Tryz.f56 := by kernel_rfl
theorem F56_eq (h : Heap) (n : Nat) (K : V → Heap → Nat → Prop) : Wp CC (bodyOf Go.Proofs.Tryz.f56) ⟨initTm Go.Proofs.Tryz.f56 ([] : List V), h, n, []⟩ (retW CC Go.Proofs.Tryz.f56 K) = (
let h1 := h.set n (.map [] 0); let n2 := n + 1;
oK (normO (build CC 169 [(0, (.map n))])) fun v3 =>
oK (V.cells v3) fun c4 =>
let h5 := h1.set n2 (.cells (.lst c4.toList) 2); let n6 := n2 + 1;
K (.ptr n2 0) h5 n6) := Wp.eq_of (by kernel_rfl)
theorem F56_call {h : Heap} {n : Nat} {K : V → Heap → Nat → Prop} (H : (∀ b o, h.get b = some o → b < n) → Wp CC (bodyOf Go.Proofs.Tryz.f56) ⟨initTm Go.Proofs.Tryz.f56 ([] : List V), h, n, []⟩ (retW CC Go.Proofs.Tryz.f56 K)) : CallK CC 56 [] h n K := by
  have := @callK_of CC CCok 56 Go.Proofs.Tryz.f56 (bodyOf Go.Proofs.Tryz.f56) [] h n K F56
  refine this ?_ ?_ ?_
  · kernel_rfl
  · kernel_rfl
  · exact H

/-! F74 slices.Clone[[]byte,byte] -/
theorem F74 : CC.F.get 74 = some Go.Proofs.Tryz.f74 := by kernel_rfl
theorem F74_eq (t0 : V) (h : Heap) (n : Nat) (K : V → Heap → Nat → Prop) : Wp CC (bodyOf Go.Proofs.Tryz.f74) ⟨initTm Go.Proofs.Tryz.f74 [t0], h, n, []⟩ (retW CC Go.Proofs.Tryz.f74 K) = (
oK (binop CC .eql 22 true t0 (.s (.slice none 0 0))) fun v1 =>
oK (asBool v1) fun b2 => bif b2 then (
K (.s (.slice none 0 0)) h n) else (
fillK 1 ((zr CC 5).rep 0) [] fun c3 =>
let h4 := h.set n (.cells (.lst c3) 1); let n5 := n + 1;
appendK CC h4 n5 22 22 (.slice n 0 0 0 false) t0 fun v6 h7 n8 =>
K v6 h7 n8)) := Wp.eq_of (by kernel_rfl)
theorem F74_call {t0 : V} {h : Heap} {n : Nat} {K : V → Heap → Nat → Prop} (H : (∀ b o, h.get b = some o → b < n) → Wp CC (bodyOf Go.Proofs.Tryz.f74) ⟨initTm Go.Proofs.Tryz.f74 [t0], h, n, []⟩ (retW CC Go.Proofs.Tryz.f74 K)) : CallK CC 74 [t0] h n K := by
  have := @callK_of CC CCok 74 Go.Proofs.Tryz.f74 (bodyOf Go.Proofs.Tryz.f74) [t0] h n K F74
  refine this ?_ ?_ ?_
  · kernel_rfl
  · kernel_rfl
  · exact H

/-! F75 lockgate/mem.on -/
theorem F75 : CC.F.get 75 = some Go.Proofs.Tryz.f75 := by kernel_rfl
theorem F75_eq (t0 t1 : V) (h : Heap) (n : Nat) (K : V → Heap → Nat → Prop) : Wp CC (bodyOf Go.Proofs.Tryz.f75) ⟨initTm Go.Proofs.Tryz.f75 [t0, t1], h, n, []⟩ (retW CC Go.Proofs.Tryz.f75 K) = (
oK (binop CC .geq 3 true t0 (.s (.int .i64 (-512)))) fun v1 =>
oK (bif (rWant true v1) then some t0 else some undefV) fun v2 =>
oK (bif (rWant true v1) then binop CC .leq 3 true v2 (.s (.int .i64 0)) else some undefV) fun v3 =>
oK (rPick v1 v3 (.s (.bool false))) fun v4 =>
oK (bif (rWant true v4) then some t1 else some undefV) fun v5 =>
oK (bif (rWant true v4) then binop CC .geq 3 true v5 (.s (.int .i64 0)) else some undefV) fun v6 =>
oK (rPick v4 v6 (.s (.bool false))) fun v7 =>
oK (bif (rWant true v7) then some t1 else some undefV) fun v8 =>
oK (bif (rWant true v7) then some t0 else some undefV) fun v9 =>
oK (bif (rWant true v7) then rUn CC .neg v9 else some undefV) fun v10 =>
oK (bif (rWant true v7) then binop CC .leq 3 false v8 v10 else some undefV) fun v11 =>
oK (rPick v7 v11 (.s (.bool false))) fun v12 =>
K v12 h n) := Wp.eq_of (by kernel_rfl)
theorem F75_call {t0 t1 : V} {h : Heap} {n : Nat} {K : V → Heap → Nat → Prop} (H : (∀ b o, h.get b = some o → b < n) → Wp CC (bodyOf Go.Proofs.Tryz.f75) ⟨initTm Go.Proofs.Tryz.f75 [t0, t1], h, n, []⟩ (retW CC Go.Proofs.Tryz.f75 K)) : CallK CC 75 [t0, t1] h n K := by
  have := @callK_of CC CCok 75 Go.Proofs.Tryz.f75 (bodyOf Go.Proofs.Tryz.f75) [t0, t1] h n K F75
  refine this ?_ ?_ ?_
  · kernel_rfl
  · kernel_rfl
  · exact H

/-! F76 lockgate/mem.lay -/
theorem F76 : CC.F.get 76 = some Go.Proofs.Tryz.f76 := by kernel_rfl
theorem F76_eq (t0 t1 t2 : V) (h : Heap) (n : Nat) (K : V → Heap → Nat → Prop) : Wp CC (bodyOf Go.Proofs.Tryz.f76) ⟨initTm Go.Proofs.Tryz.f76 [t0, t1, t2], h, n, []⟩ (retW CC Go.Proofs.Tryz.f76 K) = (
oK (lenV CC h 22 t2) fun v1 =>
LoopK CC none (subC [1, 0, 0] (bodyOf Go.Proofs.Tryz.f76)) ⟨mkTm [t0, t1, t2, undefV, undefV, undefV, undefV, undefV, undefV, undefV, undefV, t2, v1, (.s (.int .i64 0)), undefV, undefV, undefV, undefV, undefV, undefV, undefV, undefV, undefV, undefV, undefV, undefV, undefV, undefV, undefV, undefV, undefV, undefV, undefV, undefV, undefV, undefV, undefV, undefV, undefV, undefV, undefV, undefV, undefV, undefV, undefV, undefV, undefV, undefV, undefV, undefV, undefV, undefV, undefV, undefV, undefV], h, n, []⟩ (resume CC none [.blk 0] (retW CC Go.Proofs.Tryz.f76 K))) := Wp.eq_of (by kernel_rfl)
theorem F76_call {t0 t1 t2 : V} {h : Heap} {n : Nat} {K : V → Heap → Nat → Prop} (H : (∀ b o, h.get b = some o → b < n) → Wp CC (bodyOf Go.Proofs.Tryz.f76) ⟨initTm Go.Proofs.Tryz.f76 [t0, t1, t2], h, n, []⟩ (retW CC Go.Proofs.Tryz.f76 K)) : CallK CC 76 [t0, t1, t2] h n K := by
  have := @callK_of CC CCok 76 Go.Proofs.Tryz.f76 (bodyOf Go.Proofs.Tryz.f76) [t0, t1, t2] h n K F76
  refine this ?_ ?_ ?_
  · kernel_rfl
  · kernel_rfl
  · exact H

def F76_L100 (t0 t1 t11 t12 t13 : V) (h : Heap) (n : Nat) (s : St) : Prop := ∃ f : Nat → V, s = ⟨mkTm [t0, t1, (f 2), (f 3), (f 4), (f 5), (f 6), (f 7), (f 8), (f 9), (f 10), t11, t12, t13, (f 14), (f 15), (f 16), (f 17), (f 18), (f 19), (f 20), (f 21), (f 22), (f 23), (f 24), (f 25), (f 26), (f 27), (f 28), (f 29), (f 30), (f 31), (f 32), (f 33), (f 34), (f 35), (f 36), (f 37), (f 38), (f 39), (f 40), (f 41), (f 42), (f 43), (f 44), (f 45), (f 46), (f 47), (f 48), (f 49), (f 50), (f 51), (f 52), (f 53), (f 54)], h, n, []⟩
theorem F76_L100_of {t0 t1 t11 t12 t13 : V} {t2 t3 t4 t5 t6 t7 t8 t9 t10 t14 t15 t16 t17 t18 t19 t20 t21 t22 t23 t24 t25 t26 t27 t28 t29 t30 t31 t32 t33 t34 t35 t36 t37 t38 t39 t40 t41 t42 t43 t44 t45 t46 t47 t48 t49 t50 t51 t52 t53 t54 : V} {h : Heap} {n : Nat} : F76_L100 t0 t1 t11 t12 t13 h n ⟨mkTm [t0, t1, t2, t3, t4, t5, t6, t7, t8, t9, t10, t11, t12, t13, t14, t15, t16, t17, t18, t19, t20, t21, t22, t23, t24, t25, t26, t27, t28, t29, t30, t31, t32, t33, t34, t35, t36, t37, t38, t39, t40, t41, t42, t43, t44, t45, t46, t47, t48, t49, t50, t51, t52, t53, t54], h, n, []⟩ :=
  ⟨fun i => ([t0, t1, t2, t3, t4, t5, t6, t7, t8, t9, t10, t11, t12, t13, t14, t15, t16, t17, t18, t19, t20, t21, t22, t23, t24, t25, t26, t27, t28, t29, t30, t31, t32, t33, t34, t35, t36, t37, t38, t39, t40, t41, t42, t43, t44, t45, t46, t47, t48, t49, t50, t51, t52, t53, t54] : List V).getD i undefV, by kernel_rfl⟩
theorem F76_L100_elim {t0 t1 t11 t12 t13 : V} {h : Heap} {n : Nat} {s : St} {P : St → Prop} (hs : F76_L100 t0 t1 t11 t12 t13 h n s) (H : ∀ t2 t3 t4 t5 t6 t7 t8 t9 t10 t14 t15 t16 t17 t18 t19 t20 t21 t22 t23 t24 t25 t26 t27 t28 t29 t30 t31 t32 t33 t34 t35 t36 t37 t38 t39 t40 t41 t42 t43 t44 t45 t46 t47 t48 t49 t50 t51 t52 t53 t54 : V, P ⟨mkTm [t0, t1, t2, t3, t4, t5, t6, t7, t8, t9, t10, t11, t12, t13, t14, t15, t16, t17, t18, t19, t20, t21, t22, t23, t24, t25, t26, t27, t28, t29, t30, t31, t32, t33, t34, t35, t36, t37, t38, t39, t40, t41, t42, t43, t44, t45, t46, t47, t48, t49, t50, t51, t52, t53, t54], h, n, []⟩) : P s := by
  obtain ⟨f, rfl⟩ := hs
  exact H (f 2) (f 3) (f 4) (f 5) (f 6) (f 7) (f 8) (f 9) (f 10) (f 14) (f 15) (f 16) (f 17) (f 18) (f 19) (f 20) (f 21) (f 22) (f 23) (f 24) (f 25) (f 26) (f 27) (f 28) (f 29) (f 30) (f 31) (f 32) (f 33) (f 34) (f 35) (f 36) (f 37) (f 38) (f 39) (f 40) (f 41) (f 42) (f 43) (f 44) (f 45) (f 46) (f 47) (f 48) (f 49) (f 50) (f 51) (f 52) (f 53) (f 54)

theorem F76_b100 (t0 t1 t2 t3 t4 t5 t6 t7 t8 t9 t10 t11 t12 t13 t14 t15 t16 t17 t18 t19 t20 t21 t22 t23 t24 t25 t26 t27 t28 t29 t30 t31 t32 t33 t34 t35 t36 t37 t38 t39 t40 t41 t42 t43 t44 t45 t46 t47 t48 t49 t50 t51 t52 t53 t54 : V) (h : Heap) (n : Nat) (Q : X → St → Prop) : Wp CC (subC [1, 0, 0] (bodyOf Go.Proofs.Tryz.f76)) ⟨mkTm [t0, t1, t2, t3, t4, t5, t6, t7, t8, t9, t10, t11, t12, t13, t14, t15, t16, t17, t18, t19, t20, t21, t22, t23, t24, t25, t26, t27, t28, t29, t30, t31, t32, t33, t34, t35, t36, t37, t38, t39, t40, t41, t42, t43, t44, t45, t46, t47, t48, t49, t50, t51, t52, t53, t54], h, n, []⟩ Q = (
oK (binop CC .lss 3 false t13 t12) fun v2 =>
oK (asBool v2) fun b3 => bif b3 then (
oK (indexAddr CC 22 t11 t13) fun v4 =>
oK (normO (rLoad CC 5 h v4)) fun v5 =>
oK (binop CC .add 3 false t1 t13) fun v6 =>
CallK CC 110 [v6] h n fun v7 h8 n9 =>
oK (rExt v7 0) fun v10 =>
oK (rExt v7 1) fun v11 =>
oK (rNil t0) fun v12 =>
oK (rFA CC 43 4 v12) fun v13 =>
oK (indexAddr CC 41 v13 v10) fun v14 =>
oK (rNil v14) fun v15 =>
oK (rFA CC 40 0 v15) fun v16 =>
oK (rFA CC 28 0 v16) fun v17 =>
oK (normO (rLoad CC 3 h8 v17)) fun v18 =>
oK (binop CC .neq 3 true v18 (.s (.int .i64 0))) fun v19 =>
oK (asBool v19) fun b20 => bif b20 then (
oK (normO (build CC 40 [])) fun v21 =>
oK (rNil v14) fun v22 =>
oK (asPtr v22) fun p23 => oK (store CC h8 40 p23.1 p23.2 v21) fun h24 =>
oK (rNil v14) fun v25 =>
oK (rFA CC 40 1 v25) fun v26 =>
oK (indexAddr CC 38 v26 v11) fun v27 =>
oK (asPtr v27) fun p28 => oK (store CC h24 5 p28.1 p28.2 v5) fun h29 =>
oK (rNil v14) fun v30 =>
oK (rFA CC 40 2 v30) fun v31 =>
oK (normO (rLoad CC 5 h29 v31)) fun v32 =>
oK (binop CC .shl 5 true (.s (.int .u8 1)) v11) fun v33 =>
oK (binop CC .or 5 false v32 v33) fun v34 =>
oK (rNil v14) fun v35 =>
oK (rFA CC 40 2 v35) fun v36 =>
oK (asPtr v36) fun p37 => oK (store CC h29 5 p37.1 p37.2 v34) fun h38 =>
(True ∧ True) ∧
oK (binop CC .add 3 true t13 (.s (.int .i64 1))) fun v39 =>
Q .normal ⟨mkTm [t0, t1, t2, t3, t4, t5, t13, v5, v10, v11, v14, t11, t12, v39, v2, t13, v4, v5, v7, t1, t13, v6, v7, v10, v11, t0, v10, v12, v13, v14, v14, v15, v16, v17, v18, v19, v14, v21, v22, v14, v11, v5, v25, v26, v27, v14, v30, v31, v32, v11, v33, v34, v35, v36, v39], h38, (n9 + 10), []⟩) else (
oK (rNil v14) fun v40 =>
oK (rFA CC 40 1 v40) fun v41 =>
oK (indexAddr CC 38 v41 v11) fun v42 =>
oK (asPtr v42) fun p43 => oK (store CC h8 5 p43.1 p43.2 v5) fun h44 =>
oK (rNil v14) fun v45 =>
oK (rFA CC 40 2 v45) fun v46 =>
oK (normO (rLoad CC 5 h44 v46)) fun v47 =>
oK (binop CC .shl 5 true (.s (.int .u8 1)) v11) fun v48 =>
oK (binop CC .or 5 false v47 v48) fun v49 =>
oK (rNil v14) fun v50 =>
oK (rFA CC 40 2 v50) fun v51 =>
oK (asPtr v51) fun p52 => oK (store CC h44 5 p52.1 p52.2 v49) fun h53 =>
(True ∧ True) ∧
oK (binop CC .add 3 true t13 (.s (.int .i64 1))) fun v54 =>
Q .normal ⟨mkTm [t0, t1, t2, t3, t4, t5, t13, v5, v10, v11, v14, t11, t12, v54, v2, t13, v4, v5, v7, t1, t13, v6, v7, v10, v11, t0, v10, v12, v13, v14, v14, v15, v16, v17, v18, v19, t36, t37, t38, v14, v11, v5, v40, v41, v42, v14, v45, v46, v47, v11, v48, v49, v50, v51, v54], h53, (n9 + 10), []⟩)) else (
Q (.exit 0) ⟨mkTm [t0, t1, t2, t3, t4, t5, t6, t7, t8, t9, t10, t11, t12, t13, v2, t15, t16, t17, t18, t19, t20, t21, t22, t23, t24, t25, t26, t27, t28, t29, t30, t31, t32, t33, t34, t35, t36, t37, t38, t39, t40, t41, t42, t43, t44, t45, t46, t47, t48, t49, t50, t51, t52, t53, t54], h, n, []⟩)) := Wp.eq_of (by kernel_rfl)

theorem F76_r100_0 (t0 t1 t2 t3 t4 t5 t6 t7 t8 t9 t10 t11 t12 t13 t14 t15 t16 t17 t18 t19 t20 t21 t22 t23 t24 t25 t26 t27 t28 t29 t30 t31 t32 t33 t34 t35 t36 t37 t38 t39 t40 t41 t42 t43 t44 t45 t46 t47 t48 t49 t50 t51 t52 t53 t54 : V) (h : Heap) (n : Nat) (K : V → Heap → Nat → Prop) : resume CC none [.blk 0] (retW CC Go.Proofs.Tryz.f76 K) (.exit 0) ⟨mkTm [t0, t1, t2, t3, t4, t5, t6, t7, t8, t9, t10, t11, t12, t13, t14, t15, t16, t17, t18, t19, t20, t21, t22, t23, t24, t25, t26, t27, t28, t29, t30, t31, t32, t33, t34, t35, t36, t37, t38, t39, t40, t41, t42, t43, t44, t45, t46, t47, t48, t49, t50, t51, t52, t53, t54], h, n, []⟩ = (
K (.tup []) h n) := by kernel_rfl

/-! F77 lockgate/mem.sized -/
theorem F77 : CC.F.get 77 = some Go.Proofs.Tryz.f77 := by kernel_rfl
theorem F77_eq (t0 : V) (h : Heap) (n : Nat) (K : V → Heap → Nat → Prop) : Wp CC (bodyOf Go.Proofs.Tryz.f77) ⟨initTm Go.Proofs.Tryz.f77 [t0], h, n, []⟩ (retW CC Go.Proofs.Tryz.f77 K) = (
oK (binop CC .eql 3 true t0 (.s (.int .i64 1))) fun v1 =>
oK (bif (rWant false v1) then some t0 else some undefV) fun v2 =>
oK (bif (rWant false v1) then binop CC .eql 3 true v2 (.s (.int .i64 2)) else some undefV) fun v3 =>
oK (rPick v1 (.s (.bool true)) v3) fun v4 =>
oK (bif (rWant false v4) then some t0 else some undefV) fun v5 =>
oK (bif (rWant false v4) then binop CC .eql 3 true v5 (.s (.int .i64 4)) else some undefV) fun v6 =>
oK (rPick v4 (.s (.bool true)) v6) fun v7 =>
oK (bif (rWant false v7) then some t0 else some undefV) fun v8 =>
oK (bif (rWant false v7) then binop CC .eql 3 true v8 (.s (.int .i64 8)) else some undefV) fun v9 =>
oK (rPick v7 (.s (.bool true)) v9) fun v10 =>
K v10 h n) := Wp.eq_of (by kernel_rfl)
theorem F77_call {t0 : V} {h : Heap} {n : Nat} {K : V → Heap → Nat → Prop} (H : (∀ b o, h.get b = some o → b < n) → Wp CC (bodyOf Go.Proofs.Tryz.f77) ⟨initTm Go.Proofs.Tryz.f77 [t0], h, n, []⟩ (retW CC Go.Proofs.Tryz.f77 K)) : CallK CC 77 [t0] h n K := by
  have := @callK_of CC CCok 77 Go.Proofs.Tryz.f77 (bodyOf Go.Proofs.Tryz.f77) [t0] h n K F77
  refine this ?_ ?_ ?_
  · kernel_rfl
  · kernel_rfl
  · exact H

/-! F80 (*lockgate/helper.call).tells -/
theorem F80 : CC.F.get 80 = some Go.Proofs.Tryz.f80 := by kernel_rfl
theorem F80_eq (t0 t1 : V) (h : Heap) (n : Nat) (K : V → Heap → Nat → Prop) : Wp CC (bodyOf Go.Proofs.Tryz.f80) ⟨initTm Go.Proofs.Tryz.f80 [t0, t1], h, n, []⟩ (retW CC Go.Proofs.Tryz.f80 K) = (
oK (V.cells t1) fun c1 =>
let h2 := h.set n (.cells (.lst c1.toList) 3); let n3 := n + 1;
oK (rNil t0) fun v4 =>
oK (rFA CC 100 1 v4) fun v5 =>
oK (normO (rLoad CC 34 h2 v5)) fun v6 =>
CallK CC 111 [v6] h2 n3 fun v7 h8 n9 =>
oK (rNil t0) fun v10 =>
oK (rFA CC 100 1 v10) fun v11 =>
oK (normO (rLoad CC 34 h8 v11)) fun v12 =>
oK (normO (rLoad CC 28 h8 (.ptr n 0))) fun v13 =>
oK (rNil v12) fun v14 =>
oK (rFA CC 43 3 v14) fun v15 =>
oK (indexAddr CC 37 v15 (.s (.int .i64 0))) fun v16 =>
oK (asPtr v16) fun p17 => oK (store CC h8 28 p17.1 p17.2 v13) fun h18 =>
(True ∧ True ∧ True) ∧
K (.tup [(.s (.int .i64 0)), (.s (.int .i64 0))]) h18 (n9 + 9)) := Wp.eq_of (by kernel_rfl)
theorem F80_call {t0 t1 : V} {h : Heap} {n : Nat} {K : V → Heap → Nat → Prop} (H : (∀ b o, h.get b = some o → b < n) → Wp CC (bodyOf Go.Proofs.Tryz.f80) ⟨initTm Go.Proofs.Tryz.f80 [t0, t1], h, n, []⟩ (retW CC Go.Proofs.Tryz.f80 K)) : CallK CC 80 [t0, t1] h n K := by
  have := @callK_of CC CCok 80 Go.Proofs.Tryz.f80 (bodyOf Go.Proofs.Tryz.f80) [t0, t1] h n K F80
  refine this ?_ ?_ ?_
  · kernel_rfl
  · kernel_rfl
  · exact H

/-! F81 lockgate/value.Num -/
theorem F81 : CC.F.get 81 = some Go.Proofs.Tryz.f81 := by kernel_rfl
theorem F81_eq (t0 : V) (h : Heap) (n : Nat) (K : V → Heap → Nat → Prop) : Wp CC (bodyOf Go.Proofs.Tryz.f81) ⟨initTm Go.Proofs.Tryz.f81 [t0], h, n, []⟩ (retW CC Go.Proofs.Tryz.f81 K) = (
let h1 := h.set n (.cells (.lst (zr CC 28).toList) 3); let n2 := n + 1;
oK (normO (build CC 28 [(0, (.s (.int .i64 1))), (1, t0)])) fun v3 =>
oK (asPtr (.ptr n 0)) fun p4 => oK (store CC h1 28 p4.1 p4.2 v3) fun h5 =>
oK (resultsOf CC (mkTm [t0, undefV, (.ptr n 0), t0, v3]) h5 [.cell 2 28]) fun vs => K (oneOf vs) h5 n2) := Wp.eq_of (by kernel_rfl)
theorem F81_call {t0 : V} {h : Heap} {n : Nat} {K : V → Heap → Nat → Prop} (H : (∀ b o, h.get b = some o → b < n) → Wp CC (bodyOf Go.Proofs.Tryz.f81) ⟨initTm Go.Proofs.Tryz.f81 [t0], h, n, []⟩ (retW CC Go.Proofs.Tryz.f81 K)) : CallK CC 81 [t0] h n K := by
  have := @callK_of CC CCok 81 Go.Proofs.Tryz.f81 (bodyOf Go.Proofs.Tryz.f81) [t0] h n K F81
  refine this ?_ ?_ ?_
  · kernel_rfl
  · kernel_rfl
  · exact H

/-! F83 (*lockgate/helper.call).code -/
theorem F83 : CC.F.get 83 = some Go.Proofs.Tryz.f83 := by kernel_rfl
theorem F83_eq (t0 t1 : V) (h : Heap) (n : Nat) (K : V → Heap → Nat → Prop) : Wp CC (bodyOf Go.Proofs.Tryz.f83) ⟨initTm Go.Proofs.Tryz.f83 [t0, t1], h, n, []⟩ (retW CC Go.Proofs.Tryz.f83 K) = (
CallK CC 112 [t1] h n fun v1 h2 n3 =>
CallK CC 80 [t0, v1] h2 n3 fun v4 h5 n6 =>
oK (rExt v4 0) fun v7 =>
oK (rExt v4 1) fun v8 =>
K (.tup [v7, v8]) h5 n6) := Wp.eq_of (by kernel_rfl)
theorem F83_call {t0 t1 : V} {h : Heap} {n : Nat} {K : V → Heap → Nat → Prop} (H : (∀ b o, h.get b = some o → b < n) → Wp CC (bodyOf Go.Proofs.Tryz.f83) ⟨initTm Go.Proofs.Tryz.f83 [t0, t1], h, n, []⟩ (retW CC Go.Proofs.Tryz.f83 K)) : CallK CC 83 [t0, t1] h n K := by
  have := @callK_of CC CCok 83 Go.Proofs.Tryz.f83 (bodyOf Go.Proofs.Tryz.f83) [t0, t1] h n K F83
  refine this ?_ ?_ ?_
  · kernel_rfl
  · kernel_rfl
  · exact H

/-! F86 (*lockgate/helper.call).takes -/
theorem F86 : CC.F.get 86 = some Go.Proofs.Tryz.f86 := by kernel_rfl
theorem F86_eq (t0 t1 : V) (h : Heap) (n : Nat) (K : V → Heap → Nat → Prop) : Wp CC (bodyOf Go.Proofs.Tryz.f86) ⟨initTm Go.Proofs.Tryz.f86 [t0, t1], h, n, []⟩ (retW CC Go.Proofs.Tryz.f86 K) = (
oK (lenV CC h 188 t1) fun v1 =>
LoopK CC none (subC [1, 0, 1, 0, 0] (bodyOf Go.Proofs.Tryz.f86)) ⟨mkTm [t0, t1, undefV, undefV, (.s (.int .i64 0)), undefV, undefV, undefV, t1, v1, (.s (.int .i64 0)), undefV, undefV, undefV, undefV, undefV, undefV, undefV, undefV, undefV, undefV, undefV, undefV, undefV, undefV, undefV, undefV, undefV, undefV, undefV, undefV, undefV, undefV, undefV, undefV, undefV], h, n, []⟩ (resume CC none [.blk 0, .sq (subC [1, 1] (bodyOf Go.Proofs.Tryz.f86))] (retW CC Go.Proofs.Tryz.f86 K))) := Wp.eq_of (by kernel_rfl)
theorem F86_call {t0 t1 : V} {h : Heap} {n : Nat} {K : V → Heap → Nat → Prop} (H : (∀ b o, h.get b = some o → b < n) → Wp CC (bodyOf Go.Proofs.Tryz.f86) ⟨initTm Go.Proofs.Tryz.f86 [t0, t1], h, n, []⟩ (retW CC Go.Proofs.Tryz.f86 K)) : CallK CC 86 [t0, t1] h n K := by
  have := @callK_of CC CCok 86 Go.Proofs.Tryz.f86 (bodyOf Go.Proofs.Tryz.f86) [t0, t1] h n K F86
  refine this ?_ ?_ ?_
  · kernel_rfl
  · kernel_rfl
  · exact H

def F86_L10100 (t0 t8 t9 t10 : V) (h : Heap) (n : Nat) (s : St) : Prop := ∃ f : Nat → V, s = ⟨mkTm [t0, (f 1), (f 2), (f 3), (f 4), (f 5), (f 6), (f 7), t8, t9, t10, (f 11), (f 12), (f 13), (f 14), (f 15), (f 16), (f 17), (f 18), (f 19), (f 20), (f 21), (f 22), (f 23), (f 24), (f 25), (f 26), (f 27), (f 28), (f 29), (f 30), (f 31), (f 32), (f 33), (f 34), (f 35)], h, n, []⟩
theorem F86_L10100_of {t0 t8 t9 t10 : V} {t1 t2 t3 t4 t5 t6 t7 t11 t12 t13 t14 t15 t16 t17 t18 t19 t20 t21 t22 t23 t24 t25 t26 t27 t28 t29 t30 t31 t32 t33 t34 t35 : V} {h : Heap} {n : Nat} : F86_L10100 t0 t8 t9 t10 h n ⟨mkTm [t0, t1, t2, t3, t4, t5, t6, t7, t8, t9, t10, t11, t12, t13, t14, t15, t16, t17, t18, t19, t20, t21, t22, t23, t24, t25, t26, t27, t28, t29, t30, t31, t32, t33, t34, t35], h, n, []⟩ :=
  ⟨fun i => ([t0, t1, t2, t3, t4, t5, t6, t7, t8, t9, t10, t11, t12, t13, t14, t15, t16, t17, t18, t19, t20, t21, t22, t23, t24, t25, t26, t27, t28, t29, t30, t31, t32, t33, t34, t35] : List V).getD i undefV, by kernel_rfl⟩
theorem F86_L10100_elim {t0 t8 t9 t10 : V} {h : Heap} {n : Nat} {s : St} {P : St → Prop} (hs : F86_L10100 t0 t8 t9 t10 h n s) (H : ∀ t1 t2 t3 t4 t5 t6 t7 t11 t12 t13 t14 t15 t16 t17 t18 t19 t20 t21 t22 t23 t24 t25 t26 t27 t28 t29 t30 t31 t32 t33 t34 t35 : V, P ⟨mkTm [t0, t1, t2, t3, t4, t5, t6, t7, t8, t9, t10, t11, t12, t13, t14, t15, t16, t17, t18, t19, t20, t21, t22, t23, t24, t25, t26, t27, t28, t29, t30, t31, t32, t33, t34, t35], h, n, []⟩) : P s := by
  obtain ⟨f, rfl⟩ := hs
  exact H (f 1) (f 2) (f 3) (f 4) (f 5) (f 6) (f 7) (f 11) (f 12) (f 13) (f 14) (f 15) (f 16) (f 17) (f 18) (f 19) (f 20) (f 21) (f 22) (f 23) (f 24) (f 25) (f 26) (f 27) (f 28) (f 29) (f 30) (f 31) (f 32) (f 33) (f 34) (f 35)

theorem F86_b10100 (t0 t1 t2 t3 t4 t5 t6 t7 t8 t9 t10 t11 t12 t13 t14 t15 t16 t17 t18 t19 t20 t21 t22 t23 t24 t25 t26 t27 t28 t29 t30 t31 t32 t33 t34 t35 : V) (h : Heap) (n : Nat) (Q : X → St → Prop) : Wp CC (subC [1, 0, 1, 0, 0] (bodyOf Go.Proofs.Tryz.f86)) ⟨mkTm [t0, t1, t2, t3, t4, t5, t6, t7, t8, t9, t10, t11, t12, t13, t14, t15, t16, t17, t18, t19, t20, t21, t22, t23, t24, t25, t26, t27, t28, t29, t30, t31, t32, t33, t34, t35], h, n, []⟩ Q = (
oK (binop CC .lss 3 false t10 t9) fun v2 =>
oK (asBool v2) fun b3 => bif b3 then (
oK (indexAddr CC 188 t8 t10) fun v4 =>
oK (normO (rLoad CC 149 h v4)) fun v5 =>
oK (rNil t0) fun v6 =>
oK (rFA CC 100 1 v6) fun v7 =>
oK (normO (rLoad CC 34 h v7)) fun v8 =>
oK (binop CC .add 3 true t10 (.s (.int .i64 1))) fun v9 =>
oK (rNil v8) fun v10 =>
oK (rFA CC 43 3 v10) fun v11 =>
oK (indexAddr CC 37 v11 v9) fun v12 =>
oK (normO (rLoad CC 28 h v12)) fun v13 =>
let h14 := h.set n (.cells (.lst (zr CC 28).toList) 3); let n15 := n + 1;
oK (asPtr (.ptr n 0)) fun p16 => oK (store CC h14 28 p16.1 p16.2 v13) fun h17 =>
oK (rFA CC 28 0 (.ptr n 0)) fun v18 =>
oK (normO (rLoad CC 3 h17 v18)) fun v19 =>
oK (binop CC .eql 3 true v19 (.s (.int .i64 0))) fun v20 =>
oK (asBool v20) fun b21 => bif b21 then (
Q .ret ⟨mkTm [t0, t1, t2, t3, (.s (.int .i64 20)), t10, v5, (.ptr n 0), t8, t9, t10, v2, t10, v4, v5, t0, v6, v7, v8, t10, v9, v10, v11, v12, v13, v20, v18, v19, v20, t29, t30, t31, t32, t33, t34, t35], h17, n15, []⟩) else (
oK (normO (rLoad CC 28 h17 (.ptr n 0))) fun v22 =>
CallK CC 113 [t0, v5, v22] h17 n15 fun v23 h24 n25 =>
oK (rUn CC .not v23) fun v26 =>
oK (asBool v26) fun b27 => bif b27 then (
Q .ret ⟨mkTm [t0, t1, t2, t3, (.s (.int .i64 25)), t10, v5, (.ptr n 0), t8, t9, t10, v2, t10, v4, v5, t0, v6, v7, v8, t10, v9, v10, v11, v12, v13, v20, v18, v19, v20, v26, t0, v5, v22, v23, v26, t35], h24, n25, []⟩) else (
oK (binop CC .add 3 true t10 (.s (.int .i64 1))) fun v28 =>
Q .normal ⟨mkTm [t0, t1, t2, t3, t4, t10, v5, (.ptr n 0), t8, t9, v28, v2, t10, v4, v5, t0, v6, v7, v8, t10, v9, v10, v11, v12, v13, v20, v18, v19, v20, v26, t0, v5, v22, v23, v26, v28], h24, n25, []⟩))) else (
Q (.exit 0) ⟨mkTm [t0, t1, t2, t3, t4, t5, t6, t7, t8, t9, t10, v2, t12, t13, t14, t15, t16, t17, t18, t19, t20, t21, t22, t23, t24, t25, t26, t27, t28, t29, t30, t31, t32, t33, t34, t35], h, n, []⟩)) := Wp.eq_of (by kernel_rfl)

theorem F86_r10100_0 (t0 t1 t2 t3 t4 t5 t6 t7 t8 t9 t10 t11 t12 t13 t14 t15 t16 t17 t18 t19 t20 t21 t22 t23 t24 t25 t26 t27 t28 t29 t30 t31 t32 t33 t34 t35 : V) (h : Heap) (n : Nat) (K : V → Heap → Nat → Prop) : resume CC none [.blk 0, .sq (subC [1, 1] (bodyOf Go.Proofs.Tryz.f86))] (retW CC Go.Proofs.Tryz.f86 K) (.exit 0) ⟨mkTm [t0, t1, t2, t3, t4, t5, t6, t7, t8, t9, t10, t11, t12, t13, t14, t15, t16, t17, t18, t19, t20, t21, t22, t23, t24, t25, t26, t27, t28, t29, t30, t31, t32, t33, t34, t35], h, n, []⟩ = (
K (.s (.int .i64 0)) h n) := by kernel_rfl

/-! F90 lockgate/mem.read -/
theorem F90 : CC.F.get 90 = some Go.Proofs.Tryz.f90 := by kernel_rfl
theorem F90_eq (t0 t1 t2 : V) (h : Heap) (n : Nat) (K : V → Heap → Nat → Prop) : Wp CC (bodyOf Go.Proofs.Tryz.f90) ⟨initTm Go.Proofs.Tryz.f90 [t0, t1, t2], h, n, []⟩ (retW CC Go.Proofs.Tryz.f90 K) = (
oK (asNat (.s (.int .i64 0))) fun l1 => oK (asNat t2) fun c2 =>
bif Nat.ble l1 c2 && (Nat.ble (1 * c2) 281474976710656 && (Nat.blt c2 9223372036854775808 && true)) then (
let h3 := h.set n (.cells (.lst ((zr CC 5).rep c2).toList) 1); let n4 := n + 1;
LoopK CC none (subC [1, 1, 0, 1, 0, 0] (bodyOf Go.Proofs.Tryz.f90)) ⟨mkTm [t0, t1, t2, undefV, undefV, undefV, (.s (.slice none 0 0)), (.s (.int .i64 0)), (.slice n 0 l1 c2 false), t1, undefV, undefV, undefV, t2, (.slice n 0 l1 c2 false), t1, undefV, undefV, undefV, undefV, undefV, undefV, undefV, undefV, undefV, undefV, undefV, undefV, undefV, undefV, undefV, undefV, undefV, undefV, undefV, undefV, undefV, undefV, undefV, undefV, undefV, undefV, undefV, undefV, undefV, undefV, undefV, undefV, undefV, undefV, undefV, undefV, undefV, undefV, undefV, undefV, undefV, undefV, undefV], h3, n4, []⟩ (resume CC none [.blk 0, .sq (subC [1, 1, 1] (bodyOf Go.Proofs.Tryz.f90))] (retW CC Go.Proofs.Tryz.f90 K))) else False) := Wp.eq_of (by kernel_rfl)
theorem F90_call {t0 t1 t2 : V} {h : Heap} {n : Nat} {K : V → Heap → Nat → Prop} (H : (∀ b o, h.get b = some o → b < n) → Wp CC (bodyOf Go.Proofs.Tryz.f90) ⟨initTm Go.Proofs.Tryz.f90 [t0, t1, t2], h, n, []⟩ (retW CC Go.Proofs.Tryz.f90 K)) : CallK CC 90 [t0, t1, t2] h n K := by
  have := @callK_of CC CCok 90 Go.Proofs.Tryz.f90 (bodyOf Go.Proofs.Tryz.f90) [t0, t1, t2] h n K F90
  refine this ?_ ?_ ?_
  · kernel_rfl
  · kernel_rfl
  · exact H

def F90_L110100 (t0 t1 t2 t8 t9 : V) (h : Heap) (n : Nat) (s : St) : Prop := ∃ f : Nat → V, s = ⟨mkTm [t0, t1, t2, (f 3), (f 4), (f 5), (f 6), (f 7), t8, t9, (f 10), (f 11), (f 12), (f 13), (f 14), (f 15), (f 16), (f 17), (f 18), (f 19), (f 20), (f 21), (f 22), (f 23), (f 24), (f 25), (f 26), (f 27), (f 28), (f 29), (f 30), (f 31), (f 32), (f 33), (f 34), (f 35), (f 36), (f 37), (f 38), (f 39), (f 40), (f 41), (f 42), (f 43), (f 44), (f 45), (f 46), (f 47), (f 48), (f 49), (f 50), (f 51), (f 52), (f 53), (f 54), (f 55), (f 56), (f 57), (f 58)], h, n, []⟩
theorem F90_L110100_of {t0 t1 t2 t8 t9 : V} {t3 t4 t5 t6 t7 t10 t11 t12 t13 t14 t15 t16 t17 t18 t19 t20 t21 t22 t23 t24 t25 t26 t27 t28 t29 t30 t31 t32 t33 t34 t35 t36 t37 t38 t39 t40 t41 t42 t43 t44 t45 t46 t47 t48 t49 t50 t51 t52 t53 t54 t55 t56 t57 t58 : V} {h : Heap} {n : Nat} : F90_L110100 t0 t1 t2 t8 t9 h n ⟨mkTm [t0, t1, t2, t3, t4, t5, t6, t7, t8, t9, t10, t11, t12, t13, t14, t15, t16, t17, t18, t19, t20, t21, t22, t23, t24, t25, t26, t27, t28, t29, t30, t31, t32, t33, t34, t35, t36, t37, t38, t39, t40, t41, t42, t43, t44, t45, t46, t47, t48, t49, t50, t51, t52, t53, t54, t55, t56, t57, t58], h, n, []⟩ :=
  ⟨fun i => ([t0, t1, t2, t3, t4, t5, t6, t7, t8, t9, t10, t11, t12, t13, t14, t15, t16, t17, t18, t19, t20, t21, t22, t23, t24, t25, t26, t27, t28, t29, t30, t31, t32, t33, t34, t35, t36, t37, t38, t39, t40, t41, t42, t43, t44, t45, t46, t47, t48, t49, t50, t51, t52, t53, t54, t55, t56, t57, t58] : List V).getD i undefV, by kernel_rfl⟩
theorem F90_L110100_elim {t0 t1 t2 t8 t9 : V} {h : Heap} {n : Nat} {s : St} {P : St → Prop} (hs : F90_L110100 t0 t1 t2 t8 t9 h n s) (H : ∀ t3 t4 t5 t6 t7 t10 t11 t12 t13 t14 t15 t16 t17 t18 t19 t20 t21 t22 t23 t24 t25 t26 t27 t28 t29 t30 t31 t32 t33 t34 t35 t36 t37 t38 t39 t40 t41 t42 t43 t44 t45 t46 t47 t48 t49 t50 t51 t52 t53 t54 t55 t56 t57 t58 : V, P ⟨mkTm [t0, t1, t2, t3, t4, t5, t6, t7, t8, t9, t10, t11, t12, t13, t14, t15, t16, t17, t18, t19, t20, t21, t22, t23, t24, t25, t26, t27, t28, t29, t30, t31, t32, t33, t34, t35, t36, t37, t38, t39, t40, t41, t42, t43, t44, t45, t46, t47, t48, t49, t50, t51, t52, t53, t54, t55, t56, t57, t58], h, n, []⟩) : P s := by
  obtain ⟨f, rfl⟩ := hs
  exact H (f 3) (f 4) (f 5) (f 6) (f 7) (f 10) (f 11) (f 12) (f 13) (f 14) (f 15) (f 16) (f 17) (f 18) (f 19) (f 20) (f 21) (f 22) (f 23) (f 24) (f 25) (f 26) (f 27) (f 28) (f 29) (f 30) (f 31) (f 32) (f 33) (f 34) (f 35) (f 36) (f 37) (f 38) (f 39) (f 40) (f 41) (f 42) (f 43) (f 44) (f 45) (f 46) (f 47) (f 48) (f 49) (f 50) (f 51) (f 52) (f 53) (f 54) (f 55) (f 56) (f 57) (f 58)

theorem F90_b110100 (t0 t1 t2 t3 t4 t5 t6 t7 t8 t9 t10 t11 t12 t13 t14 t15 t16 t17 t18 t19 t20 t21 t22 t23 t24 t25 t26 t27 t28 t29 t30 t31 t32 t33 t34 t35 t36 t37 t38 t39 t40 t41 t42 t43 t44 t45 t46 t47 t48 t49 t50 t51 t52 t53 t54 t55 t56 t57 t58 : V) (h : Heap) (n : Nat) (Q : X → St → Prop) : Wp CC (subC [1, 1, 0, 1, 0, 0] (bodyOf Go.Proofs.Tryz.f90)) ⟨mkTm [t0, t1, t2, t3, t4, t5, t6, t7, t8, t9, t10, t11, t12, t13, t14, t15, t16, t17, t18, t19, t20, t21, t22, t23, t24, t25, t26, t27, t28, t29, t30, t31, t32, t33, t34, t35, t36, t37, t38, t39, t40, t41, t42, t43, t44, t45, t46, t47, t48, t49, t50, t51, t52, t53, t54, t55, t56, t57, t58], h, n, []⟩ Q = (
oK (binop CC .add 3 false t1 t2) fun v5 =>
oK (binop CC .lss 3 false t9 v5) fun v6 =>
oK (asBool v6) fun b7 => bif b7 then (
CallK CC 110 [t9] h n fun v8 h9 n10 =>
oK (rExt v8 0) fun v11 =>
oK (rExt v8 1) fun v12 =>
oK (rNil t0) fun v13 =>
oK (rFA CC 43 4 v13) fun v14 =>
oK (indexAddr CC 41 v14 v11) fun v15 =>
oK (rNil v15) fun v16 =>
oK (rFA CC 40 0 v16) fun v17 =>
oK (rFA CC 28 0 v17) fun v18 =>
oK (normO (rLoad CC 3 h9 v18)) fun v19 =>
oK (binop CC .neq 3 true v19 (.s (.int .i64 0))) fun v20 =>
oK (bif (rWant false v20) then some v15 else some undefV) fun v21 =>
oK (bif (rWant false v20) then rNil v21 else some undefV) fun v22 =>
oK (bif (rWant false v20) then rFA CC 40 2 v22 else some undefV) fun v23 =>
oK (bif (rWant false v20) then normO (rLoad CC 5 h9 v23) else some undefV) fun v24 =>
oK (bif (rWant false v20) then some v12 else some undefV) fun v25 =>
oK (bif (rWant false v20) then binop CC .shr 5 false v24 v25 else some undefV) fun v26 =>
oK (bif (rWant false v20) then binop CC .and 5 true v26 (.s (.int .u8 1)) else some undefV) fun v27 =>
oK (bif (rWant false v20) then binop CC .eql 5 true v27 (.s (.int .u8 0)) else some undefV) fun v28 =>
oK (rPick v20 (.s (.bool true)) v28) fun v29 =>
oK (asBool v29) fun b30 => bif b30 then (
Q .ret ⟨mkTm [t0, t1, t2, t3, t4, t5, (.s (.slice none 0 0)), (.s (.int .i64 26)), t8, t9, v11, v12, v15, t13, t14, t15, t9, t1, t2, v5, v6, t21, t22, v8, t9, v8, v11, v12, t0, v11, v13, v14, v15, v15, v16, v17, v18, v19, v20, v20, v21, v22, v23, v24, v25, v26, v27, v28, v29, t49, t50, t51, t52, t53, t54, t55, t56, t57, t58], h9, n10, []⟩) else (
oK (rNil v15) fun v31 =>
oK (rFA CC 40 1 v31) fun v32 =>
oK (indexAddr CC 38 v32 v12) fun v33 =>
oK (normO (rLoad CC 5 h9 v33)) fun v34 =>
fillK 1 ((zr CC 5).rep 1) [(0, v34)] fun c35 =>
let h36 := h9.set n10 (.cells (.lst c35) 1); let n37 := n10 + 1;
appendK CC h36 n37 22 22 t8 (.slice n10 0 1 1 false) fun v38 h39 n40 =>
oK (binop CC .add 3 true t9 (.s (.int .i64 1))) fun v41 =>
Q .normal ⟨mkTm [t0, t1, t2, t3, t4, t5, t6, t7, v38, v41, v11, v12, v15, t13, t14, t15, t9, t1, t2, v5, v6, t9, v41, v8, t9, v8, v11, v12, t0, v11, v13, v14, v15, v15, v16, v17, v18, v19, v20, v20, v21, v22, v23, v24, v25, v26, v27, v28, v29, t8, v15, v12, v31, v32, v33, v34, (.slice n10 0 1 1 false), v38, t58], h39, n40, []⟩)) else (
Q (.exit 0) ⟨mkTm [t0, t1, t2, t3, t4, t5, t6, t7, t8, t9, t10, t11, t12, t13, t14, t15, t9, t1, t2, v5, v6, t21, t22, t23, t24, t25, t26, t27, t28, t29, t30, t31, t32, t33, t34, t35, t36, t37, t38, t39, t40, t41, t42, t43, t44, t45, t46, t47, t48, t49, t50, t51, t52, t53, t54, t55, t56, t57, t58], h, n, []⟩)) := Wp.eq_of (by kernel_rfl)

theorem F90_r110100_0 (t0 t1 t2 t3 t4 t5 t6 t7 t8 t9 t10 t11 t12 t13 t14 t15 t16 t17 t18 t19 t20 t21 t22 t23 t24 t25 t26 t27 t28 t29 t30 t31 t32 t33 t34 t35 t36 t37 t38 t39 t40 t41 t42 t43 t44 t45 t46 t47 t48 t49 t50 t51 t52 t53 t54 t55 t56 t57 t58 : V) (h : Heap) (n : Nat) (K : V → Heap → Nat → Prop) : resume CC none [.blk 0, .sq (subC [1, 1, 1] (bodyOf Go.Proofs.Tryz.f90))] (retW CC Go.Proofs.Tryz.f90 K) (.exit 0) ⟨mkTm [t0, t1, t2, t3, t4, t5, t6, t7, t8, t9, t10, t11, t12, t13, t14, t15, t16, t17, t18, t19, t20, t21, t22, t23, t24, t25, t26, t27, t28, t29, t30, t31, t32, t33, t34, t35, t36, t37, t38, t39, t40, t41, t42, t43, t44, t45, t46, t47, t48, t49, t50, t51, t52, t53, t54, t55, t56, t57, t58], h, n, []⟩ = (
K (.tup [t8, (.s (.int .i64 0))]) h n) := by kernel_rfl

/-! F110 lockgate/mem.place -/
theorem F110 : CC.F.get 110 = some Go.Proofs.Tryz.f110 := by kernel_rfl
theorem F110_eq (t0 : V) (h : Heap) (n : Nat) (K : V → Heap → Nat → Prop) : Wp CC (bodyOf Go.Proofs.Tryz.f110) ⟨initTm Go.Proofs.Tryz.f110 [t0], h, n, []⟩ (retW CC Go.Proofs.Tryz.f110 K) = (
oK (binop CC .add 3 true t0 (.s (.int .i64 512))) fun v1 =>
oK (binop CC .quo 3 true v1 (.s (.int .i64 8))) fun v2 =>
oK (binop CC .rem 3 true v1 (.s (.int .i64 8))) fun v3 =>
K (.tup [v2, v3]) h n) := Wp.eq_of (by kernel_rfl)
theorem F110_call {t0 : V} {h : Heap} {n : Nat} {K : V → Heap → Nat → Prop} (H : (∀ b o, h.get b = some o → b < n) → Wp CC (bodyOf Go.Proofs.Tryz.f110) ⟨initTm Go.Proofs.Tryz.f110 [t0], h, n, []⟩ (retW CC Go.Proofs.Tryz.f110 K)) : CallK CC 110 [t0] h n K := by
  have := @callK_of CC CCok 110 Go.Proofs.Tryz.f110 (bodyOf Go.Proofs.Tryz.f110) [t0] h n K F110
  refine this ?_ ?_ ?_
  · kernel_rfl
  · kernel_rfl
  · exact H

/-! F111 lockgate/frame.Clear -/
theorem F111 : CC.F.get 111 = some Go.Proofs.Tryz.f111 := by kernel_rfl
theorem F111_eq (t0 : V) (h : Heap) (n : Nat) (K : V → Heap → Nat → Prop) : Wp CC (bodyOf Go.Proofs.Tryz.f111) ⟨initTm Go.Proofs.Tryz.f111 [t0], h, n, []⟩ (retW CC Go.Proofs.Tryz.f111 K) = (
oK (rNil t0) fun v1 =>
oK (rFA CC 43 3 v1) fun v2 =>
oK (sliceOp CC 37 v2 (some (.s (.int .i64 1))) (some (.s (.int .i64 6))) none) fun v3 =>
oK (asNat (.s (.int .i64 5))) fun l4 => oK (asNat (.s (.int .i64 5))) fun c5 =>
bif Nat.ble l4 c5 && (Nat.ble (24 * c5) 281474976710656 && (Nat.blt c5 9223372036854775808 && true)) then (
copyK CC (h.set (n + 4) (.cells ((zr CC 28).rep c5) 3)) 209 v3 (.slice (n + 4) 0 l4 c5 false) fun v6 h7 =>
(True) ∧
K (.tup []) h7 (n + 6)) else False) := Wp.eq_of (by kernel_rfl)
theorem F111_call {t0 : V} {h : Heap} {n : Nat} {K : V → Heap → Nat → Prop} (H : (∀ b o, h.get b = some o → b < n) → Wp CC (bodyOf Go.Proofs.Tryz.f111) ⟨initTm Go.Proofs.Tryz.f111 [t0], h, n, []⟩ (retW CC Go.Proofs.Tryz.f111 K)) : CallK CC 111 [t0] h n K := by
  have := @callK_of CC CCok 111 Go.Proofs.Tryz.f111 (bodyOf Go.Proofs.Tryz.f111) [t0] h n K F111
  refine this ?_ ?_ ?_
  · kernel_rfl
  · kernel_rfl
  · exact H

/-! F112 lockgate/value.Code -/
theorem F112 : CC.F.get 112 = some Go.Proofs.Tryz.f112 := by kernel_rfl
theorem F112_eq (t0 : V) (h : Heap) (n : Nat) (K : V → Heap → Nat → Prop) : Wp CC (bodyOf Go.Proofs.Tryz.f112) ⟨initTm Go.Proofs.Tryz.f112 [t0], h, n, []⟩ (retW CC Go.Proofs.Tryz.f112 K) = (
let h1 := h.set n (.cells (.lst (zr CC 28).toList) 3); let n2 := n + 1;
oK (rUn CC .neg t0) fun v3 =>
oK (convert CC h1 3 23 v3) fun v4 =>
CallK CC 81 [v4] h1 n2 fun v5 h6 n7 =>
oK (asPtr (.ptr n 0)) fun p8 => oK (store CC h6 28 p8.1 p8.2 v5) fun h9 =>
oK (resultsOf CC (mkTm [t0, undefV, (.ptr n 0), t0, v3, v4, v5]) h9 [.cell 2 28]) fun vs => K (oneOf vs) h9 n7) := Wp.eq_of (by kernel_rfl)
theorem F112_call {t0 : V} {h : Heap} {n : Nat} {K : V → Heap → Nat → Prop} (H : (∀ b o, h.get b = some o → b < n) → Wp CC (bodyOf Go.Proofs.Tryz.f112) ⟨initTm Go.Proofs.Tryz.f112 [t0], h, n, []⟩ (retW CC Go.Proofs.Tryz.f112 K)) : CallK CC 112 [t0] h n K := by
  have := @callK_of CC CCok 112 Go.Proofs.Tryz.f112 (bodyOf Go.Proofs.Tryz.f112) [t0] h n K F112
  refine this ?_ ?_ ?_
  · kernel_rfl
  · kernel_rfl
  · exact H

/-! F113 (*lockgate/helper.call).is -/
theorem F113 : CC.F.get 113 = some Go.Proofs.Tryz.f113 := by kernel_rfl
theorem F113_eq (t0 t1 t2 : V) (h : Heap) (n : Nat) (K : V → Heap → Nat → Prop) : Wp CC (bodyOf Go.Proofs.Tryz.f113) ⟨initTm Go.Proofs.Tryz.f113 [t0, t1, t2], h, n, []⟩ (retW CC Go.Proofs.Tryz.f113 K) = (
oK (V.cells t2) fun c1 =>
let h2 := h.set n (.cells (.lst c1.toList) 3); let n3 := n + 1;
oK (binop CC .eql 149 true t1 (.s (.int .i64 0))) fun v4 =>
oK (asBool v4) fun b5 => bif b5 then (
oK (asBool v4) fun b6 => bif b6 then (
oK (rNil t0) fun v7 =>
oK (rFA CC 100 0 v7) fun v8 =>
oK (normO (rLoad CC 33 h2 v8)) fun v9 =>
oK (rNil v9) fun v10 =>
oK (rFA CC 57 0 v10) fun v11 =>
oK (normO (rLoad CC 53 h2 v11)) fun v12 =>
CallK CC 25 [v12] h2 n3 fun v13 h14 n15 =>
oK (rFA CC 28 0 (.ptr n 0)) fun v16 =>
oK (normO (rLoad CC 3 h14 v16)) fun v17 =>
oK (binop CC .eql 3 true v17 (.s (.int .i64 7))) fun v18 =>
oK (bif (rWant true v18) then rFA CC 28 2 (.ptr n 0) else some undefV) fun v19 =>
oK (bif (rWant true v18) then normO (rLoad CC 3 h14 v19) else some undefV) fun v20 =>
oK (bif (rWant true v18) then binop CC .geq 3 true v20 (.s (.int .i64 1)) else some undefV) fun v21 =>
oK (rPick v18 v21 (.s (.bool false))) fun v22 =>
oK (bif (rWant true v22) then rFA CC 28 2 (.ptr n 0) else some undefV) fun v23 =>
oK (bif (rWant true v22) then normO (rLoad CC 3 h14 v23) else some undefV) fun v24 =>
oK (bif (rWant true v22) then some v13 else some undefV) fun v25 =>
oK (bif (rWant true v22) then lenV CC h14 72 v25 else some undefV) fun v26 =>
oK (bif (rWant true v22) then binop CC .leq 3 false v24 v26 else some undefV) fun v27 =>
oK (rPick v22 v27 (.s (.bool false))) fun v28 =>
oK (bif (rWant true v28) then some v13 else some undefV) fun v29 =>
oK (bif (rWant true v28) then rFA CC 28 2 (.ptr n 0) else some undefV) fun v30 =>
oK (bif (rWant true v28) then normO (rLoad CC 3 h14 v30) else some undefV) fun v31 =>
oK (bif (rWant true v28) then binop CC .sub 3 true v31 (.s (.int .i64 1)) else some undefV) fun v32 =>
oK (bif (rWant true v28) then indexAddr CC 72 v29 v32 else some undefV) fun v33 =>
oK (bif (rWant true v28) then rFA CC 63 0 v33 else some undefV) fun v34 =>
oK (bif (rWant true v28) then normO (rLoad CC 3 h14 v34) else some undefV) fun v35 =>
oK (bif (rWant true v28) then binop CC .eql 3 true v35 (.s (.int .i64 4)) else some undefV) fun v36 =>
oK (bif (rWant true v28) then some t1 else some undefV) fun v37 =>
oK (bif (rWant true v28) then binop CC .eql 149 true v37 (.s (.int .i64 1)) else some undefV) fun v38 =>
oK (bif (rWant true v28) then binop CC .eql 4 false v36 v38 else some undefV) fun v39 =>
oK (rPick v28 v39 (.s (.bool false))) fun v40 =>
K v40 h14 n15) else (
oK (binop CC .eql 149 true t1 (.s (.int .i64 2))) fun v41 =>
oK (asBool v41) fun b42 => bif b42 then (
oK (rFA CC 28 0 (.ptr n 0)) fun v43 =>
oK (normO (rLoad CC 3 h2 v43)) fun v44 =>
oK (binop CC .eql 3 true v44 (.s (.int .i64 5))) fun v45 =>
oK (bif (rWant true v45) then rFA CC 28 1 (.ptr n 0) else some undefV) fun v46 =>
oK (bif (rWant true v45) then normO (rLoad CC 23 h2 v46) else some undefV) fun v47 =>
oK (bif (rWant true v45) then binop CC .eql 23 true v47 (.s (.int .u64 0)) else some undefV) fun v48 =>
oK (rPick v45 v48 (.s (.bool false))) fun v49 =>
K v49 h2 n3) else (
oK (binop CC .eql 149 true t1 (.s (.int .i64 3))) fun v50 =>
oK (asBool v50) fun b51 => bif b51 then (
oK (rFA CC 28 0 (.ptr n 0)) fun v52 =>
oK (normO (rLoad CC 3 h2 v52)) fun v53 =>
oK (binop CC .eql 3 true v53 (.s (.int .i64 1))) fun v54 =>
K v54 h2 n3) else (
oK (binop CC .eql 149 true t1 (.s (.int .i64 4))) fun v55 =>
oK (asBool v55) fun b56 => bif b56 then (
oK (rFA CC 28 0 (.ptr n 0)) fun v57 =>
oK (normO (rLoad CC 3 h2 v57)) fun v58 =>
oK (binop CC .eql 3 true v58 (.s (.int .i64 1))) fun v59 =>
oK (bif (rWant true v59) then rFA CC 28 1 (.ptr n 0) else some undefV) fun v60 =>
oK (bif (rWant true v59) then normO (rLoad CC 23 h2 v60) else some undefV) fun v61 =>
oK (bif (rWant true v59) then binop CC .geq 23 true v61 (.s (.int .u64 1)) else some undefV) fun v62 =>
oK (rPick v59 v62 (.s (.bool false))) fun v63 =>
oK (bif (rWant true v63) then rFA CC 28 1 (.ptr n 0) else some undefV) fun v64 =>
oK (bif (rWant true v63) then normO (rLoad CC 23 h2 v64) else some undefV) fun v65 =>
oK (bif (rWant true v63) then binop CC .leq 23 true v65 (.s (.int .u64 64)) else some undefV) fun v66 =>
oK (rPick v63 v66 (.s (.bool false))) fun v67 =>
K v67 h2 n3) else (
oK (binop CC .eql 149 true t1 (.s (.int .i64 5))) fun v68 =>
oK (asBool v68) fun b69 => bif b69 then (
oK (rFA CC 28 0 (.ptr n 0)) fun v70 =>
oK (normO (rLoad CC 3 h2 v70)) fun v71 =>
oK (binop CC .eql 3 true v71 (.s (.int .i64 4))) fun v72 =>
K v72 h2 n3) else (
K (.s (.bool true)) h2 n3)))))) else (
oK (binop CC .eql 149 true t1 (.s (.int .i64 1))) fun v73 =>
oK (asBool v73) fun b74 => bif b74 then (
oK (rNil t0) fun v75 =>
oK (rFA CC 100 0 v75) fun v76 =>
oK (normO (rLoad CC 33 h2 v76)) fun v77 =>
oK (rNil v77) fun v78 =>
oK (rFA CC 57 0 v78) fun v79 =>
oK (normO (rLoad CC 53 h2 v79)) fun v80 =>
CallK CC 25 [v80] h2 n3 fun v81 h82 n83 =>
oK (rFA CC 28 0 (.ptr n 0)) fun v84 =>
oK (normO (rLoad CC 3 h82 v84)) fun v85 =>
oK (binop CC .eql 3 true v85 (.s (.int .i64 7))) fun v86 =>
oK (bif (rWant true v86) then rFA CC 28 2 (.ptr n 0) else some undefV) fun v87 =>
oK (bif (rWant true v86) then normO (rLoad CC 3 h82 v87) else some undefV) fun v88 =>
oK (bif (rWant true v86) then binop CC .geq 3 true v88 (.s (.int .i64 1)) else some undefV) fun v89 =>
oK (rPick v86 v89 (.s (.bool false))) fun v90 =>
oK (bif (rWant true v90) then rFA CC 28 2 (.ptr n 0) else some undefV) fun v91 =>
oK (bif (rWant true v90) then normO (rLoad CC 3 h82 v91) else some undefV) fun v92 =>
oK (bif (rWant true v90) then some v81 else some undefV) fun v93 =>
oK (bif (rWant true v90) then lenV CC h82 72 v93 else some undefV) fun v94 =>
oK (bif (rWant true v90) then binop CC .leq 3 false v92 v94 else some undefV) fun v95 =>
oK (rPick v90 v95 (.s (.bool false))) fun v96 =>
oK (bif (rWant true v96) then some v81 else some undefV) fun v97 =>
oK (bif (rWant true v96) then rFA CC 28 2 (.ptr n 0) else some undefV) fun v98 =>
oK (bif (rWant true v96) then normO (rLoad CC 3 h82 v98) else some undefV) fun v99 =>
oK (bif (rWant true v96) then binop CC .sub 3 true v99 (.s (.int .i64 1)) else some undefV) fun v100 =>
oK (bif (rWant true v96) then indexAddr CC 72 v97 v100 else some undefV) fun v101 =>
oK (bif (rWant true v96) then rFA CC 63 0 v101 else some undefV) fun v102 =>
oK (bif (rWant true v96) then normO (rLoad CC 3 h82 v102) else some undefV) fun v103 =>
oK (bif (rWant true v96) then binop CC .eql 3 true v103 (.s (.int .i64 4)) else some undefV) fun v104 =>
oK (bif (rWant true v96) then some t1 else some undefV) fun v105 =>
oK (bif (rWant true v96) then binop CC .eql 149 true v105 (.s (.int .i64 1)) else some undefV) fun v106 =>
oK (bif (rWant true v96) then binop CC .eql 4 false v104 v106 else some undefV) fun v107 =>
oK (rPick v96 v107 (.s (.bool false))) fun v108 =>
K v108 h82 n83) else (
oK (binop CC .eql 149 true t1 (.s (.int .i64 2))) fun v109 =>
oK (asBool v109) fun b110 => bif b110 then (
oK (rFA CC 28 0 (.ptr n 0)) fun v111 =>
oK (normO (rLoad CC 3 h2 v111)) fun v112 =>
oK (binop CC .eql 3 true v112 (.s (.int .i64 5))) fun v113 =>
oK (bif (rWant true v113) then rFA CC 28 1 (.ptr n 0) else some undefV) fun v114 =>
oK (bif (rWant true v113) then normO (rLoad CC 23 h2 v114) else some undefV) fun v115 =>
oK (bif (rWant true v113) then binop CC .eql 23 true v115 (.s (.int .u64 0)) else some undefV) fun v116 =>
oK (rPick v113 v116 (.s (.bool false))) fun v117 =>
K v117 h2 n3) else (
oK (binop CC .eql 149 true t1 (.s (.int .i64 3))) fun v118 =>
oK (asBool v118) fun b119 => bif b119 then (
oK (rFA CC 28 0 (.ptr n 0)) fun v120 =>
oK (normO (rLoad CC 3 h2 v120)) fun v121 =>
oK (binop CC .eql 3 true v121 (.s (.int .i64 1))) fun v122 =>
K v122 h2 n3) else (
oK (binop CC .eql 149 true t1 (.s (.int .i64 4))) fun v123 =>
oK (asBool v123) fun b124 => bif b124 then (
oK (rFA CC 28 0 (.ptr n 0)) fun v125 =>
oK (normO (rLoad CC 3 h2 v125)) fun v126 =>
oK (binop CC .eql 3 true v126 (.s (.int .i64 1))) fun v127 =>
oK (bif (rWant true v127) then rFA CC 28 1 (.ptr n 0) else some undefV) fun v128 =>
oK (bif (rWant true v127) then normO (rLoad CC 23 h2 v128) else some undefV) fun v129 =>
oK (bif (rWant true v127) then binop CC .geq 23 true v129 (.s (.int .u64 1)) else some undefV) fun v130 =>
oK (rPick v127 v130 (.s (.bool false))) fun v131 =>
oK (bif (rWant true v131) then rFA CC 28 1 (.ptr n 0) else some undefV) fun v132 =>
oK (bif (rWant true v131) then normO (rLoad CC 23 h2 v132) else some undefV) fun v133 =>
oK (bif (rWant true v131) then binop CC .leq 23 true v133 (.s (.int .u64 64)) else some undefV) fun v134 =>
oK (rPick v131 v134 (.s (.bool false))) fun v135 =>
K v135 h2 n3) else (
oK (binop CC .eql 149 true t1 (.s (.int .i64 5))) fun v136 =>
oK (asBool v136) fun b137 => bif b137 then (
oK (rFA CC 28 0 (.ptr n 0)) fun v138 =>
oK (normO (rLoad CC 3 h2 v138)) fun v139 =>
oK (binop CC .eql 3 true v139 (.s (.int .i64 4))) fun v140 =>
K v140 h2 n3) else (
K (.s (.bool true)) h2 n3))))))) := Wp.eq_of (by kernel_rfl)
theorem F113_call {t0 t1 t2 : V} {h : Heap} {n : Nat} {K : V → Heap → Nat → Prop} (H : (∀ b o, h.get b = some o → b < n) → Wp CC (bodyOf Go.Proofs.Tryz.f113) ⟨initTm Go.Proofs.Tryz.f113 [t0, t1, t2], h, n, []⟩ (retW CC Go.Proofs.Tryz.f113 K)) : CallK CC 113 [t0, t1, t2] h n K := by
  have := @callK_of CC CCok 113 Go.Proofs.Tryz.f113 (bodyOf Go.Proofs.Tryz.f113) [t0, t1, t2] h n K F113
  refine this ?_ ?_ ?_
  · kernel_rfl
  · kernel_rfl
  · exact H

end Go.Ev
