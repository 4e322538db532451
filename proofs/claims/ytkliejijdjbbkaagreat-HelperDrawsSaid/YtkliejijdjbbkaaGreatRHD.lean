import Derived.Test.YtkliejijdjbbkaaGreatEvKC
import Derived.Test.YtkliejijdjbbkaaGreatRB
namespace Go.Ev
set_option linter.unusedVariables false
@[simp] theorem ap26_26 (h : Heap) (n : Nat) (s x : V) : append CC h n 26 26 s x = appendW 1 4 h n s x := of_eq (by kernel_rfl)
@[simp] theorem cp209 (h : Heap) (d x : V) : copy CC h 209 d x = copyW 3 h d x := of_eq (by kernel_rfl)
@[simp] theorem cp22 (h : Heap) (d x : V) : copy CC h 22 d x = copyW 1 h d x := of_eq (by kernel_rfl)
@[simp] theorem cv52_23 (h : Heap) (k : IntKind) (a : Int) : convert CC h 52 23 (.s (.int k a)) = some (.s (.int .u64 (wrapF .u64 a))) := of_eq (by kernel_rfl)
@[simp] theorem eq33 (c : Bool) (b o : Nat) : binop CC .eql 33 c (.ptr b o) (.s (.pointer none)) = some (.s (.bool false)) := of_eq (by kernel_rfl)
@[simp] theorem eq33r (c : Bool) (b o : Nat) : binop CC .eql 33 c (.s (.pointer none)) (.ptr b o) = some (.s (.bool false)) := of_eq (by kernel_rfl)
@[simp] theorem eq33z (c : Bool) : binop CC .eql 33 c (.s (.pointer none)) (.s (.pointer none)) = some (.s (.bool true)) := of_eq (by kernel_rfl)
@[simp] theorem eq53 (c : Bool) (b o : Nat) : binop CC .eql 53 c (.ptr b o) (.s (.pointer none)) = some (.s (.bool false)) := of_eq (by kernel_rfl)
@[simp] theorem eq53r (c : Bool) (b o : Nat) : binop CC .eql 53 c (.s (.pointer none)) (.ptr b o) = some (.s (.bool false)) := of_eq (by kernel_rfl)
@[simp] theorem eq53z (c : Bool) : binop CC .eql 53 c (.s (.pointer none)) (.s (.pointer none)) = some (.s (.bool true)) := of_eq (by kernel_rfl)
@[simp] theorem eq54 (c : Bool) (b o : Nat) : binop CC .eql 54 c (.ptr b o) (.s (.pointer none)) = some (.s (.bool false)) := of_eq (by kernel_rfl)
@[simp] theorem eq54r (c : Bool) (b o : Nat) : binop CC .eql 54 c (.s (.pointer none)) (.ptr b o) = some (.s (.bool false)) := of_eq (by kernel_rfl)
@[simp] theorem eq54z (c : Bool) : binop CC .eql 54 c (.s (.pointer none)) (.s (.pointer none)) = some (.s (.bool true)) := of_eq (by kernel_rfl)
@[simp] theorem eq55 (c : Bool) (b o : Nat) : binop CC .eql 55 c (.ptr b o) (.s (.pointer none)) = some (.s (.bool false)) := of_eq (by kernel_rfl)
@[simp] theorem eq55r (c : Bool) (b o : Nat) : binop CC .eql 55 c (.s (.pointer none)) (.ptr b o) = some (.s (.bool false)) := of_eq (by kernel_rfl)
@[simp] theorem eq55z (c : Bool) : binop CC .eql 55 c (.s (.pointer none)) (.s (.pointer none)) = some (.s (.bool true)) := of_eq (by kernel_rfl)
@[simp] theorem fa100_0 (b o : Nat) : rFA CC 100 0 (.ptr b o) = some (.ptr b (o + 0)) := of_eq (by kernel_rfl)
@[simp] theorem fa100_1 (b o : Nat) : rFA CC 100 1 (.ptr b o) = some (.ptr b (o + 1)) := of_eq (by kernel_rfl)
@[simp] theorem fa107_0 (b o : Nat) : rFA CC 107 0 (.ptr b o) = some (.ptr b (o + 0)) := of_eq (by kernel_rfl)
@[simp] theorem fa28_0 (b o : Nat) : rFA CC 28 0 (.ptr b o) = some (.ptr b (o + 0)) := of_eq (by kernel_rfl)
@[simp] theorem fa30_0 (b o : Nat) : rFA CC 30 0 (.ptr b o) = some (.ptr b (o + 0)) := of_eq (by kernel_rfl)
@[simp] theorem fa30_1 (b o : Nat) : rFA CC 30 1 (.ptr b o) = some (.ptr b (o + 1)) := of_eq (by kernel_rfl)
@[simp] theorem fa30_2 (b o : Nat) : rFA CC 30 2 (.ptr b o) = some (.ptr b (o + 2)) := of_eq (by kernel_rfl)
@[simp] theorem fa30_3 (b o : Nat) : rFA CC 30 3 (.ptr b o) = some (.ptr b (o + 3)) := of_eq (by kernel_rfl)
@[simp] theorem fa30_4 (b o : Nat) : rFA CC 30 4 (.ptr b o) = some (.ptr b (o + 4)) := of_eq (by kernel_rfl)
@[simp] theorem fa30_5 (b o : Nat) : rFA CC 30 5 (.ptr b o) = some (.ptr b (o + 5)) := of_eq (by kernel_rfl)
@[simp] theorem fa40_0 (b o : Nat) : rFA CC 40 0 (.ptr b o) = some (.ptr b (o + 0)) := of_eq (by kernel_rfl)
@[simp] theorem fa40_1 (b o : Nat) : rFA CC 40 1 (.ptr b o) = some (.ptr b (o + 3)) := of_eq (by kernel_rfl)
@[simp] theorem fa40_2 (b o : Nat) : rFA CC 40 2 (.ptr b o) = some (.ptr b (o + 11)) := of_eq (by kernel_rfl)
@[simp] theorem fa43_3 (b o : Nat) : rFA CC 43 3 (.ptr b o) = some (.ptr b (o + 3)) := of_eq (by kernel_rfl)
@[simp] theorem fa43_4 (b o : Nat) : rFA CC 43 4 (.ptr b o) = some (.ptr b (o + 36)) := of_eq (by kernel_rfl)
@[simp] theorem fa57_3 (b o : Nat) : rFA CC 57 3 (.ptr b o) = some (.ptr b (o + 3)) := of_eq (by kernel_rfl)
@[simp] theorem fa65_8 (b o : Nat) : rFA CC 65 8 (.ptr b o) = some (.ptr b (o + 11)) := of_eq (by kernel_rfl)
@[simp] theorem fa65_9 (b o : Nat) : rFA CC 65 9 (.ptr b o) = some (.ptr b (o + 12)) := of_eq (by kernel_rfl)
@[simp] theorem fa85_2 (b o : Nat) : rFA CC 85 2 (.ptr b o) = some (.ptr b (o + 16)) := of_eq (by kernel_rfl)
@[simp] theorem ix22 (b o l c : Nat) (p : Bool) (i : V) : indexAddr CC 22 (.slice b o l c p) i = (asNat i).bind fun k => bif Nat.blt k l then some (.ptr b (o + k * 1)) else none := of_eq (by kernel_rfl)
@[simp] theorem ix25 (b o l c : Nat) (p : Bool) (i : V) : indexAddr CC 25 (.slice b o l c p) i = (asNat i).bind fun k => bif Nat.blt k l then some (.ptr b (o + k * 13)) else none := of_eq (by kernel_rfl)
@[simp] theorem ix26 (b o l c : Nat) (p : Bool) (i : V) : indexAddr CC 26 (.slice b o l c p) i = (asNat i).bind fun k => bif Nat.blt k l then some (.ptr b (o + k * 1)) else none := of_eq (by kernel_rfl)
@[simp] theorem ix37 (b o : Nat) (i : V) : indexAddr CC 37 (.ptr b o) i = (asNat i).bind fun k => bif Nat.blt k 11 then some (.ptr b (o + k * 3)) else none := of_eq (by kernel_rfl)
@[simp] theorem ix38 (b o : Nat) (i : V) : indexAddr CC 38 (.ptr b o) i = (asNat i).bind fun k => bif Nat.blt k 8 then some (.ptr b (o + k * 1)) else none := of_eq (by kernel_rfl)
@[simp] theorem ix41 (b o : Nat) (i : V) : indexAddr CC 41 (.ptr b o) i = (asNat i).bind fun k => bif Nat.blt k 64 then some (.ptr b (o + k * 12)) else none := of_eq (by kernel_rfl)
@[simp] theorem ix82 (b o l c : Nat) (p : Bool) (i : V) : indexAddr CC 82 (.slice b o l c p) i = (asNat i).bind fun k => bif Nat.blt k l then some (.ptr b (o + k * 29)) else none := of_eq (by kernel_rfl)
@[simp] theorem ld22 (h : Heap) (b o : Nat) : rLoad CC 22 h (.ptr b o) = (cellsAt h b).bind fun c => c.1.get o := of_eq (by kernel_rfl)
@[simp] theorem ld25 (h : Heap) (b o : Nat) : rLoad CC 25 h (.ptr b o) = (cellsAt h b).bind fun c => c.1.get o := of_eq (by kernel_rfl)
@[simp] theorem ld26 (h : Heap) (b o : Nat) : rLoad CC 26 h (.ptr b o) = (cellsAt h b).bind fun c => c.1.get o := of_eq (by kernel_rfl)
@[simp] theorem ld28 (h : Heap) (b o : Nat) : rLoad CC 28 h (.ptr b o) = (cellsAt h b).bind fun c => bif Nat.ble (o + 3) c.1.size then some (.agg (c.1.ext o 3)) else none := of_eq (by kernel_rfl)
@[simp] theorem ld3 (h : Heap) (b o : Nat) : rLoad CC 3 h (.ptr b o) = (cellsAt h b).bind fun c => c.1.get o := of_eq (by kernel_rfl)
@[simp] theorem ld30 (h : Heap) (b o : Nat) : rLoad CC 30 h (.ptr b o) = (cellsAt h b).bind fun c => bif Nat.ble (o + 8) c.1.size then some (.agg (c.1.ext o 8)) else none := of_eq (by kernel_rfl)
@[simp] theorem ld33 (h : Heap) (b o : Nat) : rLoad CC 33 h (.ptr b o) = (cellsAt h b).bind fun c => c.1.get o := of_eq (by kernel_rfl)
@[simp] theorem ld34 (h : Heap) (b o : Nat) : rLoad CC 34 h (.ptr b o) = (cellsAt h b).bind fun c => c.1.get o := of_eq (by kernel_rfl)
@[simp] theorem ld43 (h : Heap) (b o : Nat) : rLoad CC 43 h (.ptr b o) = (cellsAt h b).bind fun c => bif Nat.ble (o + 804) c.1.size then some (.agg (c.1.ext o 804)) else none := of_eq (by kernel_rfl)
@[simp] theorem ld5 (h : Heap) (b o : Nat) : rLoad CC 5 h (.ptr b o) = (cellsAt h b).bind fun c => c.1.get o := of_eq (by kernel_rfl)
@[simp] theorem ld52 (h : Heap) (b o : Nat) : rLoad CC 52 h (.ptr b o) = (cellsAt h b).bind fun c => c.1.get o := of_eq (by kernel_rfl)
@[simp] theorem ld55 (h : Heap) (b o : Nat) : rLoad CC 55 h (.ptr b o) = (cellsAt h b).bind fun c => c.1.get o := of_eq (by kernel_rfl)
@[simp] theorem ld65 (h : Heap) (b o : Nat) : rLoad CC 65 h (.ptr b o) = (cellsAt h b).bind fun c => bif Nat.ble (o + 13) c.1.size then some (.agg (c.1.ext o 13)) else none := of_eq (by kernel_rfl)
@[simp] theorem len22 (h : Heap) (b o l c : Nat) (p : Bool) : lenV CC h 22 (.slice b o l c p) = some (.s (.int .i64 (l : Int))) := of_eq (by kernel_rfl)
@[simp] theorem len25 (h : Heap) (b o l c : Nat) (p : Bool) : lenV CC h 25 (.slice b o l c p) = some (.s (.int .i64 (l : Int))) := of_eq (by kernel_rfl)
@[simp] theorem len26 (h : Heap) (b o l c : Nat) (p : Bool) : lenV CC h 26 (.slice b o l c p) = some (.s (.int .i64 (l : Int))) := of_eq (by kernel_rfl)
@[simp] theorem len82 (h : Heap) (b o l c : Nat) (p : Bool) : lenV CC h 82 (.slice b o l c p) = some (.s (.int .i64 (l : Int))) := of_eq (by kernel_rfl)
@[simp] theorem lenn22 (h : Heap) : lenV CC h 22 (.s (.slice none 0 0)) = some (.s (.int .i64 0)) := of_eq (by kernel_rfl)
@[simp] theorem lenn25 (h : Heap) : lenV CC h 25 (.s (.slice none 0 0)) = some (.s (.int .i64 0)) := of_eq (by kernel_rfl)
@[simp] theorem lenn26 (h : Heap) : lenV CC h 26 (.s (.slice none 0 0)) = some (.s (.int .i64 0)) := of_eq (by kernel_rfl)
@[simp] theorem lenn82 (h : Heap) : lenV CC h 82 (.s (.slice none 0 0)) = some (.s (.int .i64 0)) := of_eq (by kernel_rfl)
@[simp] theorem lk103 (h : Heap) (m k : V) (ok : Bool) : lookup CC h 103 m k ok = lookupW (.int .i64) (zv CC 101) h m k ok := of_eq (by kernel_rfl)
@[simp] theorem max3 (a b : Int) : rMax CC #[3, 3] 3 [.s (.int .i64 a), .s (.int .i64 b)] = some (.s (.int .i64 (maxW a b))) := of_eq (by kernel_rfl)
@[simp] theorem mu103 (h : Heap) (b : Nat) (k v : V) : mapUpdate CC h 103 (.map b) k v = mapUpdateW (.int .i64) h b k v := of_eq (by kernel_rfl)
@[simp] theorem sl22 (b o l c : Nat) (p : Bool) (lo hi mx : Option V) : sliceOp CC 22 (.slice b o l c p) lo hi mx = (bounds l c lo hi mx).bind fun q => some (.slice b (o + q.1 * 1) (q.2.1 - q.1) (q.2.2 - q.1) (p && mx.isNone)) := of_eq (by kernel_rfl)
@[simp] theorem sl26 (b o l c : Nat) (p : Bool) (lo hi mx : Option V) : sliceOp CC 26 (.slice b o l c p) lo hi mx = (bounds l c lo hi mx).bind fun q => some (.slice b (o + q.1 * 1) (q.2.1 - q.1) (q.2.2 - q.1) (p && mx.isNone)) := of_eq (by kernel_rfl)
@[simp] theorem sl37 (b o : Nat) (lo hi mx : Option V) : sliceOp CC 37 (.ptr b o) lo hi mx = (bounds 11 11 lo hi mx).bind fun q => some (.slice b (o + q.1 * 3) (q.2.1 - q.1) (q.2.2 - q.1) false) := of_eq (by kernel_rfl)
@[simp] theorem sln22 (lo hi mx : Option V) : sliceOp CC 22 (.s (.slice none 0 0)) lo hi mx = (bounds 0 0 lo hi mx).bind fun _ => some (.s (.slice none 0 0)) := of_eq (by kernel_rfl)
@[simp] theorem sln26 (lo hi mx : Option V) : sliceOp CC 26 (.s (.slice none 0 0)) lo hi mx = (bounds 0 0 lo hi mx).bind fun _ => some (.s (.slice none 0 0)) := of_eq (by kernel_rfl)
@[simp] theorem sto26 (h : Heap) (b o : Nat) (v : V) : store CC h 26 b o v = v.cells.bind fun cs => bif Nat.beq cs.size 1 then storeCells h b o cs else none := of_eq (by kernel_rfl)
@[simp] theorem sto28 (h : Heap) (b o : Nat) (v : V) : store CC h 28 b o v = v.cells.bind fun cs => bif Nat.beq cs.size 3 then storeCells h b o cs else none := of_eq (by kernel_rfl)
@[simp] theorem sto30 (h : Heap) (b o : Nat) (v : V) : store CC h 30 b o v = v.cells.bind fun cs => bif Nat.beq cs.size 8 then storeCells h b o cs else none := of_eq (by kernel_rfl)
@[simp] theorem sto40 (h : Heap) (b o : Nat) (v : V) : store CC h 40 b o v = v.cells.bind fun cs => bif Nat.beq cs.size 12 then storeCells h b o cs else none := of_eq (by kernel_rfl)
@[simp] theorem sto43 (h : Heap) (b o : Nat) (v : V) : store CC h 43 b o v = v.cells.bind fun cs => bif Nat.beq cs.size 804 then storeCells h b o cs else none := of_eq (by kernel_rfl)
@[simp] theorem sto5 (h : Heap) (b o : Nat) (v : V) : store CC h 5 b o v = v.cells.bind fun cs => bif Nat.beq cs.size 1 then storeCells h b o cs else none := of_eq (by kernel_rfl)
@[simp] theorem x42 : CC.X.get 42 = some false := of_eq (by kernel_rfl)
@[simp] theorem x43 : CC.X.get 43 = some false := of_eq (by kernel_rfl)
@[simp] theorem x44 : CC.X.get 44 = some false := of_eq (by kernel_rfl)
@[simp] theorem x45 : CC.X.get 45 = some false := of_eq (by kernel_rfl)
@[simp] theorem x46 : CC.X.get 46 = some false := of_eq (by kernel_rfl)
@[simp] theorem x47 : CC.X.get 47 = some false := of_eq (by kernel_rfl)
@[simp] theorem x48 : CC.X.get 48 = some false := of_eq (by kernel_rfl)
@[simp] theorem x49 : CC.X.get 49 = some false := of_eq (by kernel_rfl)
@[simp] theorem z100 : (zr CC 100).toList = [.s (.pointer none), .s (.pointer none)] := of_eq (by kernel_rfl)
@[simp] theorem z101 : zr CC 101 = .one (.s .nilFunc) := of_eq (by kernel_rfl)
@[simp] theorem z107 : (zr CC 107).toList = [.s (.slice none 0 0)] := of_eq (by kernel_rfl)
@[simp] theorem z118 : (zr CC 118).toList = [.s (.pointer none), .s (.slice none 0 0), .s (.int .i64 0), .s (.slice none 0 0)] := of_eq (by kernel_rfl)
@[simp] theorem z140 : (zr CC 140).toList = [.s (.slice none 0 0), .s (.int .i64 0)] := of_eq (by kernel_rfl)
@[simp] theorem z169 : (zr CC 169).toList = [.s (.map none), .s (.int .i64 0)] := of_eq (by kernel_rfl)
@[simp] theorem z28 : (zr CC 28).toList = [.s (.int .i64 0), .s (.int .u64 0), .s (.int .i64 0)] := of_eq (by kernel_rfl)
@[simp] theorem z30 : (zr CC 30).toList = [.s (.slice none 0 0), .s (.slice none 0 0), .s (.slice none 0 0), .s (.int .i64 0), .s (.slice none 0 0), .s (.int .i64 0), .s (.int .u64 0), .s (.int .i64 0)] := of_eq (by kernel_rfl)
@[simp] theorem z37 : (zr CC 37).toList = [.s (.int .i64 0), .s (.int .u64 0), .s (.int .i64 0), .s (.int .i64 0), .s (.int .u64 0), .s (.int .i64 0), .s (.int .i64 0), .s (.int .u64 0), .s (.int .i64 0), .s (.int .i64 0), .s (.int .u64 0), .s (.int .i64 0), .s (.int .i64 0), .s (.int .u64 0), .s (.int .i64 0), .s (.int .i64 0), .s (.int .u64 0), .s (.int .i64 0), .s (.int .i64 0), .s (.int .u64 0), .s (.int .i64 0), .s (.int .i64 0), .s (.int .u64 0), .s (.int .i64 0), .s (.int .i64 0), .s (.int .u64 0), .s (.int .i64 0), .s (.int .i64 0), .s (.int .u64 0), .s (.int .i64 0), .s (.int .i64 0), .s (.int .u64 0), .s (.int .i64 0)] := of_eq (by kernel_rfl)
@[simp] theorem z40 : (zr CC 40).toList = [.s (.int .i64 0), .s (.int .u64 0), .s (.int .i64 0), .s (.int .u8 0), .s (.int .u8 0), .s (.int .u8 0), .s (.int .u8 0), .s (.int .u8 0), .s (.int .u8 0), .s (.int .u8 0), .s (.int .u8 0), .s (.int .u8 0)] := of_eq (by kernel_rfl)
@[simp] theorem z5 : zr CC 5 = .one (.s (.int .u8 0)) := of_eq (by kernel_rfl)
@[simp] theorem z52 : zr CC 52 = .one (.s (.int .u32 0)) := of_eq (by kernel_rfl)
@[simp] theorem z57 : (zr CC 57).toList = [.s (.pointer none), .s (.pointer none), .s (.int .u64 0), .s (.pointer none)] := of_eq (by kernel_rfl)
@[simp] theorem zlen43 : (zr CC 43).toList.length = 804 := of_eq (by kernel_rfl)
@[simp] theorem bd100 (ps : List (Nat × V)) : normO (build CC 100 ps) = bOr (fillL [(0, 1), (1, 1)] (zr CC 100).toList ps) (bFall CC 100 ps) := by
  refine bd_of fun l hl => ?_
  refine @build_struct CC 100 ((Ev.ty CC 100).get!) (zr CC 100) [(0, 1), (1, 1)] ?_ ?_ ?_ ?_ (zr CC 100).toList (Eq.refl _) ps l hl
  · kernel_rfl
  · kernel_rfl
  · kernel_rfl
  · kernel_rfl
@[simp] theorem bd107 (ps : List (Nat × V)) : normO (build CC 107 ps) = bOr (fillL [(0, 1)] (zr CC 107).toList ps) (bFall CC 107 ps) := by
  refine bd_of fun l hl => ?_
  refine @build_struct CC 107 ((Ev.ty CC 107).get!) (zr CC 107) [(0, 1)] ?_ ?_ ?_ ?_ (zr CC 107).toList (Eq.refl _) ps l hl
  · kernel_rfl
  · kernel_rfl
  · kernel_rfl
  · kernel_rfl
@[simp] theorem bd118 (ps : List (Nat × V)) : normO (build CC 118 ps) = bOr (fillL [(0, 1), (1, 1), (2, 1), (3, 1)] (zr CC 118).toList ps) (bFall CC 118 ps) := by
  refine bd_of fun l hl => ?_
  refine @build_struct CC 118 ((Ev.ty CC 118).get!) (zr CC 118) [(0, 1), (1, 1), (2, 1), (3, 1)] ?_ ?_ ?_ ?_ (zr CC 118).toList (Eq.refl _) ps l hl
  · kernel_rfl
  · kernel_rfl
  · kernel_rfl
  · kernel_rfl
@[simp] theorem bd140 (ps : List (Nat × V)) : normO (build CC 140 ps) = bOr (fillL [(0, 1), (1, 1)] (zr CC 140).toList ps) (bFall CC 140 ps) := by
  refine bd_of fun l hl => ?_
  refine @build_struct CC 140 ((Ev.ty CC 140).get!) (zr CC 140) [(0, 1), (1, 1)] ?_ ?_ ?_ ?_ (zr CC 140).toList (Eq.refl _) ps l hl
  · kernel_rfl
  · kernel_rfl
  · kernel_rfl
  · kernel_rfl
@[simp] theorem bd169 (ps : List (Nat × V)) : normO (build CC 169 ps) = bOr (fillL [(0, 1), (1, 1)] (zr CC 169).toList ps) (bFall CC 169 ps) := by
  refine bd_of fun l hl => ?_
  refine @build_struct CC 169 ((Ev.ty CC 169).get!) (zr CC 169) [(0, 1), (1, 1)] ?_ ?_ ?_ ?_ (zr CC 169).toList (Eq.refl _) ps l hl
  · kernel_rfl
  · kernel_rfl
  · kernel_rfl
  · kernel_rfl
@[simp] theorem bd28 (ps : List (Nat × V)) : normO (build CC 28 ps) = bOr (fillL [(0, 1), (1, 1), (2, 1)] (zr CC 28).toList ps) (bFall CC 28 ps) := by
  refine bd_of fun l hl => ?_
  refine @build_struct CC 28 ((Ev.ty CC 28).get!) (zr CC 28) [(0, 1), (1, 1), (2, 1)] ?_ ?_ ?_ ?_ (zr CC 28).toList (Eq.refl _) ps l hl
  · kernel_rfl
  · kernel_rfl
  · kernel_rfl
  · kernel_rfl
@[simp] theorem bd30 (ps : List (Nat × V)) : normO (build CC 30 ps) = bOr (fillL [(0, 1), (1, 1), (2, 1), (3, 1), (4, 1), (5, 3)] (zr CC 30).toList ps) (bFall CC 30 ps) := by
  refine bd_of fun l hl => ?_
  refine @build_struct CC 30 ((Ev.ty CC 30).get!) (zr CC 30) [(0, 1), (1, 1), (2, 1), (3, 1), (4, 1), (5, 3)] ?_ ?_ ?_ ?_ (zr CC 30).toList (Eq.refl _) ps l hl
  · kernel_rfl
  · kernel_rfl
  · kernel_rfl
  · kernel_rfl
@[simp] theorem bd37 (ps : List (Nat × V)) : normO (build CC 37 ps) = bOr (fillL [(0, 3), (3, 3), (6, 3), (9, 3), (12, 3), (15, 3), (18, 3), (21, 3), (24, 3), (27, 3), (30, 3)] (zr CC 37).toList ps) (bFall CC 37 ps) := by
  refine bd_of fun l hl => ?_
  refine @build_array CC 37 ((Ev.ty CC 37).get!) (zr CC 37) [(0, 3), (3, 3), (6, 3), (9, 3), (12, 3), (15, 3), (18, 3), (21, 3), (24, 3), (27, 3), (30, 3)] ?_ 3 ?_ ?_ ?_ ?_ (zr CC 37).toList (Eq.refl _) ps l hl
  · kernel_rfl
  · kernel_rfl
  · kernel_rfl
  · kernel_rfl
  · kernel_rfl
@[simp] theorem bd40 (ps : List (Nat × V)) : normO (build CC 40 ps) = bOr (fillL [(0, 3), (3, 8), (11, 1)] (zr CC 40).toList ps) (bFall CC 40 ps) := by
  refine bd_of fun l hl => ?_
  refine @build_struct CC 40 ((Ev.ty CC 40).get!) (zr CC 40) [(0, 3), (3, 8), (11, 1)] ?_ ?_ ?_ ?_ (zr CC 40).toList (Eq.refl _) ps l hl
  · kernel_rfl
  · kernel_rfl
  · kernel_rfl
  · kernel_rfl
@[simp] theorem bd43 (ps : List (Nat × V)) : normO (build CC 43 ps) = bOr (fillL [(0, 1), (1, 1), (2, 1), (3, 33), (36, 768)] (zr CC 43).toList ps) (bFall CC 43 ps) := by
  refine bd_of fun l hl => ?_
  refine @build_struct CC 43 ((Ev.ty CC 43).get!) (zr CC 43) [(0, 1), (1, 1), (2, 1), (3, 33), (36, 768)] ?_ ?_ ?_ ?_ (zr CC 43).toList (Eq.refl _) ps l hl
  · kernel_rfl
  · kernel_rfl
  · kernel_rfl
  · kernel_rfl
@[simp] theorem bd57 (ps : List (Nat × V)) : normO (build CC 57 ps) = bOr (fillL [(0, 1), (1, 1), (2, 1), (3, 1)] (zr CC 57).toList ps) (bFall CC 57 ps) := by
  refine bd_of fun l hl => ?_
  refine @build_struct CC 57 ((Ev.ty CC 57).get!) (zr CC 57) [(0, 1), (1, 1), (2, 1), (3, 1)] ?_ ?_ ?_ ?_ (zr CC 57).toList (Eq.refl _) ps l hl
  · kernel_rfl
  · kernel_rfl
  · kernel_rfl
  · kernel_rfl
/-! F4 lockgate/lockgatelaw16.HelperDraws -/
theorem F4 : CC.F.get 4 = some Go.Proofs.Tryz.f4 := by kernel_rfl
theorem F4_eq (t0 : V) (h : Heap) (n : Nat) (K : V → Heap → Nat → Prop) : Wp CC (bodyOf Go.Proofs.Tryz.f4) ⟨initTm Go.Proofs.Tryz.f4 [t0], h, n, []⟩ (retW CC Go.Proofs.Tryz.f4 K) = (
oK (normO (build CC 30 [(2, t0)])) fun v1 =>
let h2 := h.set n (.cells (.lst (zr CC 30).toList) 8); let n3 := n + 1;
oK (asPtr (.ptr n 0)) fun p4 => oK (store CC h2 30 p4.1 p4.2 v1) fun h5 =>
oK (normO (rLoad CC 30 h5 (.ptr n 0))) fun v6 =>
CallK CC 9 [v6, (.s (.slice none 0 0))] h5 n3 fun v7 h8 n9 =>
oK (asBool v7) fun b10 => bif b10 then (
CallK CC 10 [] h8 n9 fun v11 h12 n13 =>
K v11 h12 n13) else (
oK (normO (rLoad CC 30 h8 (.ptr n 0))) fun v14 =>
CallK CC 11 [v14] h8 n9 fun v15 h16 n17 =>
oK (rExt v15 0) fun v18 =>
oK (rExt v15 1) fun v19 =>
oK (binop CC .eql 33 true v18 (.s (.pointer none))) fun v20 =>
oK (asBool v20) fun b21 => bif b21 then (
CallK CC 10 [] h16 n17 fun v22 h23 n24 =>
K v22 h23 n24) else (
LoopK CC none (subC [1, 1, 1, 1, 1, 0, 1, 0, 0] (bodyOf Go.Proofs.Tryz.f4)) ⟨mkTm [t0, undefV, (.s (.bool false)), (.ptr n 0), v18, v19, (.s (.int .i64 0)), undefV, undefV, undefV, t0, v1, v6, v7, undefV, v15, v14, v15, v18, v19, v18, v20, undefV, undefV, undefV, undefV, undefV, undefV, undefV, undefV, undefV, undefV, undefV, undefV, undefV, undefV, undefV, undefV, undefV, undefV, undefV, undefV, undefV, undefV, undefV, undefV, undefV, undefV, undefV, undefV, undefV, undefV, undefV, undefV, undefV, undefV, undefV, undefV, undefV, undefV, undefV, undefV, undefV, undefV, undefV, undefV, undefV, undefV, undefV, undefV, undefV, undefV], h16, n17, []⟩ (resume CC none [.blk 0, .sq (subC [1, 1, 1, 1, 1, 1] (bodyOf Go.Proofs.Tryz.f4))] (retW CC Go.Proofs.Tryz.f4 K))))) := Wp.eq_of (by kernel_rfl)
theorem F4_call {t0 : V} {h : Heap} {n : Nat} {K : V → Heap → Nat → Prop} (H : (∀ b o, h.get b = some o → b < n) → Wp CC (bodyOf Go.Proofs.Tryz.f4) ⟨initTm Go.Proofs.Tryz.f4 [t0], h, n, []⟩ (retW CC Go.Proofs.Tryz.f4 K)) : CallK CC 4 [t0] h n K := by
  have := @callK_of CC CCok 4 Go.Proofs.Tryz.f4 (bodyOf Go.Proofs.Tryz.f4) [t0] h n K F4
  refine this ?_ ?_ ?_
  · kernel_rfl
  · kernel_rfl
  · exact H

def F4_L111110100 (t0 t4 t5 t6 : V) (h : Heap) (n : Nat) (s : St) : Prop := ∃ f : Nat → V, s = ⟨mkTm [t0, (f 1), (f 2), (f 3), t4, t5, t6, (f 7), (f 8), (f 9), (f 10), (f 11), (f 12), (f 13), (f 14), (f 15), (f 16), (f 17), (f 18), (f 19), (f 20), (f 21), (f 22), (f 23), (f 24), (f 25), (f 26), (f 27), (f 28), (f 29), (f 30), (f 31), (f 32), (f 33), (f 34), (f 35), (f 36), (f 37), (f 38), (f 39), (f 40), (f 41), (f 42), (f 43), (f 44), (f 45), (f 46), (f 47), (f 48), (f 49), (f 50), (f 51), (f 52), (f 53), (f 54), (f 55), (f 56), (f 57), (f 58), (f 59), (f 60), (f 61), (f 62), (f 63), (f 64), (f 65), (f 66), (f 67), (f 68), (f 69), (f 70), (f 71)], h, n, []⟩
theorem F4_L111110100_of {t0 t4 t5 t6 : V} {t1 t2 t3 t7 t8 t9 t10 t11 t12 t13 t14 t15 t16 t17 t18 t19 t20 t21 t22 t23 t24 t25 t26 t27 t28 t29 t30 t31 t32 t33 t34 t35 t36 t37 t38 t39 t40 t41 t42 t43 t44 t45 t46 t47 t48 t49 t50 t51 t52 t53 t54 t55 t56 t57 t58 t59 t60 t61 t62 t63 t64 t65 t66 t67 t68 t69 t70 t71 : V} {h : Heap} {n : Nat} : F4_L111110100 t0 t4 t5 t6 h n ⟨mkTm [t0, t1, t2, t3, t4, t5, t6, t7, t8, t9, t10, t11, t12, t13, t14, t15, t16, t17, t18, t19, t20, t21, t22, t23, t24, t25, t26, t27, t28, t29, t30, t31, t32, t33, t34, t35, t36, t37, t38, t39, t40, t41, t42, t43, t44, t45, t46, t47, t48, t49, t50, t51, t52, t53, t54, t55, t56, t57, t58, t59, t60, t61, t62, t63, t64, t65, t66, t67, t68, t69, t70, t71], h, n, []⟩ :=
  ⟨fun i => ([t0, t1, t2, t3, t4, t5, t6, t7, t8, t9, t10, t11, t12, t13, t14, t15, t16, t17, t18, t19, t20, t21, t22, t23, t24, t25, t26, t27, t28, t29, t30, t31, t32, t33, t34, t35, t36, t37, t38, t39, t40, t41, t42, t43, t44, t45, t46, t47, t48, t49, t50, t51, t52, t53, t54, t55, t56, t57, t58, t59, t60, t61, t62, t63, t64, t65, t66, t67, t68, t69, t70, t71] : List V).getD i undefV, by kernel_rfl⟩
theorem F4_L111110100_elim {t0 t4 t5 t6 : V} {h : Heap} {n : Nat} {s : St} {P : St → Prop} (hs : F4_L111110100 t0 t4 t5 t6 h n s) (H : ∀ t1 t2 t3 t7 t8 t9 t10 t11 t12 t13 t14 t15 t16 t17 t18 t19 t20 t21 t22 t23 t24 t25 t26 t27 t28 t29 t30 t31 t32 t33 t34 t35 t36 t37 t38 t39 t40 t41 t42 t43 t44 t45 t46 t47 t48 t49 t50 t51 t52 t53 t54 t55 t56 t57 t58 t59 t60 t61 t62 t63 t64 t65 t66 t67 t68 t69 t70 t71 : V, P ⟨mkTm [t0, t1, t2, t3, t4, t5, t6, t7, t8, t9, t10, t11, t12, t13, t14, t15, t16, t17, t18, t19, t20, t21, t22, t23, t24, t25, t26, t27, t28, t29, t30, t31, t32, t33, t34, t35, t36, t37, t38, t39, t40, t41, t42, t43, t44, t45, t46, t47, t48, t49, t50, t51, t52, t53, t54, t55, t56, t57, t58, t59, t60, t61, t62, t63, t64, t65, t66, t67, t68, t69, t70, t71], h, n, []⟩) : P s := by
  obtain ⟨f, rfl⟩ := hs
  exact H (f 1) (f 2) (f 3) (f 7) (f 8) (f 9) (f 10) (f 11) (f 12) (f 13) (f 14) (f 15) (f 16) (f 17) (f 18) (f 19) (f 20) (f 21) (f 22) (f 23) (f 24) (f 25) (f 26) (f 27) (f 28) (f 29) (f 30) (f 31) (f 32) (f 33) (f 34) (f 35) (f 36) (f 37) (f 38) (f 39) (f 40) (f 41) (f 42) (f 43) (f 44) (f 45) (f 46) (f 47) (f 48) (f 49) (f 50) (f 51) (f 52) (f 53) (f 54) (f 55) (f 56) (f 57) (f 58) (f 59) (f 60) (f 61) (f 62) (f 63) (f 64) (f 65) (f 66) (f 67) (f 68) (f 69) (f 70) (f 71)

theorem F4_b111110100 (t0 t1 t2 t3 t4 t5 t6 t7 t8 t9 t10 t11 t12 t13 t14 t15 t16 t17 t18 t19 t20 t21 t22 t23 t24 t25 t26 t27 t28 t29 t30 t31 t32 t33 t34 t35 t36 t37 t38 t39 t40 t41 t42 t43 t44 t45 t46 t47 t48 t49 t50 t51 t52 t53 t54 t55 t56 t57 t58 t59 t60 t61 t62 t63 t64 t65 t66 t67 t68 t69 t70 t71 : V) (h : Heap) (n : Nat) (Q : X → St → Prop) : Wp CC (subC [1, 1, 1, 1, 1, 0, 1, 0, 0] (bodyOf Go.Proofs.Tryz.f4)) ⟨mkTm [t0, t1, t2, t3, t4, t5, t6, t7, t8, t9, t10, t11, t12, t13, t14, t15, t16, t17, t18, t19, t20, t21, t22, t23, t24, t25, t26, t27, t28, t29, t30, t31, t32, t33, t34, t35, t36, t37, t38, t39, t40, t41, t42, t43, t44, t45, t46, t47, t48, t49, t50, t51, t52, t53, t54, t55, t56, t57, t58, t59, t60, t61, t62, t63, t64, t65, t66, t67, t68, t69, t70, t71], h, n, []⟩ Q = (
oK (lenV CC h 26 t0) fun v25 =>
oK (binop CC .add 3 true v25 (.s (.int .i64 3))) fun v26 =>
oK (binop CC .lss 3 false t6 v26) fun v27 =>
oK (asBool v27) fun b28 => bif b28 then (
oK (lenV CC h 26 t0) fun v29 =>
oK (binop CC .lss 3 false t6 v29) fun v30 =>
oK (asBool v30) fun b31 => bif b31 then (
oK (indexAddr CC 26 t0 t6) fun v32 =>
oK (normO (rLoad CC 52 h v32)) fun v33 =>
oK (convert CC h 52 23 v33) fun v34 =>
CallK CC 14 [t4, t5, (.s (.int .i64 5))] h n fun v35 h36 n37 =>
oK (rExt v35 0) fun v38 =>
oK (rExt v35 1) fun v39 =>
oK (binop CC .neq 45 true v39 (.s (.int .i64 0))) fun v40 =>
oK (bif (rWant false v40) then some t5 else some undefV) fun v41 =>
oK (bif (rWant false v40) then rNil v41 else some undefV) fun v42 =>
oK (bif (rWant false v40) then rFA CC 43 3 v42 else some undefV) fun v43 =>
oK (bif (rWant false v40) then indexAddr CC 37 v43 (.s (.int .i64 0)) else some undefV) fun v44 =>
oK (bif (rWant false v40) then normO (rLoad CC 28 h36 v44) else some undefV) fun v45 =>
oK (bif (rWant false v40) then some v34 else some undefV) fun v46 =>
oK (bif (rWant false v40) then normO (build CC 28 [(0, (.s (.int .i64 1))), (1, v46)]) else some undefV) fun v47 =>
oK (bif (rWant false v40) then binop CC .neq 28 false v45 v47 else some undefV) fun v48 =>
oK (rPick v40 (.s (.bool true)) v48) fun v49 =>
oK (bif (rWant false v49) then some t4 else some undefV) fun v50 =>
oK (bif (rWant false v49) then rNil v50 else some undefV) fun v51 =>
oK (bif (rWant false v49) then rFA CC 57 3 v51 else some undefV) fun v52 =>
oK (bif (rWant false v49) then normO (rLoad CC 55 h36 v52) else some undefV) fun v53 =>
let k54 := fun (v55 : V) (h56 : Heap) (n57 : Nat) => (
oK (bif (rWant false v49) then some t0 else some undefV) fun v58 =>
oK (bif (rWant false v49) then lenV CC h56 26 v58 else some undefV) fun v59 =>
oK (bif (rWant false v49) then some t6 else some undefV) fun v60 =>
oK (bif (rWant false v49) then binop CC .sub 3 false v59 v60 else some undefV) fun v61 =>
oK (bif (rWant false v49) then binop CC .sub 3 true v61 (.s (.int .i64 1)) else some undefV) fun v62 =>
oK (bif (rWant false v49) then rMax CC #[3, 3] 3 [(.s (.int .i64 0)), v62] else some undefV) fun v63 =>
oK (bif (rWant false v49) then binop CC .neq 3 false v55 v63 else some undefV) fun v64 =>
oK (rPick v49 (.s (.bool true)) v64) fun v65 =>
oK (asBool v65) fun b66 => bif b66 then (
Q .ret ⟨mkTm [t0, t1, (.s (.bool false)), t3, t4, t5, t6, v34, v38, v39, t10, t11, t12, t13, t14, t15, t16, t17, t18, t19, t20, t21, t22, t6, t0, v25, v26, v27, t28, t29, t6, t0, v29, v30, t0, t6, v32, v33, v34, v35, t4, t5, v35, v38, v39, v39, v40, v40, v41, v42, v43, v44, v45, v46, v47, v48, v49, v49, v50, v51, v52, v53, v55, v58, v59, v60, v61, v62, v63, v64, v65, t71], h56, n57, []⟩) else (
oK (binop CC .add 3 true t6 (.s (.int .i64 1))) fun v67 =>
Q .normal ⟨mkTm [t0, t1, t2, t3, t4, t5, v67, v34, v38, v39, t10, t11, t12, t13, t14, t15, t16, t17, t18, t19, t20, t21, t22, t6, t0, v25, v26, v27, t6, v67, t6, t0, v29, v30, t0, t6, v32, v33, v34, v35, t4, t5, v35, v38, v39, v39, v40, v40, v41, v42, v43, v44, v45, v46, v47, v48, v49, v49, v50, v51, v52, v53, v55, v58, v59, v60, v61, v62, v63, v64, v65, t71], h56, n57, []⟩));
bif (rWant false v49) then (CallK CC 17 [v53] h36 n37 fun v68 h69 n70 =>
k54 v68 h69 n70) else k54 undefV h36 n37) else (
CallK CC 14 [t4, t5, (.s (.int .i64 5))] h n fun v71 h72 n73 =>
oK (rExt v71 0) fun v74 =>
oK (rExt v71 1) fun v75 =>
oK (binop CC .neq 45 true v75 (.s (.int .i64 0))) fun v76 =>
oK (bif (rWant false v76) then some t5 else some undefV) fun v77 =>
oK (bif (rWant false v76) then rNil v77 else some undefV) fun v78 =>
oK (bif (rWant false v76) then rFA CC 43 3 v78 else some undefV) fun v79 =>
oK (bif (rWant false v76) then indexAddr CC 37 v79 (.s (.int .i64 0)) else some undefV) fun v80 =>
oK (bif (rWant false v76) then normO (rLoad CC 28 h72 v80) else some undefV) fun v81 =>
oK (bif (rWant false v76) then some (.s (.int .u64 0)) else some undefV) fun v82 =>
oK (bif (rWant false v76) then normO (build CC 28 [(0, (.s (.int .i64 1))), (1, v82)]) else some undefV) fun v83 =>
oK (bif (rWant false v76) then binop CC .neq 28 false v81 v83 else some undefV) fun v84 =>
oK (rPick v76 (.s (.bool true)) v84) fun v85 =>
oK (bif (rWant false v85) then some t4 else some undefV) fun v86 =>
oK (bif (rWant false v85) then rNil v86 else some undefV) fun v87 =>
oK (bif (rWant false v85) then rFA CC 57 3 v87 else some undefV) fun v88 =>
oK (bif (rWant false v85) then normO (rLoad CC 55 h72 v88) else some undefV) fun v89 =>
let k90 := fun (v91 : V) (h92 : Heap) (n93 : Nat) => (
oK (bif (rWant false v85) then some t0 else some undefV) fun v94 =>
oK (bif (rWant false v85) then lenV CC h92 26 v94 else some undefV) fun v95 =>
oK (bif (rWant false v85) then some t6 else some undefV) fun v96 =>
oK (bif (rWant false v85) then binop CC .sub 3 false v95 v96 else some undefV) fun v97 =>
oK (bif (rWant false v85) then binop CC .sub 3 true v97 (.s (.int .i64 1)) else some undefV) fun v98 =>
oK (bif (rWant false v85) then rMax CC #[3, 3] 3 [(.s (.int .i64 0)), v98] else some undefV) fun v99 =>
oK (bif (rWant false v85) then binop CC .neq 3 false v91 v99 else some undefV) fun v100 =>
oK (rPick v85 (.s (.bool true)) v100) fun v101 =>
oK (asBool v101) fun b102 => bif b102 then (
Q .ret ⟨mkTm [t0, t1, (.s (.bool false)), t3, t4, t5, t6, (.s (.int .u64 0)), v74, v75, t10, t11, t12, t13, t14, t15, t16, t17, t18, t19, t20, t21, t22, t6, t0, v25, v26, v27, t28, t29, t6, t0, v29, v30, t34, t35, t36, t37, t38, v71, t4, t5, v71, v74, v75, v75, v76, v76, v77, v78, v79, v80, v81, v82, v83, v84, v85, v85, v86, v87, v88, v89, v91, v94, v95, v96, v97, v98, v99, v100, v101, t71], h92, n93, []⟩) else (
oK (binop CC .add 3 true t6 (.s (.int .i64 1))) fun v103 =>
Q .normal ⟨mkTm [t0, t1, t2, t3, t4, t5, v103, (.s (.int .u64 0)), v74, v75, t10, t11, t12, t13, t14, t15, t16, t17, t18, t19, t20, t21, t22, t6, t0, v25, v26, v27, t6, v103, t6, t0, v29, v30, t34, t35, t36, t37, t38, v71, t4, t5, v71, v74, v75, v75, v76, v76, v77, v78, v79, v80, v81, v82, v83, v84, v85, v85, v86, v87, v88, v89, v91, v94, v95, v96, v97, v98, v99, v100, v101, t71], h92, n93, []⟩));
bif (rWant false v85) then (CallK CC 17 [v89] h72 n73 fun v104 h105 n106 =>
k90 v104 h105 n106) else k90 undefV h72 n73)) else (
Q (.exit 0) ⟨mkTm [t0, t1, t2, t3, t4, t5, t6, t7, t8, t9, t10, t11, t12, t13, t14, t15, t16, t17, t18, t19, t20, t21, t22, t6, t0, v25, v26, v27, t28, t29, t30, t31, t32, t33, t34, t35, t36, t37, t38, t39, t40, t41, t42, t43, t44, t45, t46, t47, t48, t49, t50, t51, t52, t53, t54, t55, t56, t57, t58, t59, t60, t61, t62, t63, t64, t65, t66, t67, t68, t69, t70, t71], h, n, []⟩)) := Wp.eq_of (by kernel_rfl)

theorem F4_r111110100_0 (t0 t1 t2 t3 t4 t5 t6 t7 t8 t9 t10 t11 t12 t13 t14 t15 t16 t17 t18 t19 t20 t21 t22 t23 t24 t25 t26 t27 t28 t29 t30 t31 t32 t33 t34 t35 t36 t37 t38 t39 t40 t41 t42 t43 t44 t45 t46 t47 t48 t49 t50 t51 t52 t53 t54 t55 t56 t57 t58 t59 t60 t61 t62 t63 t64 t65 t66 t67 t68 t69 t70 t71 : V) (h : Heap) (n : Nat) (K : V → Heap → Nat → Prop) : resume CC none [.blk 0, .sq (subC [1, 1, 1, 1, 1, 1] (bodyOf Go.Proofs.Tryz.f4))] (retW CC Go.Proofs.Tryz.f4 K) (.exit 0) ⟨mkTm [t0, t1, t2, t3, t4, t5, t6, t7, t8, t9, t10, t11, t12, t13, t14, t15, t16, t17, t18, t19, t20, t21, t22, t23, t24, t25, t26, t27, t28, t29, t30, t31, t32, t33, t34, t35, t36, t37, t38, t39, t40, t41, t42, t43, t44, t45, t46, t47, t48, t49, t50, t51, t52, t53, t54, t55, t56, t57, t58, t59, t60, t61, t62, t63, t64, t65, t66, t67, t68, t69, t70, t71], h, n, []⟩ = (
CallK CC 10 [] h n fun v107 h108 n109 =>
K v107 h108 n109) := by kernel_rfl

/-! F9 lockgate/lockgatelaw16.Long -/
theorem F9 : CC.F.get 9 = some Go.Proofs.Tryz.f9 := by kernel_rfl
theorem F9_eq (t0 t1 : V) (h : Heap) (n : Nat) (K : V → Heap → Nat → Prop) : Wp CC (bodyOf Go.Proofs.Tryz.f9) ⟨initTm Go.Proofs.Tryz.f9 [t0, t1], h, n, []⟩ (retW CC Go.Proofs.Tryz.f9 K) = (
oK (V.cells t0) fun c1 =>
let h2 := h.set n (.cells (.lst c1.toList) 8); let n3 := n + 1;
oK (rFA CC 30 0 (.ptr n 0)) fun v4 =>
oK (normO (rLoad CC 25 h2 v4)) fun v5 =>
CallK CC 18 [v5] h2 n3 fun v6 h7 n8 =>
oK (bif (rWant false v6) then rFA CC 30 0 (.ptr n 0) else some undefV) fun v9 =>
oK (bif (rWant false v6) then normO (rLoad CC 25 h7 v9) else some undefV) fun v10 =>
oK (bif (rWant false v6) then lenV CC h7 25 v10 else some undefV) fun v11 =>
oK (bif (rWant false v6) then binop CC .gtr 3 true v11 (.s (.int .i64 60)) else some undefV) fun v12 =>
oK (rPick v6 (.s (.bool true)) v12) fun v13 =>
oK (bif (rWant false v13) then rFA CC 30 1 (.ptr n 0) else some undefV) fun v14 =>
oK (bif (rWant false v13) then normO (rLoad CC 22 h7 v14) else some undefV) fun v15 =>
oK (bif (rWant false v13) then lenV CC h7 22 v15 else some undefV) fun v16 =>
oK (bif (rWant false v13) then binop CC .gtr 3 true v16 (.s (.int .i64 4096)) else some undefV) fun v17 =>
oK (rPick v13 (.s (.bool true)) v17) fun v18 =>
oK (bif (rWant false v18) then rFA CC 30 2 (.ptr n 0) else some undefV) fun v19 =>
oK (bif (rWant false v18) then normO (rLoad CC 26 h7 v19) else some undefV) fun v20 =>
oK (bif (rWant false v18) then lenV CC h7 26 v20 else some undefV) fun v21 =>
oK (bif (rWant false v18) then binop CC .gtr 3 true v21 (.s (.int .i64 100)) else some undefV) fun v22 =>
oK (rPick v18 (.s (.bool true)) v22) fun v23 =>
oK (bif (rWant false v23) then rFA CC 30 4 (.ptr n 0) else some undefV) fun v24 =>
oK (bif (rWant false v23) then normO (rLoad CC 22 h7 v24) else some undefV) fun v25 =>
oK (bif (rWant false v23) then lenV CC h7 22 v25 else some undefV) fun v26 =>
oK (bif (rWant false v23) then binop CC .gtr 3 true v26 (.s (.int .i64 64)) else some undefV) fun v27 =>
oK (rPick v23 (.s (.bool true)) v27) fun v28 =>
oK (bif (rWant false v28) then some t1 else some undefV) fun v29 =>
oK (bif (rWant false v28) then lenV CC h7 82 v29 else some undefV) fun v30 =>
oK (bif (rWant false v28) then binop CC .gtr 3 true v30 (.s (.int .i64 60)) else some undefV) fun v31 =>
oK (rPick v28 (.s (.bool true)) v31) fun v32 =>
oK (bif (rWant false v32) then rFA CC 30 5 (.ptr n 0) else some undefV) fun v33 =>
oK (bif (rWant false v32) then rFA CC 28 0 v33 else some undefV) fun v34 =>
oK (bif (rWant false v32) then normO (rLoad CC 3 h7 v34) else some undefV) fun v35 =>
oK (bif (rWant false v32) then binop CC .lss 3 true v35 (.s (.int .i64 0)) else some undefV) fun v36 =>
oK (rPick v32 (.s (.bool true)) v36) fun v37 =>
oK (bif (rWant false v37) then rFA CC 30 5 (.ptr n 0) else some undefV) fun v38 =>
oK (bif (rWant false v37) then rFA CC 28 0 v38 else some undefV) fun v39 =>
oK (bif (rWant false v37) then normO (rLoad CC 3 h7 v39) else some undefV) fun v40 =>
oK (bif (rWant false v37) then binop CC .gtr 3 true v40 (.s (.int .i64 7)) else some undefV) fun v41 =>
oK (rPick v37 (.s (.bool true)) v41) fun v42 =>
oK (asBool v42) fun b43 => bif b43 then (
K (.s (.bool true)) h7 n8) else (
LoopK CC none (subC [1, 1, 0, 1, 0, 0] (bodyOf Go.Proofs.Tryz.f9)) ⟨mkTm [t0, t1, (.ptr n 0), undefV, (.s (.bool false)), (.s (.int .i64 0)), v4, v5, v6, v6, v9, v10, v11, v12, v13, v13, v14, v15, v16, v17, v18, v18, v19, v20, v21, v22, v23, v23, v24, v25, v26, v27, v28, v28, v29, v30, v31, v32, v32, v33, v34, v35, v36, v37, v37, v38, v39, v40, v41, v42, undefV, undefV, undefV, undefV, undefV, undefV, undefV, undefV, undefV, undefV, undefV, undefV, undefV, undefV, undefV, undefV, undefV, undefV, undefV, undefV, undefV, undefV, undefV, undefV], h7, n8, []⟩ (resume CC none [.blk 0, .sq (subC [1, 1, 1] (bodyOf Go.Proofs.Tryz.f9))] (retW CC Go.Proofs.Tryz.f9 K)))) := Wp.eq_of (by kernel_rfl)
theorem F9_call {t0 t1 : V} {h : Heap} {n : Nat} {K : V → Heap → Nat → Prop} (H : (∀ b o, h.get b = some o → b < n) → Wp CC (bodyOf Go.Proofs.Tryz.f9) ⟨initTm Go.Proofs.Tryz.f9 [t0, t1], h, n, []⟩ (retW CC Go.Proofs.Tryz.f9 K)) : CallK CC 9 [t0, t1] h n K := by
  have := @callK_of CC CCok 9 Go.Proofs.Tryz.f9 (bodyOf Go.Proofs.Tryz.f9) [t0, t1] h n K F9
  refine this ?_ ?_ ?_
  · kernel_rfl
  · kernel_rfl
  · exact H

def F9_L110100 (t1 t5 : V) (h : Heap) (n : Nat) (s : St) : Prop := ∃ f : Nat → V, s = ⟨mkTm [(f 0), t1, (f 2), (f 3), (f 4), t5, (f 6), (f 7), (f 8), (f 9), (f 10), (f 11), (f 12), (f 13), (f 14), (f 15), (f 16), (f 17), (f 18), (f 19), (f 20), (f 21), (f 22), (f 23), (f 24), (f 25), (f 26), (f 27), (f 28), (f 29), (f 30), (f 31), (f 32), (f 33), (f 34), (f 35), (f 36), (f 37), (f 38), (f 39), (f 40), (f 41), (f 42), (f 43), (f 44), (f 45), (f 46), (f 47), (f 48), (f 49), (f 50), (f 51), (f 52), (f 53), (f 54), (f 55), (f 56), (f 57), (f 58), (f 59), (f 60), (f 61), (f 62), (f 63), (f 64), (f 65), (f 66), (f 67), (f 68), (f 69), (f 70), (f 71), (f 72), (f 73)], h, n, []⟩
theorem F9_L110100_of {t1 t5 : V} {t0 t2 t3 t4 t6 t7 t8 t9 t10 t11 t12 t13 t14 t15 t16 t17 t18 t19 t20 t21 t22 t23 t24 t25 t26 t27 t28 t29 t30 t31 t32 t33 t34 t35 t36 t37 t38 t39 t40 t41 t42 t43 t44 t45 t46 t47 t48 t49 t50 t51 t52 t53 t54 t55 t56 t57 t58 t59 t60 t61 t62 t63 t64 t65 t66 t67 t68 t69 t70 t71 t72 t73 : V} {h : Heap} {n : Nat} : F9_L110100 t1 t5 h n ⟨mkTm [t0, t1, t2, t3, t4, t5, t6, t7, t8, t9, t10, t11, t12, t13, t14, t15, t16, t17, t18, t19, t20, t21, t22, t23, t24, t25, t26, t27, t28, t29, t30, t31, t32, t33, t34, t35, t36, t37, t38, t39, t40, t41, t42, t43, t44, t45, t46, t47, t48, t49, t50, t51, t52, t53, t54, t55, t56, t57, t58, t59, t60, t61, t62, t63, t64, t65, t66, t67, t68, t69, t70, t71, t72, t73], h, n, []⟩ :=
  ⟨fun i => ([t0, t1, t2, t3, t4, t5, t6, t7, t8, t9, t10, t11, t12, t13, t14, t15, t16, t17, t18, t19, t20, t21, t22, t23, t24, t25, t26, t27, t28, t29, t30, t31, t32, t33, t34, t35, t36, t37, t38, t39, t40, t41, t42, t43, t44, t45, t46, t47, t48, t49, t50, t51, t52, t53, t54, t55, t56, t57, t58, t59, t60, t61, t62, t63, t64, t65, t66, t67, t68, t69, t70, t71, t72, t73] : List V).getD i undefV, by kernel_rfl⟩
theorem F9_L110100_elim {t1 t5 : V} {h : Heap} {n : Nat} {s : St} {P : St → Prop} (hs : F9_L110100 t1 t5 h n s) (H : ∀ t0 t2 t3 t4 t6 t7 t8 t9 t10 t11 t12 t13 t14 t15 t16 t17 t18 t19 t20 t21 t22 t23 t24 t25 t26 t27 t28 t29 t30 t31 t32 t33 t34 t35 t36 t37 t38 t39 t40 t41 t42 t43 t44 t45 t46 t47 t48 t49 t50 t51 t52 t53 t54 t55 t56 t57 t58 t59 t60 t61 t62 t63 t64 t65 t66 t67 t68 t69 t70 t71 t72 t73 : V, P ⟨mkTm [t0, t1, t2, t3, t4, t5, t6, t7, t8, t9, t10, t11, t12, t13, t14, t15, t16, t17, t18, t19, t20, t21, t22, t23, t24, t25, t26, t27, t28, t29, t30, t31, t32, t33, t34, t35, t36, t37, t38, t39, t40, t41, t42, t43, t44, t45, t46, t47, t48, t49, t50, t51, t52, t53, t54, t55, t56, t57, t58, t59, t60, t61, t62, t63, t64, t65, t66, t67, t68, t69, t70, t71, t72, t73], h, n, []⟩) : P s := by
  obtain ⟨f, rfl⟩ := hs
  exact H (f 0) (f 2) (f 3) (f 4) (f 6) (f 7) (f 8) (f 9) (f 10) (f 11) (f 12) (f 13) (f 14) (f 15) (f 16) (f 17) (f 18) (f 19) (f 20) (f 21) (f 22) (f 23) (f 24) (f 25) (f 26) (f 27) (f 28) (f 29) (f 30) (f 31) (f 32) (f 33) (f 34) (f 35) (f 36) (f 37) (f 38) (f 39) (f 40) (f 41) (f 42) (f 43) (f 44) (f 45) (f 46) (f 47) (f 48) (f 49) (f 50) (f 51) (f 52) (f 53) (f 54) (f 55) (f 56) (f 57) (f 58) (f 59) (f 60) (f 61) (f 62) (f 63) (f 64) (f 65) (f 66) (f 67) (f 68) (f 69) (f 70) (f 71) (f 72) (f 73)

theorem F9_b110100 (t0 t1 t2 t3 t4 t5 t6 t7 t8 t9 t10 t11 t12 t13 t14 t15 t16 t17 t18 t19 t20 t21 t22 t23 t24 t25 t26 t27 t28 t29 t30 t31 t32 t33 t34 t35 t36 t37 t38 t39 t40 t41 t42 t43 t44 t45 t46 t47 t48 t49 t50 t51 t52 t53 t54 t55 t56 t57 t58 t59 t60 t61 t62 t63 t64 t65 t66 t67 t68 t69 t70 t71 t72 t73 : V) (h : Heap) (n : Nat) (Q : X → St → Prop) : Wp CC (subC [1, 1, 0, 1, 0, 0] (bodyOf Go.Proofs.Tryz.f9)) ⟨mkTm [t0, t1, t2, t3, t4, t5, t6, t7, t8, t9, t10, t11, t12, t13, t14, t15, t16, t17, t18, t19, t20, t21, t22, t23, t24, t25, t26, t27, t28, t29, t30, t31, t32, t33, t34, t35, t36, t37, t38, t39, t40, t41, t42, t43, t44, t45, t46, t47, t48, t49, t50, t51, t52, t53, t54, t55, t56, t57, t58, t59, t60, t61, t62, t63, t64, t65, t66, t67, t68, t69, t70, t71, t72, t73], h, n, []⟩ Q = (
oK (lenV CC h 82 t1) fun v44 =>
oK (binop CC .lss 3 false t5 v44) fun v45 =>
oK (asBool v45) fun b46 => bif b46 then (
oK (indexAddr CC 82 t1 t5) fun v47 =>
oK (rFA CC 85 2 v47) fun v48 =>
oK (rFA CC 65 8 v48) fun v49 =>
oK (normO (rLoad CC 22 h v49)) fun v50 =>
oK (lenV CC h 22 v50) fun v51 =>
oK (binop CC .gtr 3 true v51 (.s (.int .i64 100))) fun v52 =>
oK (bif (rWant false v52) then some t1 else some undefV) fun v53 =>
oK (bif (rWant false v52) then some t5 else some undefV) fun v54 =>
oK (bif (rWant false v52) then indexAddr CC 82 v53 v54 else some undefV) fun v55 =>
oK (bif (rWant false v52) then rFA CC 85 2 v55 else some undefV) fun v56 =>
oK (bif (rWant false v52) then rFA CC 65 9 v56 else some undefV) fun v57 =>
oK (bif (rWant false v52) then normO (rLoad CC 22 h v57) else some undefV) fun v58 =>
oK (bif (rWant false v52) then lenV CC h 22 v58 else some undefV) fun v59 =>
oK (bif (rWant false v52) then binop CC .gtr 3 true v59 (.s (.int .i64 200)) else some undefV) fun v60 =>
oK (rPick v52 (.s (.bool true)) v60) fun v61 =>
oK (asBool v61) fun b62 => bif b62 then (
Q .ret ⟨mkTm [t0, t1, t2, t3, (.s (.bool true)), t5, t6, t7, t8, t9, t10, t11, t12, t13, t14, t15, t16, t17, t18, t19, t20, t21, t22, t23, t24, t25, t26, t27, t28, t29, t30, t31, t32, t33, t34, t35, t36, t37, t38, t39, t40, t41, t42, t43, t44, t45, t46, t47, t48, t49, t5, t1, v44, v45, t54, t55, t1, t5, v47, v48, v49, v50, v51, v52, v52, v53, v54, v55, v56, v57, v58, v59, v60, v61], h, n, []⟩) else (
oK (binop CC .add 3 true t5 (.s (.int .i64 1))) fun v63 =>
Q .normal ⟨mkTm [t0, t1, t2, t3, t4, v63, t6, t7, t8, t9, t10, t11, t12, t13, t14, t15, t16, t17, t18, t19, t20, t21, t22, t23, t24, t25, t26, t27, t28, t29, t30, t31, t32, t33, t34, t35, t36, t37, t38, t39, t40, t41, t42, t43, t44, t45, t46, t47, t48, t49, t5, t1, v44, v45, t5, v63, t1, t5, v47, v48, v49, v50, v51, v52, v52, v53, v54, v55, v56, v57, v58, v59, v60, v61], h, n, []⟩)) else (
Q (.exit 0) ⟨mkTm [t0, t1, t2, t3, t4, t5, t6, t7, t8, t9, t10, t11, t12, t13, t14, t15, t16, t17, t18, t19, t20, t21, t22, t23, t24, t25, t26, t27, t28, t29, t30, t31, t32, t33, t34, t35, t36, t37, t38, t39, t40, t41, t42, t43, t44, t45, t46, t47, t48, t49, t5, t1, v44, v45, t54, t55, t56, t57, t58, t59, t60, t61, t62, t63, t64, t65, t66, t67, t68, t69, t70, t71, t72, t73], h, n, []⟩)) := Wp.eq_of (by kernel_rfl)

theorem F9_r110100_0 (t0 t1 t2 t3 t4 t5 t6 t7 t8 t9 t10 t11 t12 t13 t14 t15 t16 t17 t18 t19 t20 t21 t22 t23 t24 t25 t26 t27 t28 t29 t30 t31 t32 t33 t34 t35 t36 t37 t38 t39 t40 t41 t42 t43 t44 t45 t46 t47 t48 t49 t50 t51 t52 t53 t54 t55 t56 t57 t58 t59 t60 t61 t62 t63 t64 t65 t66 t67 t68 t69 t70 t71 t72 t73 : V) (h : Heap) (n : Nat) (K : V → Heap → Nat → Prop) : resume CC none [.blk 0, .sq (subC [1, 1, 1] (bodyOf Go.Proofs.Tryz.f9))] (retW CC Go.Proofs.Tryz.f9 K) (.exit 0) ⟨mkTm [t0, t1, t2, t3, t4, t5, t6, t7, t8, t9, t10, t11, t12, t13, t14, t15, t16, t17, t18, t19, t20, t21, t22, t23, t24, t25, t26, t27, t28, t29, t30, t31, t32, t33, t34, t35, t36, t37, t38, t39, t40, t41, t42, t43, t44, t45, t46, t47, t48, t49, t50, t51, t52, t53, t54, t55, t56, t57, t58, t59, t60, t61, t62, t63, t64, t65, t66, t67, t68, t69, t70, t71, t72, t73], h, n, []⟩ = (
K (.s (.bool false)) h n) := by kernel_rfl

/-! F18 lockgate/lockgatelaw12.Long -/
theorem F18 : CC.F.get 18 = some Go.Proofs.Tryz.f18 := by kernel_rfl
theorem F18_eq (t0 : V) (h : Heap) (n : Nat) (K : V → Heap → Nat → Prop) : Wp CC (bodyOf Go.Proofs.Tryz.f18) ⟨initTm Go.Proofs.Tryz.f18 [t0], h, n, []⟩ (retW CC Go.Proofs.Tryz.f18 K) = (
oK (lenV CC h 25 t0) fun v1 =>
oK (binop CC .gtr 3 true v1 (.s (.int .i64 200))) fun v2 =>
oK (asBool v2) fun b3 => bif b3 then (
K (.s (.bool true)) h n) else (
LoopK CC none (subC [1, 1, 0, 1, 0, 0] (bodyOf Go.Proofs.Tryz.f18)) ⟨mkTm [t0, undefV, (.s (.bool false)), (.s (.int .i64 0)), t0, v1, v2, undefV, undefV, undefV, undefV, undefV, undefV, undefV, undefV, undefV, undefV, undefV, undefV, undefV, undefV, undefV, undefV, undefV, undefV, undefV, undefV, undefV, undefV], h, n, []⟩ (resume CC none [.blk 0, .sq (subC [1, 1, 1] (bodyOf Go.Proofs.Tryz.f18))] (retW CC Go.Proofs.Tryz.f18 K)))) := Wp.eq_of (by kernel_rfl)
theorem F18_call {t0 : V} {h : Heap} {n : Nat} {K : V → Heap → Nat → Prop} (H : (∀ b o, h.get b = some o → b < n) → Wp CC (bodyOf Go.Proofs.Tryz.f18) ⟨initTm Go.Proofs.Tryz.f18 [t0], h, n, []⟩ (retW CC Go.Proofs.Tryz.f18 K)) : CallK CC 18 [t0] h n K := by
  have := @callK_of CC CCok 18 Go.Proofs.Tryz.f18 (bodyOf Go.Proofs.Tryz.f18) [t0] h n K F18
  refine this ?_ ?_ ?_
  · kernel_rfl
  · kernel_rfl
  · exact H

def F18_L110100 (t0 t3 : V) (h : Heap) (n : Nat) (s : St) : Prop := ∃ f : Nat → V, s = ⟨mkTm [t0, (f 1), (f 2), t3, (f 4), (f 5), (f 6), (f 7), (f 8), (f 9), (f 10), (f 11), (f 12), (f 13), (f 14), (f 15), (f 16), (f 17), (f 18), (f 19), (f 20), (f 21), (f 22), (f 23), (f 24), (f 25), (f 26), (f 27), (f 28)], h, n, []⟩
theorem F18_L110100_of {t0 t3 : V} {t1 t2 t4 t5 t6 t7 t8 t9 t10 t11 t12 t13 t14 t15 t16 t17 t18 t19 t20 t21 t22 t23 t24 t25 t26 t27 t28 : V} {h : Heap} {n : Nat} : F18_L110100 t0 t3 h n ⟨mkTm [t0, t1, t2, t3, t4, t5, t6, t7, t8, t9, t10, t11, t12, t13, t14, t15, t16, t17, t18, t19, t20, t21, t22, t23, t24, t25, t26, t27, t28], h, n, []⟩ :=
  ⟨fun i => ([t0, t1, t2, t3, t4, t5, t6, t7, t8, t9, t10, t11, t12, t13, t14, t15, t16, t17, t18, t19, t20, t21, t22, t23, t24, t25, t26, t27, t28] : List V).getD i undefV, by kernel_rfl⟩
theorem F18_L110100_elim {t0 t3 : V} {h : Heap} {n : Nat} {s : St} {P : St → Prop} (hs : F18_L110100 t0 t3 h n s) (H : ∀ t1 t2 t4 t5 t6 t7 t8 t9 t10 t11 t12 t13 t14 t15 t16 t17 t18 t19 t20 t21 t22 t23 t24 t25 t26 t27 t28 : V, P ⟨mkTm [t0, t1, t2, t3, t4, t5, t6, t7, t8, t9, t10, t11, t12, t13, t14, t15, t16, t17, t18, t19, t20, t21, t22, t23, t24, t25, t26, t27, t28], h, n, []⟩) : P s := by
  obtain ⟨f, rfl⟩ := hs
  exact H (f 1) (f 2) (f 4) (f 5) (f 6) (f 7) (f 8) (f 9) (f 10) (f 11) (f 12) (f 13) (f 14) (f 15) (f 16) (f 17) (f 18) (f 19) (f 20) (f 21) (f 22) (f 23) (f 24) (f 25) (f 26) (f 27) (f 28)

theorem F18_b110100 (t0 t1 t2 t3 t4 t5 t6 t7 t8 t9 t10 t11 t12 t13 t14 t15 t16 t17 t18 t19 t20 t21 t22 t23 t24 t25 t26 t27 t28 : V) (h : Heap) (n : Nat) (Q : X → St → Prop) : Wp CC (subC [1, 1, 0, 1, 0, 0] (bodyOf Go.Proofs.Tryz.f18)) ⟨mkTm [t0, t1, t2, t3, t4, t5, t6, t7, t8, t9, t10, t11, t12, t13, t14, t15, t16, t17, t18, t19, t20, t21, t22, t23, t24, t25, t26, t27, t28], h, n, []⟩ Q = (
oK (lenV CC h 25 t0) fun v4 =>
oK (binop CC .lss 3 false t3 v4) fun v5 =>
oK (asBool v5) fun b6 => bif b6 then (
oK (indexAddr CC 25 t0 t3) fun v7 =>
oK (rFA CC 65 8 v7) fun v8 =>
oK (normO (rLoad CC 22 h v8)) fun v9 =>
oK (lenV CC h 22 v9) fun v10 =>
oK (binop CC .gtr 3 true v10 (.s (.int .i64 100))) fun v11 =>
oK (bif (rWant false v11) then some t0 else some undefV) fun v12 =>
oK (bif (rWant false v11) then some t3 else some undefV) fun v13 =>
oK (bif (rWant false v11) then indexAddr CC 25 v12 v13 else some undefV) fun v14 =>
oK (bif (rWant false v11) then rFA CC 65 9 v14 else some undefV) fun v15 =>
oK (bif (rWant false v11) then normO (rLoad CC 22 h v15) else some undefV) fun v16 =>
oK (bif (rWant false v11) then lenV CC h 22 v16 else some undefV) fun v17 =>
oK (bif (rWant false v11) then binop CC .gtr 3 true v17 (.s (.int .i64 200)) else some undefV) fun v18 =>
oK (rPick v11 (.s (.bool true)) v18) fun v19 =>
oK (asBool v19) fun b20 => bif b20 then (
Q .ret ⟨mkTm [t0, t1, (.s (.bool true)), t3, t4, t5, t6, t3, t0, v4, v5, t11, t12, t0, t3, v7, v8, v9, v10, v11, v11, v12, v13, v14, v15, v16, v17, v18, v19], h, n, []⟩) else (
oK (binop CC .add 3 true t3 (.s (.int .i64 1))) fun v21 =>
Q .normal ⟨mkTm [t0, t1, t2, v21, t4, t5, t6, t3, t0, v4, v5, t3, v21, t0, t3, v7, v8, v9, v10, v11, v11, v12, v13, v14, v15, v16, v17, v18, v19], h, n, []⟩)) else (
Q (.exit 0) ⟨mkTm [t0, t1, t2, t3, t4, t5, t6, t3, t0, v4, v5, t11, t12, t13, t14, t15, t16, t17, t18, t19, t20, t21, t22, t23, t24, t25, t26, t27, t28], h, n, []⟩)) := Wp.eq_of (by kernel_rfl)

theorem F18_r110100_0 (t0 t1 t2 t3 t4 t5 t6 t7 t8 t9 t10 t11 t12 t13 t14 t15 t16 t17 t18 t19 t20 t21 t22 t23 t24 t25 t26 t27 t28 : V) (h : Heap) (n : Nat) (K : V → Heap → Nat → Prop) : resume CC none [.blk 0, .sq (subC [1, 1, 1] (bodyOf Go.Proofs.Tryz.f18))] (retW CC Go.Proofs.Tryz.f18 K) (.exit 0) ⟨mkTm [t0, t1, t2, t3, t4, t5, t6, t7, t8, t9, t10, t11, t12, t13, t14, t15, t16, t17, t18, t19, t20, t21, t22, t23, t24, t25, t26, t27, t28], h, n, []⟩ = (
K (.s (.bool false)) h n) := by kernel_rfl

/-! F11 lockgate/lockgatelaw16.Begin -/
theorem F11 : CC.F.get 11 = some Go.Proofs.Tryz.f11 := by kernel_rfl
theorem F11_eq (t0 : V) (h : Heap) (n : Nat) (K : V → Heap → Nat → Prop) : Wp CC (bodyOf Go.Proofs.Tryz.f11) ⟨initTm Go.Proofs.Tryz.f11 [t0], h, n, []⟩ (retW CC Go.Proofs.Tryz.f11 K) = (
oK (V.cells t0) fun c1 =>
let h2 := h.set n (.cells (.lst c1.toList) 8); let n3 := n + 1;
oK (rFA CC 30 1 (.ptr n 0)) fun v4 =>
oK (normO (rLoad CC 22 h2 v4)) fun v5 =>
CallK CC 36 [v5] h2 n3 fun v6 h7 n8 =>
oK (rExt v6 0) fun v9 =>
oK (rExt v6 1) fun v10 =>
CallK CC 20 [] h7 n8 fun v11 h12 n13 =>
CallK CC 37 [] h12 n13 fun v14 h15 n16 =>
oK (binop CC .neq 45 true v10 (.s (.int .i64 0))) fun v17 =>
oK (bif (rWant false v17) then some v9 else some undefV) fun v18 =>
oK (bif (rWant false v17) then binop CC .eql 54 true v18 (.s (.pointer none)) else some undefV) fun v19 =>
oK (rPick v17 (.s (.bool true)) v19) fun v20 =>
oK (bif (rWant false v20) then some v11 else some undefV) fun v21 =>
oK (bif (rWant false v20) then binop CC .eql 53 true v21 (.s (.pointer none)) else some undefV) fun v22 =>
oK (rPick v20 (.s (.bool true)) v22) fun v23 =>
oK (bif (rWant false v23) then some v14 else some undefV) fun v24 =>
oK (bif (rWant false v23) then binop CC .eql 55 true v24 (.s (.pointer none)) else some undefV) fun v25 =>
oK (rPick v23 (.s (.bool true)) v25) fun v26 =>
oK (asBool v26) fun b27 => bif b27 then (
K (.tup [(.s (.pointer none)), (.s (.pointer none))]) h15 n16) else (
LoopK CC none (subC [1, 1, 1, 1, 1, 0, 1, 0, 0] (bodyOf Go.Proofs.Tryz.f11)) ⟨mkTm [t0, (.ptr n 0), (.s (.pointer none)), (.s (.pointer none)), v9, v10, v11, v14, (.s (.int .i64 0)), undefV, undefV, v6, v4, v5, v6, v9, v10, v11, v14, v10, v17, v17, v18, v19, v20, v20, v21, v22, v23, v23, v24, v25, v26, undefV, undefV, undefV, undefV, undefV, undefV, undefV, undefV, undefV, undefV, undefV, undefV, undefV, undefV, undefV, undefV, undefV, undefV, undefV, undefV, undefV, undefV, undefV, undefV, undefV, undefV, undefV, undefV, undefV, undefV, undefV, undefV, undefV, undefV, undefV, undefV, undefV, undefV, undefV, undefV, undefV, undefV, undefV, undefV, undefV, undefV], h15, n16, []⟩ (resume CC none [.blk 0, .sq (subC [1, 1, 1, 1, 1, 1] (bodyOf Go.Proofs.Tryz.f11))] (retW CC Go.Proofs.Tryz.f11 K)))) := Wp.eq_of (by kernel_rfl)
theorem F11_call {t0 : V} {h : Heap} {n : Nat} {K : V → Heap → Nat → Prop} (H : (∀ b o, h.get b = some o → b < n) → Wp CC (bodyOf Go.Proofs.Tryz.f11) ⟨initTm Go.Proofs.Tryz.f11 [t0], h, n, []⟩ (retW CC Go.Proofs.Tryz.f11 K)) : CallK CC 11 [t0] h n K := by
  have := @callK_of CC CCok 11 Go.Proofs.Tryz.f11 (bodyOf Go.Proofs.Tryz.f11) [t0] h n K F11
  refine this ?_ ?_ ?_
  · kernel_rfl
  · kernel_rfl
  · exact H

def F11_L111110100 (t1 t4 t6 t7 t8 : V) (h : Heap) (n : Nat) (s : St) : Prop := ∃ f : Nat → V, s = ⟨mkTm [(f 0), t1, (f 2), (f 3), t4, (f 5), t6, t7, t8, (f 9), (f 10), (f 11), (f 12), (f 13), (f 14), (f 15), (f 16), (f 17), (f 18), (f 19), (f 20), (f 21), (f 22), (f 23), (f 24), (f 25), (f 26), (f 27), (f 28), (f 29), (f 30), (f 31), (f 32), (f 33), (f 34), (f 35), (f 36), (f 37), (f 38), (f 39), (f 40), (f 41), (f 42), (f 43), (f 44), (f 45), (f 46), (f 47), (f 48), (f 49), (f 50), (f 51), (f 52), (f 53), (f 54), (f 55), (f 56), (f 57), (f 58), (f 59), (f 60), (f 61), (f 62), (f 63), (f 64), (f 65), (f 66), (f 67), (f 68), (f 69), (f 70), (f 71), (f 72), (f 73), (f 74), (f 75), (f 76), (f 77), (f 78)], h, n, []⟩
theorem F11_L111110100_of {t1 t4 t6 t7 t8 : V} {t0 t2 t3 t5 t9 t10 t11 t12 t13 t14 t15 t16 t17 t18 t19 t20 t21 t22 t23 t24 t25 t26 t27 t28 t29 t30 t31 t32 t33 t34 t35 t36 t37 t38 t39 t40 t41 t42 t43 t44 t45 t46 t47 t48 t49 t50 t51 t52 t53 t54 t55 t56 t57 t58 t59 t60 t61 t62 t63 t64 t65 t66 t67 t68 t69 t70 t71 t72 t73 t74 t75 t76 t77 t78 : V} {h : Heap} {n : Nat} : F11_L111110100 t1 t4 t6 t7 t8 h n ⟨mkTm [t0, t1, t2, t3, t4, t5, t6, t7, t8, t9, t10, t11, t12, t13, t14, t15, t16, t17, t18, t19, t20, t21, t22, t23, t24, t25, t26, t27, t28, t29, t30, t31, t32, t33, t34, t35, t36, t37, t38, t39, t40, t41, t42, t43, t44, t45, t46, t47, t48, t49, t50, t51, t52, t53, t54, t55, t56, t57, t58, t59, t60, t61, t62, t63, t64, t65, t66, t67, t68, t69, t70, t71, t72, t73, t74, t75, t76, t77, t78], h, n, []⟩ :=
  ⟨fun i => ([t0, t1, t2, t3, t4, t5, t6, t7, t8, t9, t10, t11, t12, t13, t14, t15, t16, t17, t18, t19, t20, t21, t22, t23, t24, t25, t26, t27, t28, t29, t30, t31, t32, t33, t34, t35, t36, t37, t38, t39, t40, t41, t42, t43, t44, t45, t46, t47, t48, t49, t50, t51, t52, t53, t54, t55, t56, t57, t58, t59, t60, t61, t62, t63, t64, t65, t66, t67, t68, t69, t70, t71, t72, t73, t74, t75, t76, t77, t78] : List V).getD i undefV, by kernel_rfl⟩
theorem F11_L111110100_elim {t1 t4 t6 t7 t8 : V} {h : Heap} {n : Nat} {s : St} {P : St → Prop} (hs : F11_L111110100 t1 t4 t6 t7 t8 h n s) (H : ∀ t0 t2 t3 t5 t9 t10 t11 t12 t13 t14 t15 t16 t17 t18 t19 t20 t21 t22 t23 t24 t25 t26 t27 t28 t29 t30 t31 t32 t33 t34 t35 t36 t37 t38 t39 t40 t41 t42 t43 t44 t45 t46 t47 t48 t49 t50 t51 t52 t53 t54 t55 t56 t57 t58 t59 t60 t61 t62 t63 t64 t65 t66 t67 t68 t69 t70 t71 t72 t73 t74 t75 t76 t77 t78 : V, P ⟨mkTm [t0, t1, t2, t3, t4, t5, t6, t7, t8, t9, t10, t11, t12, t13, t14, t15, t16, t17, t18, t19, t20, t21, t22, t23, t24, t25, t26, t27, t28, t29, t30, t31, t32, t33, t34, t35, t36, t37, t38, t39, t40, t41, t42, t43, t44, t45, t46, t47, t48, t49, t50, t51, t52, t53, t54, t55, t56, t57, t58, t59, t60, t61, t62, t63, t64, t65, t66, t67, t68, t69, t70, t71, t72, t73, t74, t75, t76, t77, t78], h, n, []⟩) : P s := by
  obtain ⟨f, rfl⟩ := hs
  exact H (f 0) (f 2) (f 3) (f 5) (f 9) (f 10) (f 11) (f 12) (f 13) (f 14) (f 15) (f 16) (f 17) (f 18) (f 19) (f 20) (f 21) (f 22) (f 23) (f 24) (f 25) (f 26) (f 27) (f 28) (f 29) (f 30) (f 31) (f 32) (f 33) (f 34) (f 35) (f 36) (f 37) (f 38) (f 39) (f 40) (f 41) (f 42) (f 43) (f 44) (f 45) (f 46) (f 47) (f 48) (f 49) (f 50) (f 51) (f 52) (f 53) (f 54) (f 55) (f 56) (f 57) (f 58) (f 59) (f 60) (f 61) (f 62) (f 63) (f 64) (f 65) (f 66) (f 67) (f 68) (f 69) (f 70) (f 71) (f 72) (f 73) (f 74) (f 75) (f 76) (f 77) (f 78)

theorem F11_b111110100 (t0 t1 t2 t3 t4 t5 t6 t7 t8 t9 t10 t11 t12 t13 t14 t15 t16 t17 t18 t19 t20 t21 t22 t23 t24 t25 t26 t27 t28 t29 t30 t31 t32 t33 t34 t35 t36 t37 t38 t39 t40 t41 t42 t43 t44 t45 t46 t47 t48 t49 t50 t51 t52 t53 t54 t55 t56 t57 t58 t59 t60 t61 t62 t63 t64 t65 t66 t67 t68 t69 t70 t71 t72 t73 t74 t75 t76 t77 t78 : V) (h : Heap) (n : Nat) (Q : X → St → Prop) : Wp CC (subC [1, 1, 1, 1, 1, 0, 1, 0, 0] (bodyOf Go.Proofs.Tryz.f11)) ⟨mkTm [t0, t1, t2, t3, t4, t5, t6, t7, t8, t9, t10, t11, t12, t13, t14, t15, t16, t17, t18, t19, t20, t21, t22, t23, t24, t25, t26, t27, t28, t29, t30, t31, t32, t33, t34, t35, t36, t37, t38, t39, t40, t41, t42, t43, t44, t45, t46, t47, t48, t49, t50, t51, t52, t53, t54, t55, t56, t57, t58, t59, t60, t61, t62, t63, t64, t65, t66, t67, t68, t69, t70, t71, t72, t73, t74, t75, t76, t77, t78], h, n, []⟩ Q = (
oK (rFA CC 30 0 t1) fun v28 =>
oK (normO (rLoad CC 25 h v28)) fun v29 =>
oK (lenV CC h 25 v29) fun v30 =>
oK (binop CC .lss 3 false t8 v30) fun v31 =>
oK (asBool v31) fun b32 => bif b32 then (
oK (rFA CC 30 0 t1) fun v33 =>
oK (normO (rLoad CC 25 h v33)) fun v34 =>
oK (indexAddr CC 25 v34 t8) fun v35 =>
oK (normO (rLoad CC 65 h v35)) fun v36 =>
CallK CC 22 [t6, v36] h n fun v37 h38 n39 =>
oK (binop CC .add 3 true t8 (.s (.int .i64 1))) fun v40 =>
Q .normal ⟨mkTm [t0, t1, t2, t3, t4, t5, t6, t7, v40, t9, t10, t11, t12, t13, t14, t15, t16, t17, t18, t19, t20, t21, t22, t23, t24, t25, t26, t27, t28, t29, t30, t31, t32, t8, v28, v29, v30, v31, t8, v40, t6, v33, v34, t8, v35, v36, v37, t47, t48, t49, t50, t51, t52, t53, t54, t55, t56, t57, t58, t59, t60, t61, t62, t63, t64, t65, t66, t67, t68, t69, t70, t71, t72, t73, t74, t75, t76, t77, t78], h38, n39, []⟩) else (
Q (.exit 0) ⟨mkTm [t0, t1, t2, t3, t4, t5, t6, t7, t8, t9, t10, t11, t12, t13, t14, t15, t16, t17, t18, t19, t20, t21, t22, t23, t24, t25, t26, t27, t28, t29, t30, t31, t32, t8, v28, v29, v30, v31, t38, t39, t40, t41, t42, t43, t44, t45, t46, t47, t48, t49, t50, t51, t52, t53, t54, t55, t56, t57, t58, t59, t60, t61, t62, t63, t64, t65, t66, t67, t68, t69, t70, t71, t72, t73, t74, t75, t76, t77, t78], h, n, []⟩)) := Wp.eq_of (by kernel_rfl)

theorem F11_r111110100_0 (t0 t1 t2 t3 t4 t5 t6 t7 t8 t9 t10 t11 t12 t13 t14 t15 t16 t17 t18 t19 t20 t21 t22 t23 t24 t25 t26 t27 t28 t29 t30 t31 t32 t33 t34 t35 t36 t37 t38 t39 t40 t41 t42 t43 t44 t45 t46 t47 t48 t49 t50 t51 t52 t53 t54 t55 t56 t57 t58 t59 t60 t61 t62 t63 t64 t65 t66 t67 t68 t69 t70 t71 t72 t73 t74 t75 t76 t77 t78 : V) (h : Heap) (n : Nat) (K : V → Heap → Nat → Prop) : resume CC none [.blk 0, .sq (subC [1, 1, 1, 1, 1, 1] (bodyOf Go.Proofs.Tryz.f11))] (retW CC Go.Proofs.Tryz.f11 K) (.exit 0) ⟨mkTm [t0, t1, t2, t3, t4, t5, t6, t7, t8, t9, t10, t11, t12, t13, t14, t15, t16, t17, t18, t19, t20, t21, t22, t23, t24, t25, t26, t27, t28, t29, t30, t31, t32, t33, t34, t35, t36, t37, t38, t39, t40, t41, t42, t43, t44, t45, t46, t47, t48, t49, t50, t51, t52, t53, t54, t55, t56, t57, t58, t59, t60, t61, t62, t63, t64, t65, t66, t67, t68, t69, t70, t71, t72, t73, t74, t75, t76, t77, t78], h, n, []⟩ = (
LoopK CC none (subC [1, 1, 1, 1, 1, 1, 0, 1, 0, 0] (bodyOf Go.Proofs.Tryz.f11)) ⟨mkTm [t0, t1, t2, t3, t4, t5, t6, t7, t8, (.s (.int .i64 0)), t10, t11, t12, t13, t14, t15, t16, t17, t18, t19, t20, t21, t22, t23, t24, t25, t26, t27, t28, t29, t30, t31, t32, t33, t34, t35, t36, t37, t38, t39, t40, t41, t42, t43, t44, t45, t46, t47, t48, t49, t50, t51, t52, t53, t54, t55, t56, t57, t58, t59, t60, t61, t62, t63, t64, t65, t66, t67, t68, t69, t70, t71, t72, t73, t74, t75, t76, t77, t78], h, n, []⟩ (resume CC none [.blk 2, .sq (subC [1, 1, 1, 1, 1, 1, 1] (bodyOf Go.Proofs.Tryz.f11))] (retW CC Go.Proofs.Tryz.f11 K))) := by kernel_rfl

def F11_L1111110100 (t1 t4 t6 t7 t9 : V) (h : Heap) (n : Nat) (s : St) : Prop := ∃ f : Nat → V, s = ⟨mkTm [(f 0), t1, (f 2), (f 3), t4, (f 5), t6, t7, (f 8), t9, (f 10), (f 11), (f 12), (f 13), (f 14), (f 15), (f 16), (f 17), (f 18), (f 19), (f 20), (f 21), (f 22), (f 23), (f 24), (f 25), (f 26), (f 27), (f 28), (f 29), (f 30), (f 31), (f 32), (f 33), (f 34), (f 35), (f 36), (f 37), (f 38), (f 39), (f 40), (f 41), (f 42), (f 43), (f 44), (f 45), (f 46), (f 47), (f 48), (f 49), (f 50), (f 51), (f 52), (f 53), (f 54), (f 55), (f 56), (f 57), (f 58), (f 59), (f 60), (f 61), (f 62), (f 63), (f 64), (f 65), (f 66), (f 67), (f 68), (f 69), (f 70), (f 71), (f 72), (f 73), (f 74), (f 75), (f 76), (f 77), (f 78)], h, n, []⟩
theorem F11_L1111110100_of {t1 t4 t6 t7 t9 : V} {t0 t2 t3 t5 t8 t10 t11 t12 t13 t14 t15 t16 t17 t18 t19 t20 t21 t22 t23 t24 t25 t26 t27 t28 t29 t30 t31 t32 t33 t34 t35 t36 t37 t38 t39 t40 t41 t42 t43 t44 t45 t46 t47 t48 t49 t50 t51 t52 t53 t54 t55 t56 t57 t58 t59 t60 t61 t62 t63 t64 t65 t66 t67 t68 t69 t70 t71 t72 t73 t74 t75 t76 t77 t78 : V} {h : Heap} {n : Nat} : F11_L1111110100 t1 t4 t6 t7 t9 h n ⟨mkTm [t0, t1, t2, t3, t4, t5, t6, t7, t8, t9, t10, t11, t12, t13, t14, t15, t16, t17, t18, t19, t20, t21, t22, t23, t24, t25, t26, t27, t28, t29, t30, t31, t32, t33, t34, t35, t36, t37, t38, t39, t40, t41, t42, t43, t44, t45, t46, t47, t48, t49, t50, t51, t52, t53, t54, t55, t56, t57, t58, t59, t60, t61, t62, t63, t64, t65, t66, t67, t68, t69, t70, t71, t72, t73, t74, t75, t76, t77, t78], h, n, []⟩ :=
  ⟨fun i => ([t0, t1, t2, t3, t4, t5, t6, t7, t8, t9, t10, t11, t12, t13, t14, t15, t16, t17, t18, t19, t20, t21, t22, t23, t24, t25, t26, t27, t28, t29, t30, t31, t32, t33, t34, t35, t36, t37, t38, t39, t40, t41, t42, t43, t44, t45, t46, t47, t48, t49, t50, t51, t52, t53, t54, t55, t56, t57, t58, t59, t60, t61, t62, t63, t64, t65, t66, t67, t68, t69, t70, t71, t72, t73, t74, t75, t76, t77, t78] : List V).getD i undefV, by kernel_rfl⟩
theorem F11_L1111110100_elim {t1 t4 t6 t7 t9 : V} {h : Heap} {n : Nat} {s : St} {P : St → Prop} (hs : F11_L1111110100 t1 t4 t6 t7 t9 h n s) (H : ∀ t0 t2 t3 t5 t8 t10 t11 t12 t13 t14 t15 t16 t17 t18 t19 t20 t21 t22 t23 t24 t25 t26 t27 t28 t29 t30 t31 t32 t33 t34 t35 t36 t37 t38 t39 t40 t41 t42 t43 t44 t45 t46 t47 t48 t49 t50 t51 t52 t53 t54 t55 t56 t57 t58 t59 t60 t61 t62 t63 t64 t65 t66 t67 t68 t69 t70 t71 t72 t73 t74 t75 t76 t77 t78 : V, P ⟨mkTm [t0, t1, t2, t3, t4, t5, t6, t7, t8, t9, t10, t11, t12, t13, t14, t15, t16, t17, t18, t19, t20, t21, t22, t23, t24, t25, t26, t27, t28, t29, t30, t31, t32, t33, t34, t35, t36, t37, t38, t39, t40, t41, t42, t43, t44, t45, t46, t47, t48, t49, t50, t51, t52, t53, t54, t55, t56, t57, t58, t59, t60, t61, t62, t63, t64, t65, t66, t67, t68, t69, t70, t71, t72, t73, t74, t75, t76, t77, t78], h, n, []⟩) : P s := by
  obtain ⟨f, rfl⟩ := hs
  exact H (f 0) (f 2) (f 3) (f 5) (f 8) (f 10) (f 11) (f 12) (f 13) (f 14) (f 15) (f 16) (f 17) (f 18) (f 19) (f 20) (f 21) (f 22) (f 23) (f 24) (f 25) (f 26) (f 27) (f 28) (f 29) (f 30) (f 31) (f 32) (f 33) (f 34) (f 35) (f 36) (f 37) (f 38) (f 39) (f 40) (f 41) (f 42) (f 43) (f 44) (f 45) (f 46) (f 47) (f 48) (f 49) (f 50) (f 51) (f 52) (f 53) (f 54) (f 55) (f 56) (f 57) (f 58) (f 59) (f 60) (f 61) (f 62) (f 63) (f 64) (f 65) (f 66) (f 67) (f 68) (f 69) (f 70) (f 71) (f 72) (f 73) (f 74) (f 75) (f 76) (f 77) (f 78)

theorem F11_b1111110100 (t0 t1 t2 t3 t4 t5 t6 t7 t8 t9 t10 t11 t12 t13 t14 t15 t16 t17 t18 t19 t20 t21 t22 t23 t24 t25 t26 t27 t28 t29 t30 t31 t32 t33 t34 t35 t36 t37 t38 t39 t40 t41 t42 t43 t44 t45 t46 t47 t48 t49 t50 t51 t52 t53 t54 t55 t56 t57 t58 t59 t60 t61 t62 t63 t64 t65 t66 t67 t68 t69 t70 t71 t72 t73 t74 t75 t76 t77 t78 : V) (h : Heap) (n : Nat) (Q : X → St → Prop) : Wp CC (subC [1, 1, 1, 1, 1, 1, 0, 1, 0, 0] (bodyOf Go.Proofs.Tryz.f11)) ⟨mkTm [t0, t1, t2, t3, t4, t5, t6, t7, t8, t9, t10, t11, t12, t13, t14, t15, t16, t17, t18, t19, t20, t21, t22, t23, t24, t25, t26, t27, t28, t29, t30, t31, t32, t33, t34, t35, t36, t37, t38, t39, t40, t41, t42, t43, t44, t45, t46, t47, t48, t49, t50, t51, t52, t53, t54, t55, t56, t57, t58, t59, t60, t61, t62, t63, t64, t65, t66, t67, t68, t69, t70, t71, t72, t73, t74, t75, t76, t77, t78], h, n, []⟩ Q = (
oK (rFA CC 30 2 t1) fun v41 =>
oK (normO (rLoad CC 26 h v41)) fun v42 =>
oK (lenV CC h 26 v42) fun v43 =>
oK (binop CC .lss 3 false t9 v43) fun v44 =>
oK (asBool v44) fun b45 => bif b45 then (
oK (rFA CC 30 2 t1) fun v46 =>
oK (normO (rLoad CC 26 h v46)) fun v47 =>
oK (indexAddr CC 26 v47 t9) fun v48 =>
oK (normO (rLoad CC 52 h v48)) fun v49 =>
CallK CC 38 [t7, v49] h n fun v50 h51 n52 =>
oK (binop CC .add 3 true t9 (.s (.int .i64 1))) fun v53 =>
Q .normal ⟨mkTm [t0, t1, t2, t3, t4, t5, t6, t7, t8, v53, t10, t11, t12, t13, t14, t15, t16, t17, t18, t19, t20, t21, t22, t23, t24, t25, t26, t27, t28, t29, t30, t31, t32, t33, t34, t35, t36, t37, t38, t39, t40, t41, t42, t43, t44, t45, t46, t9, v41, v42, v43, v44, t9, v53, t7, v46, v47, t9, v48, v49, v50, t61, t62, t63, t64, t65, t66, t67, t68, t69, t70, t71, t72, t73, t74, t75, t76, t77, t78], h51, n52, []⟩) else (
Q (.exit 2) ⟨mkTm [t0, t1, t2, t3, t4, t5, t6, t7, t8, t9, t10, t11, t12, t13, t14, t15, t16, t17, t18, t19, t20, t21, t22, t23, t24, t25, t26, t27, t28, t29, t30, t31, t32, t33, t34, t35, t36, t37, t38, t39, t40, t41, t42, t43, t44, t45, t46, t9, v41, v42, v43, v44, t52, t53, t54, t55, t56, t57, t58, t59, t60, t61, t62, t63, t64, t65, t66, t67, t68, t69, t70, t71, t72, t73, t74, t75, t76, t77, t78], h, n, []⟩)) := Wp.eq_of (by kernel_rfl)

theorem F11_r1111110100_2 (t0 t1 t2 t3 t4 t5 t6 t7 t8 t9 t10 t11 t12 t13 t14 t15 t16 t17 t18 t19 t20 t21 t22 t23 t24 t25 t26 t27 t28 t29 t30 t31 t32 t33 t34 t35 t36 t37 t38 t39 t40 t41 t42 t43 t44 t45 t46 t47 t48 t49 t50 t51 t52 t53 t54 t55 t56 t57 t58 t59 t60 t61 t62 t63 t64 t65 t66 t67 t68 t69 t70 t71 t72 t73 t74 t75 t76 t77 t78 : V) (h : Heap) (n : Nat) (K : V → Heap → Nat → Prop) : resume CC none [.blk 2, .sq (subC [1, 1, 1, 1, 1, 1, 1] (bodyOf Go.Proofs.Tryz.f11))] (retW CC Go.Proofs.Tryz.f11 K) (.exit 2) ⟨mkTm [t0, t1, t2, t3, t4, t5, t6, t7, t8, t9, t10, t11, t12, t13, t14, t15, t16, t17, t18, t19, t20, t21, t22, t23, t24, t25, t26, t27, t28, t29, t30, t31, t32, t33, t34, t35, t36, t37, t38, t39, t40, t41, t42, t43, t44, t45, t46, t47, t48, t49, t50, t51, t52, t53, t54, t55, t56, t57, t58, t59, t60, t61, t62, t63, t64, t65, t66, t67, t68, t69, t70, t71, t72, t73, t74, t75, t76, t77, t78], h, n, []⟩ = (
oK (rFA CC 30 3 t1) fun v54 =>
oK (normO (rLoad CC 3 h v54)) fun v55 =>
CallK CC 39 [(.s (.int .i64 1)), v55] h n fun v56 h57 n58 =>
let h59 := h57.set n58 (.cells (.lst (zr CC 43).toList) 804); let n60 := n58 + 1;
oK (asPtr (.ptr n58 0)) fun p61 => oK (store CC h59 43 p61.1 p61.2 v56) fun h62 =>
oK (rFA CC 30 4 t1) fun v63 =>
oK (normO (rLoad CC 22 h62 v63)) fun v64 =>
CallK CC 40 [(.ptr n58 0), (.s (.int .i64 (-64))), v64] h62 n60 fun v65 h66 n67 =>
oK (rFA CC 30 5 t1) fun v68 =>
oK (rFA CC 28 0 v68) fun v69 =>
oK (normO (rLoad CC 3 h66 v69)) fun v70 =>
oK (binop CC .neq 3 true v70 (.s (.int .i64 0))) fun v71 =>
oK (asBool v71) fun b72 => bif b72 then (
oK (rFA CC 30 5 t1) fun v73 =>
oK (normO (rLoad CC 28 h66 v73)) fun v74 =>
CallK CC 41 [(.ptr n58 0), (.s (.int .i64 (-8))), (.s (.int .i64 8)), v74] h66 n67 fun v75 h76 n77 =>
oK (normO (build CC 57 [(0, t6), (1, t4), (3, t7)])) fun v78 =>
oK (V.cells v78) fun c79 =>
let h80 := h76.set n77 (.cells (.lst c79.toList) 4); let n81 := n77 + 1;
K (.tup [(.ptr n77 0), (.ptr n58 0)]) h80 n81) else (
oK (normO (build CC 57 [(0, t6), (1, t4), (3, t7)])) fun v82 =>
oK (V.cells v82) fun c83 =>
let h84 := h66.set n67 (.cells (.lst c83.toList) 4); let n85 := n67 + 1;
K (.tup [(.ptr n67 0), (.ptr n58 0)]) h84 n85)) := by kernel_rfl

/-! F36 lockgate/mem.New -/
theorem F36 : CC.F.get 36 = some Go.Proofs.Tryz.f36 := by kernel_rfl
theorem F36_eq (t0 : V) (h : Heap) (n : Nat) (K : V → Heap → Nat → Prop) : Wp CC (bodyOf Go.Proofs.Tryz.f36) ⟨initTm Go.Proofs.Tryz.f36 [t0], h, n, []⟩ (retW CC Go.Proofs.Tryz.f36 K) = (
oK (lenV CC h 22 t0) fun v1 =>
oK (binop CC .gtr 3 true v1 (.s (.int .i64 65535))) fun v2 =>
oK (asBool v2) fun b3 => bif b3 then (
K (.tup [(.s (.pointer none)), (.s (.int .i64 3))]) h n) else (
oK (lenV CC h 22 t0) fun v4 =>
oK (binop CC .add 3 true (.s (.int .i64 64)) v4) fun v5 =>
oK (asNat v5) fun l6 => oK (asNat v5) fun c7 =>
bif Nat.ble l6 c7 && (Nat.ble (1 * c7) 281474976710656 && (Nat.blt c7 9223372036854775808 && true)) then (
let h8 := h.set n (.cells (.lst ((zr CC 5).rep c7).toList) 1); let n9 := n + 1;
oK (sliceOp CC 22 (.slice n 0 l6 c7 false) (some (.s (.int .i64 64))) none none) fun v10 =>
oK (copy CC h8 22 v10 t0) fun r11 =>
oK (normO (build CC 140 [(0, (.slice n 0 l6 c7 false)), (1, (.s (.int .i64 64)))])) fun v12 =>
oK (V.cells v12) fun c13 =>
let h14 := r11.2.set n9 (.cells (.lst c13.toList) 2); let n15 := n9 + 1;
K (.tup [(.ptr n9 0), (.s (.int .i64 0))]) h14 n15) else False)) := Wp.eq_of (by kernel_rfl)
theorem F36_call {t0 : V} {h : Heap} {n : Nat} {K : V → Heap → Nat → Prop} (H : (∀ b o, h.get b = some o → b < n) → Wp CC (bodyOf Go.Proofs.Tryz.f36) ⟨initTm Go.Proofs.Tryz.f36 [t0], h, n, []⟩ (retW CC Go.Proofs.Tryz.f36 K)) : CallK CC 36 [t0] h n K := by
  have := @callK_of CC CCok 36 Go.Proofs.Tryz.f36 (bodyOf Go.Proofs.Tryz.f36) [t0] h n K F36
  refine this ?_ ?_ ?_
  · kernel_rfl
  · kernel_rfl
  · exact H

/-! F20 lockgate/maps.New -/
theorem F20 : CC.F.get 20 = some Go.Proofs.Tryz.f20 := by kernel_rfl
theorem F20_eq (h : Heap) (n : Nat) (K : V → Heap → Nat → Prop) : Wp CC (bodyOf Go.Proofs.Tryz.f20) ⟨initTm Go.Proofs.Tryz.f20 ([] : List V), h, n, []⟩ (retW CC Go.Proofs.Tryz.f20 K) = (
CallK CC 56 [] h n fun v1 h2 n3 =>
oK (normO (build CC 118 [(0, v1)])) fun v4 =>
oK (V.cells v4) fun c5 =>
let h6 := h2.set n3 (.cells (.lst c5.toList) 4); let n7 := n3 + 1;
K (.ptr n3 0) h6 n7) := Wp.eq_of (by kernel_rfl)
theorem F20_call {h : Heap} {n : Nat} {K : V → Heap → Nat → Prop} (H : (∀ b o, h.get b = some o → b < n) → Wp CC (bodyOf Go.Proofs.Tryz.f20) ⟨initTm Go.Proofs.Tryz.f20 ([] : List V), h, n, []⟩ (retW CC Go.Proofs.Tryz.f20 K)) : CallK CC 20 [] h n K := by
  have := @callK_of CC CCok 20 Go.Proofs.Tryz.f20 (bodyOf Go.Proofs.Tryz.f20) [] h n K F20
  refine this ?_ ?_ ?_
  · kernel_rfl
  · kernel_rfl
  · exact H

/-! F56 lockgate/cells.New -/
theorem F56 : CC.F.get 56 = some Go.Proofs.Tryz.f56 := by kernel_rfl
theorem F56_eq (h : Heap) (n : Nat) (K : V → Heap → Nat → Prop) : Wp CC (bodyOf Go.Proofs.Tryz.f56) ⟨initTm Go.Proofs.Tryz.f56 ([] : List V), h, n, []⟩ (retW CC Go.Proofs.Tryz.f56 K) = (
let h1 := h.set n (.map [] 0); let n2 := n + 1;
oK (normO (build CC 169 [(0, (.map n))])) fun v3 =>
oK (V.cells v3) fun c4 =>
let h5 := h1.set n2 (.cells (.lst c4.toList) 2); let n6 := n2 + 1;
K (.ptr n2 0) h5 n6) := Wp.eq_of (by kernel_rfl)
theorem F56_call {h : Heap} {n : Nat} {K : V → Heap → Nat → Prop} (H : (∀ b o, h.get b = some o → b < n) → Wp CC (bodyOf Go.Proofs.Tryz.f56) ⟨initTm Go.Proofs.Tryz.f56 ([] : List V), h, n, []⟩ (retW CC Go.Proofs.Tryz.f56 K)) : CallK CC 56 [] h n K := by
  have := @callK_of CC CCok 56 Go.Proofs.Tryz.f56 (bodyOf Go.Proofs.Tryz.f56) [] h n K F56
  refine this ?_ ?_ ?_
  · kernel_rfl
  · kernel_rfl
  · exact H

/-! F37 lockgate/helper.NewDraws -/
theorem F37 : CC.F.get 37 = some Go.Proofs.Tryz.f37 := by kernel_rfl
theorem F37_eq (h : Heap) (n : Nat) (K : V → Heap → Nat → Prop) : Wp CC (bodyOf Go.Proofs.Tryz.f37) ⟨initTm Go.Proofs.Tryz.f37 ([] : List V), h, n, []⟩ (retW CC Go.Proofs.Tryz.f37 K) = (
oK (normO (build CC 107 [])) fun v1 =>
oK (V.cells v1) fun c2 =>
let h3 := h.set n (.cells (.lst c2.toList) 1); let n4 := n + 1;
K (.ptr n 0) h3 n4) := Wp.eq_of (by kernel_rfl)
theorem F37_call {h : Heap} {n : Nat} {K : V → Heap → Nat → Prop} (H : (∀ b o, h.get b = some o → b < n) → Wp CC (bodyOf Go.Proofs.Tryz.f37) ⟨initTm Go.Proofs.Tryz.f37 ([] : List V), h, n, []⟩ (retW CC Go.Proofs.Tryz.f37 K)) : CallK CC 37 [] h n K := by
  have := @callK_of CC CCok 37 Go.Proofs.Tryz.f37 (bodyOf Go.Proofs.Tryz.f37) [] h n K F37
  refine this ?_ ?_ ?_
  · kernel_rfl
  · kernel_rfl
  · exact H

/-! F38 (*lockgate/helper.Draws).Add -/
theorem F38 : CC.F.get 38 = some Go.Proofs.Tryz.f38 := by kernel_rfl
theorem F38_eq (t0 t1 : V) (h : Heap) (n : Nat) (K : V → Heap → Nat → Prop) : Wp CC (bodyOf Go.Proofs.Tryz.f38) ⟨initTm Go.Proofs.Tryz.f38 [t0, t1], h, n, []⟩ (retW CC Go.Proofs.Tryz.f38 K) = (
oK (rNil t0) fun v1 =>
oK (rFA CC 107 0 v1) fun v2 =>
oK (normO (rLoad CC 26 h v2)) fun v3 =>
oK (fillA 1 ((zr CC 52).rep 1) [(0, t1)]) fun c4 =>
let h5 := h.set n (.cells (.lst c4.toList) 1); let n6 := n + 1;
oK (append CC h5 n6 26 26 v3 (.slice n 0 1 1 false)) fun r7 =>
oK (rNil t0) fun v8 =>
oK (rFA CC 107 0 v8) fun v9 =>
oK (asPtr v9) fun p10 => oK (store CC (normB r7.1 r7.2.1) 26 p10.1 p10.2 r7.1) fun h11 =>
K (.tup []) h11 r7.2.2) := Wp.eq_of (by kernel_rfl)
theorem F38_call {t0 t1 : V} {h : Heap} {n : Nat} {K : V → Heap → Nat → Prop} (H : (∀ b o, h.get b = some o → b < n) → Wp CC (bodyOf Go.Proofs.Tryz.f38) ⟨initTm Go.Proofs.Tryz.f38 [t0, t1], h, n, []⟩ (retW CC Go.Proofs.Tryz.f38 K)) : CallK CC 38 [t0, t1] h n K := by
  have := @callK_of CC CCok 38 Go.Proofs.Tryz.f38 (bodyOf Go.Proofs.Tryz.f38) [t0, t1] h n K F38
  refine this ?_ ?_ ?_
  · kernel_rfl
  · kernel_rfl
  · exact H

/-! F39 lockgate/frame.Start -/
theorem F39 : CC.F.get 39 = some Go.Proofs.Tryz.f39 := by kernel_rfl
theorem F39_eq (t0 t1 : V) (h : Heap) (n : Nat) (K : V → Heap → Nat → Prop) : Wp CC (bodyOf Go.Proofs.Tryz.f39) ⟨initTm Go.Proofs.Tryz.f39 [t0, t1], h, n, []⟩ (retW CC Go.Proofs.Tryz.f39 K) = (
let h1 := h.set n (.cells (.lst (zr CC 43).toList) 804); let n2 := n + 1;
oK (normO (build CC 28 [(0, (.s (.int .i64 5)))])) fun v3 =>
oK (normO (build CC 28 [(0, (.s (.int .i64 4)))])) fun v4 =>
oK (normO (build CC 37 [(1, v3), (10, v4)])) fun v5 =>
oK (normO (build CC 43 [(0, t0), (2, t1), (3, v5)])) fun v6 =>
oK (asPtr (.ptr n 0)) fun p7 => oK (store CC h1 43 p7.1 p7.2 v6) fun h8 =>
oK (resultsOf CC (mkTm [t0, t1, undefV, undefV, (.ptr n 0), t0, t1, v3, v4, v5, v6]) h8 [.cell 4 43]) fun vs => K (oneOf vs) h8 n2) := Wp.eq_of (by kernel_rfl)
theorem F39_call {t0 t1 : V} {h : Heap} {n : Nat} {K : V → Heap → Nat → Prop} (H : (∀ b o, h.get b = some o → b < n) → Wp CC (bodyOf Go.Proofs.Tryz.f39) ⟨initTm Go.Proofs.Tryz.f39 [t0, t1], h, n, []⟩ (retW CC Go.Proofs.Tryz.f39 K)) : CallK CC 39 [t0, t1] h n K := by
  have := @callK_of CC CCok 39 Go.Proofs.Tryz.f39 (bodyOf Go.Proofs.Tryz.f39) [t0, t1] h n K F39
  refine this ?_ ?_ ?_
  · kernel_rfl
  · kernel_rfl
  · exact H

/-! F40 lockgate/mem.StackFill -/
theorem F40 : CC.F.get 40 = some Go.Proofs.Tryz.f40 := by kernel_rfl
theorem F40_eq (t0 t1 t2 : V) (h : Heap) (n : Nat) (K : V → Heap → Nat → Prop) : Wp CC (bodyOf Go.Proofs.Tryz.f40) ⟨initTm Go.Proofs.Tryz.f40 [t0, t1, t2], h, n, []⟩ (retW CC Go.Proofs.Tryz.f40 K) = (
oK (lenV CC h 22 t2) fun v1 =>
oK (binop CC .gtr 3 true v1 (.s (.int .i64 64))) fun v2 =>
oK (bif (rWant false v2) then some t1 else some undefV) fun v3 =>
oK (bif (rWant false v2) then some t2 else some undefV) fun v4 =>
oK (bif (rWant false v2) then lenV CC h 22 v4 else some undefV) fun v5 =>
let k6 := fun (v7 : V) (h8 : Heap) (n9 : Nat) => (
oK (bif (rWant false v2) then rUn CC .not v7 else some undefV) fun v10 =>
oK (rPick v2 (.s (.bool true)) v10) fun v11 =>
oK (asBool v11) fun b12 => bif b12 then (
K (.s (.int .i64 22)) h8 n9) else (
CallK CC 76 [t0, t1, t2] h8 n9 fun v13 h14 n15 =>
K (.s (.int .i64 0)) h14 n15));
bif (rWant false v2) then (CallK CC 75 [v3, v5] h n fun v16 h17 n18 =>
k6 v16 h17 n18) else k6 undefV h n) := Wp.eq_of (by kernel_rfl)
theorem F40_call {t0 t1 t2 : V} {h : Heap} {n : Nat} {K : V → Heap → Nat → Prop} (H : (∀ b o, h.get b = some o → b < n) → Wp CC (bodyOf Go.Proofs.Tryz.f40) ⟨initTm Go.Proofs.Tryz.f40 [t0, t1, t2], h, n, []⟩ (retW CC Go.Proofs.Tryz.f40 K)) : CallK CC 40 [t0, t1, t2] h n K := by
  have := @callK_of CC CCok 40 Go.Proofs.Tryz.f40 (bodyOf Go.Proofs.Tryz.f40) [t0, t1, t2] h n K F40
  refine this ?_ ?_ ?_
  · kernel_rfl
  · kernel_rfl
  · exact H

/-! F75 lockgate/mem.on -/
theorem F75 : CC.F.get 75 = some Go.Proofs.Tryz.f75 := by kernel_rfl
theorem F75_eq (t0 t1 : V) (h : Heap) (n : Nat) (K : V → Heap → Nat → Prop) : Wp CC (bodyOf Go.Proofs.Tryz.f75) ⟨initTm Go.Proofs.Tryz.f75 [t0, t1], h, n, []⟩ (retW CC Go.Proofs.Tryz.f75 K) = (
oK (binop CC .geq 3 true t0 (.s (.int .i64 (-512)))) fun v1 =>
oK (bif (rWant true v1) then some t0 else some undefV) fun v2 =>
oK (bif (rWant true v1) then binop CC .leq 3 true v2 (.s (.int .i64 0)) else some undefV) fun v3 =>
oK (rPick v1 v3 (.s (.bool false))) fun v4 =>
oK (bif (rWant true v4) then some t1 else some undefV) fun v5 =>
oK (bif (rWant true v4) then binop CC .geq 3 true v5 (.s (.int .i64 0)) else some undefV) fun v6 =>
oK (rPick v4 v6 (.s (.bool false))) fun v7 =>
oK (bif (rWant true v7) then some t1 else some undefV) fun v8 =>
oK (bif (rWant true v7) then some t0 else some undefV) fun v9 =>
oK (bif (rWant true v7) then rUn CC .neg v9 else some undefV) fun v10 =>
oK (bif (rWant true v7) then binop CC .leq 3 false v8 v10 else some undefV) fun v11 =>
oK (rPick v7 v11 (.s (.bool false))) fun v12 =>
K v12 h n) := Wp.eq_of (by kernel_rfl)
theorem F75_call {t0 t1 : V} {h : Heap} {n : Nat} {K : V → Heap → Nat → Prop} (H : (∀ b o, h.get b = some o → b < n) → Wp CC (bodyOf Go.Proofs.Tryz.f75) ⟨initTm Go.Proofs.Tryz.f75 [t0, t1], h, n, []⟩ (retW CC Go.Proofs.Tryz.f75 K)) : CallK CC 75 [t0, t1] h n K := by
  have := @callK_of CC CCok 75 Go.Proofs.Tryz.f75 (bodyOf Go.Proofs.Tryz.f75) [t0, t1] h n K F75
  refine this ?_ ?_ ?_
  · kernel_rfl
  · kernel_rfl
  · exact H

/-! F76 lockgate/mem.lay -/
theorem F76 : CC.F.get 76 = some Go.Proofs.Tryz.f76 := by kernel_rfl
theorem F76_eq (t0 t1 t2 : V) (h : Heap) (n : Nat) (K : V → Heap → Nat → Prop) : Wp CC (bodyOf Go.Proofs.Tryz.f76) ⟨initTm Go.Proofs.Tryz.f76 [t0, t1, t2], h, n, []⟩ (retW CC Go.Proofs.Tryz.f76 K) = (
oK (lenV CC h 22 t2) fun v1 =>
LoopK CC none (subC [1, 0, 0] (bodyOf Go.Proofs.Tryz.f76)) ⟨mkTm [t0, t1, t2, undefV, undefV, undefV, undefV, undefV, undefV, undefV, undefV, t2, v1, (.s (.int .i64 0)), undefV, undefV, undefV, undefV, undefV, undefV, undefV, undefV, undefV, undefV, undefV, undefV, undefV, undefV, undefV, undefV, undefV, undefV, undefV, undefV, undefV, undefV, undefV, undefV, undefV, undefV, undefV, undefV, undefV, undefV, undefV, undefV, undefV, undefV, undefV, undefV, undefV, undefV, undefV, undefV, undefV], h, n, []⟩ (resume CC none [.blk 0] (retW CC Go.Proofs.Tryz.f76 K))) := Wp.eq_of (by kernel_rfl)
theorem F76_call {t0 t1 t2 : V} {h : Heap} {n : Nat} {K : V → Heap → Nat → Prop} (H : (∀ b o, h.get b = some o → b < n) → Wp CC (bodyOf Go.Proofs.Tryz.f76) ⟨initTm Go.Proofs.Tryz.f76 [t0, t1, t2], h, n, []⟩ (retW CC Go.Proofs.Tryz.f76 K)) : CallK CC 76 [t0, t1, t2] h n K := by
  have := @callK_of CC CCok 76 Go.Proofs.Tryz.f76 (bodyOf Go.Proofs.Tryz.f76) [t0, t1, t2] h n K F76
  refine this ?_ ?_ ?_
  · kernel_rfl
  · kernel_rfl
  · exact H

def F76_L100 (t0 t1 t11 t12 t13 : V) (h : Heap) (n : Nat) (s : St) : Prop := ∃ f : Nat → V, s = ⟨mkTm [t0, t1, (f 2), (f 3), (f 4), (f 5), (f 6), (f 7), (f 8), (f 9), (f 10), t11, t12, t13, (f 14), (f 15), (f 16), (f 17), (f 18), (f 19), (f 20), (f 21), (f 22), (f 23), (f 24), (f 25), (f 26), (f 27), (f 28), (f 29), (f 30), (f 31), (f 32), (f 33), (f 34), (f 35), (f 36), (f 37), (f 38), (f 39), (f 40), (f 41), (f 42), (f 43), (f 44), (f 45), (f 46), (f 47), (f 48), (f 49), (f 50), (f 51), (f 52), (f 53), (f 54)], h, n, []⟩
theorem F76_L100_of {t0 t1 t11 t12 t13 : V} {t2 t3 t4 t5 t6 t7 t8 t9 t10 t14 t15 t16 t17 t18 t19 t20 t21 t22 t23 t24 t25 t26 t27 t28 t29 t30 t31 t32 t33 t34 t35 t36 t37 t38 t39 t40 t41 t42 t43 t44 t45 t46 t47 t48 t49 t50 t51 t52 t53 t54 : V} {h : Heap} {n : Nat} : F76_L100 t0 t1 t11 t12 t13 h n ⟨mkTm [t0, t1, t2, t3, t4, t5, t6, t7, t8, t9, t10, t11, t12, t13, t14, t15, t16, t17, t18, t19, t20, t21, t22, t23, t24, t25, t26, t27, t28, t29, t30, t31, t32, t33, t34, t35, t36, t37, t38, t39, t40, t41, t42, t43, t44, t45, t46, t47, t48, t49, t50, t51, t52, t53, t54], h, n, []⟩ :=
  ⟨fun i => ([t0, t1, t2, t3, t4, t5, t6, t7, t8, t9, t10, t11, t12, t13, t14, t15, t16, t17, t18, t19, t20, t21, t22, t23, t24, t25, t26, t27, t28, t29, t30, t31, t32, t33, t34, t35, t36, t37, t38, t39, t40, t41, t42, t43, t44, t45, t46, t47, t48, t49, t50, t51, t52, t53, t54] : List V).getD i undefV, by kernel_rfl⟩
theorem F76_L100_elim {t0 t1 t11 t12 t13 : V} {h : Heap} {n : Nat} {s : St} {P : St → Prop} (hs : F76_L100 t0 t1 t11 t12 t13 h n s) (H : ∀ t2 t3 t4 t5 t6 t7 t8 t9 t10 t14 t15 t16 t17 t18 t19 t20 t21 t22 t23 t24 t25 t26 t27 t28 t29 t30 t31 t32 t33 t34 t35 t36 t37 t38 t39 t40 t41 t42 t43 t44 t45 t46 t47 t48 t49 t50 t51 t52 t53 t54 : V, P ⟨mkTm [t0, t1, t2, t3, t4, t5, t6, t7, t8, t9, t10, t11, t12, t13, t14, t15, t16, t17, t18, t19, t20, t21, t22, t23, t24, t25, t26, t27, t28, t29, t30, t31, t32, t33, t34, t35, t36, t37, t38, t39, t40, t41, t42, t43, t44, t45, t46, t47, t48, t49, t50, t51, t52, t53, t54], h, n, []⟩) : P s := by
  obtain ⟨f, rfl⟩ := hs
  exact H (f 2) (f 3) (f 4) (f 5) (f 6) (f 7) (f 8) (f 9) (f 10) (f 14) (f 15) (f 16) (f 17) (f 18) (f 19) (f 20) (f 21) (f 22) (f 23) (f 24) (f 25) (f 26) (f 27) (f 28) (f 29) (f 30) (f 31) (f 32) (f 33) (f 34) (f 35) (f 36) (f 37) (f 38) (f 39) (f 40) (f 41) (f 42) (f 43) (f 44) (f 45) (f 46) (f 47) (f 48) (f 49) (f 50) (f 51) (f 52) (f 53) (f 54)

theorem F76_b100 (t0 t1 t2 t3 t4 t5 t6 t7 t8 t9 t10 t11 t12 t13 t14 t15 t16 t17 t18 t19 t20 t21 t22 t23 t24 t25 t26 t27 t28 t29 t30 t31 t32 t33 t34 t35 t36 t37 t38 t39 t40 t41 t42 t43 t44 t45 t46 t47 t48 t49 t50 t51 t52 t53 t54 : V) (h : Heap) (n : Nat) (Q : X → St → Prop) : Wp CC (subC [1, 0, 0] (bodyOf Go.Proofs.Tryz.f76)) ⟨mkTm [t0, t1, t2, t3, t4, t5, t6, t7, t8, t9, t10, t11, t12, t13, t14, t15, t16, t17, t18, t19, t20, t21, t22, t23, t24, t25, t26, t27, t28, t29, t30, t31, t32, t33, t34, t35, t36, t37, t38, t39, t40, t41, t42, t43, t44, t45, t46, t47, t48, t49, t50, t51, t52, t53, t54], h, n, []⟩ Q = (
oK (binop CC .lss 3 false t13 t12) fun v2 =>
oK (asBool v2) fun b3 => bif b3 then (
oK (indexAddr CC 22 t11 t13) fun v4 =>
oK (normO (rLoad CC 5 h v4)) fun v5 =>
oK (binop CC .add 3 false t1 t13) fun v6 =>
CallK CC 110 [v6] h n fun v7 h8 n9 =>
oK (rExt v7 0) fun v10 =>
oK (rExt v7 1) fun v11 =>
oK (rNil t0) fun v12 =>
oK (rFA CC 43 4 v12) fun v13 =>
oK (indexAddr CC 41 v13 v10) fun v14 =>
oK (rNil v14) fun v15 =>
oK (rFA CC 40 0 v15) fun v16 =>
oK (rFA CC 28 0 v16) fun v17 =>
oK (normO (rLoad CC 3 h8 v17)) fun v18 =>
oK (binop CC .neq 3 true v18 (.s (.int .i64 0))) fun v19 =>
oK (asBool v19) fun b20 => bif b20 then (
oK (normO (build CC 40 [])) fun v21 =>
oK (rNil v14) fun v22 =>
oK (asPtr v22) fun p23 => oK (store CC h8 40 p23.1 p23.2 v21) fun h24 =>
oK (rNil v14) fun v25 =>
oK (rFA CC 40 1 v25) fun v26 =>
oK (indexAddr CC 38 v26 v11) fun v27 =>
oK (asPtr v27) fun p28 => oK (store CC h24 5 p28.1 p28.2 v5) fun h29 =>
oK (rNil v14) fun v30 =>
oK (rFA CC 40 2 v30) fun v31 =>
oK (normO (rLoad CC 5 h29 v31)) fun v32 =>
oK (binop CC .shl 5 true (.s (.int .u8 1)) v11) fun v33 =>
oK (binop CC .or 5 false v32 v33) fun v34 =>
oK (rNil v14) fun v35 =>
oK (rFA CC 40 2 v35) fun v36 =>
oK (asPtr v36) fun p37 => oK (store CC h29 5 p37.1 p37.2 v34) fun h38 =>
((True ∧ normO (rLoad CC 5 h29 v31) = some v32 ∧ True) ∧ True) ∧
oK (binop CC .add 3 true t13 (.s (.int .i64 1))) fun v39 =>
Q .normal ⟨mkTm [t0, t1, t2, t3, t4, t5, t13, v5, v10, v11, v14, t11, t12, v39, v2, t13, v4, v5, v7, t1, t13, v6, v7, v10, v11, t0, v10, v12, v13, v14, v14, v15, v16, v17, v18, v19, v14, v21, v22, v14, v11, v5, v25, v26, v27, v14, v30, v31, v32, v11, v33, v34, v35, v36, v39], h38, (n9 + 10), []⟩) else (
oK (rNil v14) fun v40 =>
oK (rFA CC 40 1 v40) fun v41 =>
oK (indexAddr CC 38 v41 v11) fun v42 =>
oK (asPtr v42) fun p43 => oK (store CC h8 5 p43.1 p43.2 v5) fun h44 =>
oK (rNil v14) fun v45 =>
oK (rFA CC 40 2 v45) fun v46 =>
oK (normO (rLoad CC 5 h44 v46)) fun v47 =>
oK (binop CC .shl 5 true (.s (.int .u8 1)) v11) fun v48 =>
oK (binop CC .or 5 false v47 v48) fun v49 =>
oK (rNil v14) fun v50 =>
oK (rFA CC 40 2 v50) fun v51 =>
oK (asPtr v51) fun p52 => oK (store CC h44 5 p52.1 p52.2 v49) fun h53 =>
((True ∧ normO (rLoad CC 5 h44 v46) = some v47 ∧ True) ∧ True) ∧
oK (binop CC .add 3 true t13 (.s (.int .i64 1))) fun v54 =>
Q .normal ⟨mkTm [t0, t1, t2, t3, t4, t5, t13, v5, v10, v11, v14, t11, t12, v54, v2, t13, v4, v5, v7, t1, t13, v6, v7, v10, v11, t0, v10, v12, v13, v14, v14, v15, v16, v17, v18, v19, t36, t37, t38, v14, v11, v5, v40, v41, v42, v14, v45, v46, v47, v11, v48, v49, v50, v51, v54], h53, (n9 + 10), []⟩)) else (
Q (.exit 0) ⟨mkTm [t0, t1, t2, t3, t4, t5, t6, t7, t8, t9, t10, t11, t12, t13, v2, t15, t16, t17, t18, t19, t20, t21, t22, t23, t24, t25, t26, t27, t28, t29, t30, t31, t32, t33, t34, t35, t36, t37, t38, t39, t40, t41, t42, t43, t44, t45, t46, t47, t48, t49, t50, t51, t52, t53, t54], h, n, []⟩)) := Wp.eq_of (by kernel_rfl)

theorem F76_r100_0 (t0 t1 t2 t3 t4 t5 t6 t7 t8 t9 t10 t11 t12 t13 t14 t15 t16 t17 t18 t19 t20 t21 t22 t23 t24 t25 t26 t27 t28 t29 t30 t31 t32 t33 t34 t35 t36 t37 t38 t39 t40 t41 t42 t43 t44 t45 t46 t47 t48 t49 t50 t51 t52 t53 t54 : V) (h : Heap) (n : Nat) (K : V → Heap → Nat → Prop) : resume CC none [.blk 0] (retW CC Go.Proofs.Tryz.f76 K) (.exit 0) ⟨mkTm [t0, t1, t2, t3, t4, t5, t6, t7, t8, t9, t10, t11, t12, t13, t14, t15, t16, t17, t18, t19, t20, t21, t22, t23, t24, t25, t26, t27, t28, t29, t30, t31, t32, t33, t34, t35, t36, t37, t38, t39, t40, t41, t42, t43, t44, t45, t46, t47, t48, t49, t50, t51, t52, t53, t54], h, n, []⟩ = (
K (.tup []) h n) := by kernel_rfl

/-! F46 (*lockgate/helper.call).draw -/
theorem F46 : CC.F.get 46 = some Go.Proofs.Tryz.f46 := by kernel_rfl
theorem F46_eq (t0 : V) (h : Heap) (n : Nat) (K : V → Heap → Nat → Prop) : Wp CC (bodyOf Go.Proofs.Tryz.f46) ⟨initTm Go.Proofs.Tryz.f46 [t0], h, n, []⟩ (retW CC Go.Proofs.Tryz.f46 K) = (
oK (rNil t0) fun v1 =>
oK (rFA CC 100 0 v1) fun v2 =>
oK (normO (rLoad CC 33 h v2)) fun v3 =>
oK (rNil v3) fun v4 =>
oK (rFA CC 57 3 v4) fun v5 =>
oK (normO (rLoad CC 55 h v5)) fun v6 =>
CallK CC 85 [v6] h n fun v7 h8 n9 =>
oK (convert CC h8 52 23 v7) fun v10 =>
CallK CC 81 [v10] h8 n9 fun v11 h12 n13 =>
CallK CC 80 [t0, v11] h12 n13 fun v14 h15 n16 =>
oK (rExt v14 0) fun v17 =>
oK (rExt v14 1) fun v18 =>
K (.tup [v17, v18]) h15 n16) := Wp.eq_of (by kernel_rfl)
theorem F46_call {t0 : V} {h : Heap} {n : Nat} {K : V → Heap → Nat → Prop} (H : (∀ b o, h.get b = some o → b < n) → Wp CC (bodyOf Go.Proofs.Tryz.f46) ⟨initTm Go.Proofs.Tryz.f46 [t0], h, n, []⟩ (retW CC Go.Proofs.Tryz.f46 K)) : CallK CC 46 [t0] h n K := by
  have := @callK_of CC CCok 46 Go.Proofs.Tryz.f46 (bodyOf Go.Proofs.Tryz.f46) [t0] h n K F46
  refine this ?_ ?_ ?_
  · kernel_rfl
  · kernel_rfl
  · exact H

/-! F80 (*lockgate/helper.call).tells -/
theorem F80 : CC.F.get 80 = some Go.Proofs.Tryz.f80 := by kernel_rfl
theorem F80_eq (t0 t1 : V) (h : Heap) (n : Nat) (K : V → Heap → Nat → Prop) : Wp CC (bodyOf Go.Proofs.Tryz.f80) ⟨initTm Go.Proofs.Tryz.f80 [t0, t1], h, n, []⟩ (retW CC Go.Proofs.Tryz.f80 K) = (
oK (V.cells t1) fun c1 =>
let h2 := h.set n (.cells (.lst c1.toList) 3); let n3 := n + 1;
oK (rNil t0) fun v4 =>
oK (rFA CC 100 1 v4) fun v5 =>
oK (normO (rLoad CC 34 h2 v5)) fun v6 =>
CallK CC 111 [v6] h2 n3 fun v7 h8 n9 =>
oK (rNil t0) fun v10 =>
oK (rFA CC 100 1 v10) fun v11 =>
oK (normO (rLoad CC 34 h8 v11)) fun v12 =>
oK (normO (rLoad CC 28 h8 (.ptr n 0))) fun v13 =>
oK (rNil v12) fun v14 =>
oK (rFA CC 43 3 v14) fun v15 =>
oK (indexAddr CC 37 v15 (.s (.int .i64 0))) fun v16 =>
oK (asPtr v16) fun p17 => oK (store CC h8 28 p17.1 p17.2 v13) fun h18 =>
((True ∧ normO (rLoad CC 28 h8 (.ptr n 0)) = some v13 ∧ True) ∧ (True ∧ normO (rLoad CC 34 h8 v11) = some v12 ∧ True) ∧ True) ∧
K (.tup [(.s (.int .i64 0)), (.s (.int .i64 0))]) h18 (n9 + 9)) := Wp.eq_of (by kernel_rfl)
theorem F80_call {t0 t1 : V} {h : Heap} {n : Nat} {K : V → Heap → Nat → Prop} (H : (∀ b o, h.get b = some o → b < n) → Wp CC (bodyOf Go.Proofs.Tryz.f80) ⟨initTm Go.Proofs.Tryz.f80 [t0, t1], h, n, []⟩ (retW CC Go.Proofs.Tryz.f80 K)) : CallK CC 80 [t0, t1] h n K := by
  have := @callK_of CC CCok 80 Go.Proofs.Tryz.f80 (bodyOf Go.Proofs.Tryz.f80) [t0, t1] h n K F80
  refine this ?_ ?_ ?_
  · kernel_rfl
  · kernel_rfl
  · exact H

/-! F81 lockgate/value.Num -/
theorem F81 : CC.F.get 81 = some Go.Proofs.Tryz.f81 := by kernel_rfl
theorem F81_eq (t0 : V) (h : Heap) (n : Nat) (K : V → Heap → Nat → Prop) : Wp CC (bodyOf Go.Proofs.Tryz.f81) ⟨initTm Go.Proofs.Tryz.f81 [t0], h, n, []⟩ (retW CC Go.Proofs.Tryz.f81 K) = (
let h1 := h.set n (.cells (.lst (zr CC 28).toList) 3); let n2 := n + 1;
oK (normO (build CC 28 [(0, (.s (.int .i64 1))), (1, t0)])) fun v3 =>
oK (asPtr (.ptr n 0)) fun p4 => oK (store CC h1 28 p4.1 p4.2 v3) fun h5 =>
oK (resultsOf CC (mkTm [t0, undefV, (.ptr n 0), t0, v3]) h5 [.cell 2 28]) fun vs => K (oneOf vs) h5 n2) := Wp.eq_of (by kernel_rfl)
theorem F81_call {t0 : V} {h : Heap} {n : Nat} {K : V → Heap → Nat → Prop} (H : (∀ b o, h.get b = some o → b < n) → Wp CC (bodyOf Go.Proofs.Tryz.f81) ⟨initTm Go.Proofs.Tryz.f81 [t0], h, n, []⟩ (retW CC Go.Proofs.Tryz.f81 K)) : CallK CC 81 [t0] h n K := by
  have := @callK_of CC CCok 81 Go.Proofs.Tryz.f81 (bodyOf Go.Proofs.Tryz.f81) [t0] h n K F81
  refine this ?_ ?_ ?_
  · kernel_rfl
  · kernel_rfl
  · exact H

/-! F85 (*lockgate/helper.Draws).Next -/
theorem F85 : CC.F.get 85 = some Go.Proofs.Tryz.f85 := by kernel_rfl
theorem F85_eq (t0 : V) (h : Heap) (n : Nat) (K : V → Heap → Nat → Prop) : Wp CC (bodyOf Go.Proofs.Tryz.f85) ⟨initTm Go.Proofs.Tryz.f85 [t0], h, n, []⟩ (retW CC Go.Proofs.Tryz.f85 K) = (
oK (rNil t0) fun v1 =>
oK (rFA CC 107 0 v1) fun v2 =>
oK (normO (rLoad CC 26 h v2)) fun v3 =>
oK (lenV CC h 26 v3) fun v4 =>
oK (binop CC .eql 3 true v4 (.s (.int .i64 0))) fun v5 =>
oK (asBool v5) fun b6 => bif b6 then (
K (.s (.int .u32 0)) h n) else (
oK (rNil t0) fun v7 =>
oK (rFA CC 107 0 v7) fun v8 =>
oK (normO (rLoad CC 26 h v8)) fun v9 =>
oK (indexAddr CC 26 v9 (.s (.int .i64 0))) fun v10 =>
oK (normO (rLoad CC 52 h v10)) fun v11 =>
oK (rNil t0) fun v12 =>
oK (rFA CC 107 0 v12) fun v13 =>
oK (normO (rLoad CC 26 h v13)) fun v14 =>
oK (sliceOp CC 26 v14 (some (.s (.int .i64 1))) none none) fun v15 =>
oK (rNil t0) fun v16 =>
oK (rFA CC 107 0 v16) fun v17 =>
oK (asPtr v17) fun p18 => oK (store CC h 26 p18.1 p18.2 v15) fun h19 =>
K v11 h19 n)) := Wp.eq_of (by kernel_rfl)
theorem F85_call {t0 : V} {h : Heap} {n : Nat} {K : V → Heap → Nat → Prop} (H : (∀ b o, h.get b = some o → b < n) → Wp CC (bodyOf Go.Proofs.Tryz.f85) ⟨initTm Go.Proofs.Tryz.f85 [t0], h, n, []⟩ (retW CC Go.Proofs.Tryz.f85 K)) : CallK CC 85 [t0] h n K := by
  have := @callK_of CC CCok 85 Go.Proofs.Tryz.f85 (bodyOf Go.Proofs.Tryz.f85) [t0] h n K F85
  refine this ?_ ?_ ?_
  · kernel_rfl
  · kernel_rfl
  · exact H

/-! F111 lockgate/frame.Clear -/
theorem F111 : CC.F.get 111 = some Go.Proofs.Tryz.f111 := by kernel_rfl
theorem F111_eq (t0 : V) (h : Heap) (n : Nat) (K : V → Heap → Nat → Prop) : Wp CC (bodyOf Go.Proofs.Tryz.f111) ⟨initTm Go.Proofs.Tryz.f111 [t0], h, n, []⟩ (retW CC Go.Proofs.Tryz.f111 K) = (
oK (rNil t0) fun v1 =>
oK (rFA CC 43 3 v1) fun v2 =>
oK (sliceOp CC 37 v2 (some (.s (.int .i64 1))) (some (.s (.int .i64 6))) none) fun v3 =>
oK (asNat (.s (.int .i64 5))) fun l4 => oK (asNat (.s (.int .i64 5))) fun c5 =>
bif Nat.ble l4 c5 && (Nat.ble (24 * c5) 281474976710656 && (Nat.blt c5 9223372036854775808 && true)) then (
oK (copy CC (h.set (n + 4) (.cells ((zr CC 28).rep c5) 3)) 209 v3 (.slice (n + 4) 0 l4 c5 false)) fun r6 =>
(True) ∧
K (.tup []) r6.2 (n + 6)) else False) := Wp.eq_of (by kernel_rfl)
theorem F111_call {t0 : V} {h : Heap} {n : Nat} {K : V → Heap → Nat → Prop} (H : (∀ b o, h.get b = some o → b < n) → Wp CC (bodyOf Go.Proofs.Tryz.f111) ⟨initTm Go.Proofs.Tryz.f111 [t0], h, n, []⟩ (retW CC Go.Proofs.Tryz.f111 K)) : CallK CC 111 [t0] h n K := by
  have := @callK_of CC CCok 111 Go.Proofs.Tryz.f111 (bodyOf Go.Proofs.Tryz.f111) [t0] h n K F111
  refine this ?_ ?_ ?_
  · kernel_rfl
  · kernel_rfl
  · exact H

/-! F17 (*lockgate/helper.Draws).Left -/
theorem F17 : CC.F.get 17 = some Go.Proofs.Tryz.f17 := by kernel_rfl
theorem F17_eq (t0 : V) (h : Heap) (n : Nat) (K : V → Heap → Nat → Prop) : Wp CC (bodyOf Go.Proofs.Tryz.f17) ⟨initTm Go.Proofs.Tryz.f17 [t0], h, n, []⟩ (retW CC Go.Proofs.Tryz.f17 K) = (
oK (rNil t0) fun v1 =>
oK (rFA CC 107 0 v1) fun v2 =>
oK (normO (rLoad CC 26 h v2)) fun v3 =>
oK (lenV CC h 26 v3) fun v4 =>
K v4 h n) := Wp.eq_of (by kernel_rfl)
theorem F17_call {t0 : V} {h : Heap} {n : Nat} {K : V → Heap → Nat → Prop} (H : (∀ b o, h.get b = some o → b < n) → Wp CC (bodyOf Go.Proofs.Tryz.f17) ⟨initTm Go.Proofs.Tryz.f17 [t0], h, n, []⟩ (retW CC Go.Proofs.Tryz.f17 K)) : CallK CC 17 [t0] h n K := by
  have := @callK_of CC CCok 17 Go.Proofs.Tryz.f17 (bodyOf Go.Proofs.Tryz.f17) [t0] h n K F17
  refine this ?_ ?_ ?_
  · kernel_rfl
  · kernel_rfl
  · exact H

/-! F14 lockgate/helper.Call -/
theorem F14 : CC.F.get 14 = some Go.Proofs.Tryz.f14 := by kernel_rfl
theorem F14_eq (t0 t1 t2 : V) (h : Heap) (n : Nat) (K : V → Heap → Nat → Prop) : Wp CC (bodyOf Go.Proofs.Tryz.f14) ⟨initTm Go.Proofs.Tryz.f14 [t0, t1, t2], h, n, []⟩ (retW CC Go.Proofs.Tryz.f14 K) = (
oK (normO (build CC 100 [(0, t0), (1, t1)])) fun v1 =>
oK (V.cells v1) fun c2 =>
let h3 := h.set n (.cells (.lst c2.toList) 2); let n4 := n + 1;
let h5 := h3.set n4 (.map [] 0); let n6 := n4 + 1;
oK (mapUpdate CC h5 103 (.map n4) (.s (.int .i64 1)) (.func (.func 42) [(.ptr n 0)] [])) fun h7 =>
oK (mapUpdate CC h7 103 (.map n4) (.s (.int .i64 2)) (.func (.func 43) [(.ptr n 0)] [])) fun h8 =>
oK (mapUpdate CC h8 103 (.map n4) (.s (.int .i64 3)) (.func (.func 44) [(.ptr n 0)] [])) fun h9 =>
oK (mapUpdate CC h9 103 (.map n4) (.s (.int .i64 4)) (.func (.func 45) [(.ptr n 0)] [])) fun h10 =>
oK (mapUpdate CC h10 103 (.map n4) (.s (.int .i64 5)) (.func (.func 46) [(.ptr n 0)] [])) fun h11 =>
oK (mapUpdate CC h11 103 (.map n4) (.s (.int .i64 6)) (.func (.func 47) [(.ptr n 0)] [])) fun h12 =>
oK (mapUpdate CC h12 103 (.map n4) (.s (.int .i64 7)) (.func (.func 48) [(.ptr n 0)] [])) fun h13 =>
oK (mapUpdate CC h13 103 (.map n4) (.s (.int .i64 8)) (.func (.func 49) [(.ptr n 0)] [])) fun h14 =>
oK (lookup CC h14 103 (.map n4) t2 true) fun v15 =>
oK (rExt v15 0) fun v16 =>
oK (rExt v15 1) fun v17 =>
oK (rUn CC .not v17) fun v18 =>
oK (asBool v18) fun b19 => bif b19 then (
K (.tup [(.s (.int .i64 0)), (.s (.int .i64 25))]) h14 n6) else (
callV CC v16 [] h14 n6 fun v20 h21 n22 =>
oK (rExt v20 0) fun v23 =>
oK (rExt v20 1) fun v24 =>
K (.tup [v23, v24]) h21 n22)) := Wp.eq_of (by kernel_rfl)
theorem F14_call {t0 t1 t2 : V} {h : Heap} {n : Nat} {K : V → Heap → Nat → Prop} (H : (∀ b o, h.get b = some o → b < n) → Wp CC (bodyOf Go.Proofs.Tryz.f14) ⟨initTm Go.Proofs.Tryz.f14 [t0, t1, t2], h, n, []⟩ (retW CC Go.Proofs.Tryz.f14 K)) : CallK CC 14 [t0, t1, t2] h n K := by
  have := @callK_of CC CCok 14 Go.Proofs.Tryz.f14 (bodyOf Go.Proofs.Tryz.f14) [t0, t1, t2] h n K F14
  refine this ?_ ?_ ?_
  · kernel_rfl
  · kernel_rfl
  · exact H

end Go.Ev
