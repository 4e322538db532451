import Derived.Test.YthmhagelflolfaaGreatEvKH
import Derived.Test.YthmhagelflolfaaGreatRB
namespace Go.Ev
set_option linter.unusedVariables false
@[simp] theorem ap22_22 (h : Heap) (n : Nat) (s x : V) (K : V → Heap → Nat → Prop) : appendK CC h n 22 22 s x K = appendWK 5 40 h n s x K := of_eq (by kernel_rfl)
@[simp] theorem ap25_25 (h : Heap) (n : Nat) (s x : V) (K : V → Heap → Nat → Prop) : appendK CC h n 25 25 s x K = appendWK 1 8 h n s x K := of_eq (by kernel_rfl)
@[simp] theorem eq22 (c : Bool) (b o l cc : Nat) (p : Bool) : binop CC .eql 22 c (.slice b o l cc p) (.s (.slice none 0 0)) = some (.s (.bool false)) := of_eq (by kernel_rfl)
@[simp] theorem eq22r (c : Bool) (b o l cc : Nat) (p : Bool) : binop CC .eql 22 c (.s (.slice none 0 0)) (.slice b o l cc p) = some (.s (.bool false)) := of_eq (by kernel_rfl)
@[simp] theorem eq22z (c : Bool) : binop CC .eql 22 c (.s (.slice none 0 0)) (.s (.slice none 0 0)) = some (.s (.bool true)) := of_eq (by kernel_rfl)
@[simp] theorem fa27_0 (b o : Nat) : rFA CC 27 0 (.ptr b o) = some (.ptr b (o + 0)) := of_eq (by kernel_rfl)
@[simp] theorem fa27_1 (b o : Nat) : rFA CC 27 1 (.ptr b o) = some (.ptr b (o + 1)) := of_eq (by kernel_rfl)
@[simp] theorem fa31_0 (b o : Nat) : rFA CC 31 0 (.ptr b o) = some (.ptr b (o + 0)) := of_eq (by kernel_rfl)
@[simp] theorem fa31_1 (b o : Nat) : rFA CC 31 1 (.ptr b o) = some (.ptr b (o + 1)) := of_eq (by kernel_rfl)
@[simp] theorem fa54_0 (b o : Nat) : rFA CC 54 0 (.ptr b o) = some (.ptr b (o + 0)) := of_eq (by kernel_rfl)
@[simp] theorem fa54_1 (b o : Nat) : rFA CC 54 1 (.ptr b o) = some (.ptr b (o + 1)) := of_eq (by kernel_rfl)
@[simp] theorem fa54_2 (b o : Nat) : rFA CC 54 2 (.ptr b o) = some (.ptr b (o + 2)) := of_eq (by kernel_rfl)
@[simp] theorem fa54_3 (b o : Nat) : rFA CC 54 3 (.ptr b o) = some (.ptr b (o + 3)) := of_eq (by kernel_rfl)
@[simp] theorem fa54_4 (b o : Nat) : rFA CC 54 4 (.ptr b o) = some (.ptr b (o + 4)) := of_eq (by kernel_rfl)
@[simp] theorem fa99_0 (b o : Nat) : rFA CC 99 0 (.ptr b o) = some (.ptr b (o + 0)) := of_eq (by kernel_rfl)
@[simp] theorem fa99_1 (b o : Nat) : rFA CC 99 1 (.ptr b o) = some (.ptr b (o + 1)) := of_eq (by kernel_rfl)
@[simp] theorem fa99_2 (b o : Nat) : rFA CC 99 2 (.ptr b o) = some (.ptr b (o + 2)) := of_eq (by kernel_rfl)
@[simp] theorem fa99_3 (b o : Nat) : rFA CC 99 3 (.ptr b o) = some (.ptr b (o + 3)) := of_eq (by kernel_rfl)
@[simp] theorem fa99_4 (b o : Nat) : rFA CC 99 4 (.ptr b o) = some (.ptr b (o + 4)) := of_eq (by kernel_rfl)
@[simp] theorem fa99_5 (b o : Nat) : rFA CC 99 5 (.ptr b o) = some (.ptr b (o + 5)) := of_eq (by kernel_rfl)
@[simp] theorem ix136 (b o : Nat) (i : V) : indexAddr CC 136 (.ptr b o) i = (asNat i).bind fun k => bif Nat.blt k 2 then some (.ptr b (o + k * 1)) else none := of_eq (by kernel_rfl)
@[simp] theorem ix139 (b o l c : Nat) (p : Bool) (i : V) : indexAddr CC 139 (.slice b o l c p) i = (asNat i).bind fun k => bif Nat.blt k l then some (.ptr b (o + k * 6)) else none := of_eq (by kernel_rfl)
@[simp] theorem ix22 (b o l c : Nat) (p : Bool) (i : V) : indexAddr CC 22 (.slice b o l c p) i = (asNat i).bind fun k => bif Nat.blt k l then some (.ptr b (o + k * 5)) else none := of_eq (by kernel_rfl)
@[simp] theorem ix25 (b o l c : Nat) (p : Bool) (i : V) : indexAddr CC 25 (.slice b o l c p) i = (asNat i).bind fun k => bif Nat.blt k l then some (.ptr b (o + k * 1)) else none := of_eq (by kernel_rfl)
@[simp] theorem ld22 (h : Heap) (b o : Nat) : rLoad CC 22 h (.ptr b o) = (cellsAt h b).bind fun c => c.1.get o := of_eq (by kernel_rfl)
@[simp] theorem ld25 (h : Heap) (b o : Nat) : rLoad CC 25 h (.ptr b o) = (cellsAt h b).bind fun c => c.1.get o := of_eq (by kernel_rfl)
@[simp] theorem ld27 (h : Heap) (b o : Nat) : rLoad CC 27 h (.ptr b o) = (cellsAt h b).bind fun c => bif Nat.ble (o + 2) c.1.size then some (.agg (c.1.ext o 2)) else none := of_eq (by kernel_rfl)
@[simp] theorem ld3 (h : Heap) (b o : Nat) : rLoad CC 3 h (.ptr b o) = (cellsAt h b).bind fun c => c.1.get o := of_eq (by kernel_rfl)
@[simp] theorem ld31 (h : Heap) (b o : Nat) : rLoad CC 31 h (.ptr b o) = (cellsAt h b).bind fun c => bif Nat.ble (o + 2) c.1.size then some (.agg (c.1.ext o 2)) else none := of_eq (by kernel_rfl)
@[simp] theorem ld4 (h : Heap) (b o : Nat) : rLoad CC 4 h (.ptr b o) = (cellsAt h b).bind fun c => c.1.get o := of_eq (by kernel_rfl)
@[simp] theorem ld54 (h : Heap) (b o : Nat) : rLoad CC 54 h (.ptr b o) = (cellsAt h b).bind fun c => bif Nat.ble (o + 5) c.1.size then some (.agg (c.1.ext o 5)) else none := of_eq (by kernel_rfl)
@[simp] theorem ld99 (h : Heap) (b o : Nat) : rLoad CC 99 h (.ptr b o) = (cellsAt h b).bind fun c => bif Nat.ble (o + 6) c.1.size then some (.agg (c.1.ext o 6)) else none := of_eq (by kernel_rfl)
@[simp] theorem len139 (h : Heap) (b o l c : Nat) (p : Bool) : lenV CC h 139 (.slice b o l c p) = some (.s (.int .i64 (l : Int))) := of_eq (by kernel_rfl)
@[simp] theorem len22 (h : Heap) (b o l c : Nat) (p : Bool) : lenV CC h 22 (.slice b o l c p) = some (.s (.int .i64 (l : Int))) := of_eq (by kernel_rfl)
@[simp] theorem len25 (h : Heap) (b o l c : Nat) (p : Bool) : lenV CC h 25 (.slice b o l c p) = some (.s (.int .i64 (l : Int))) := of_eq (by kernel_rfl)
@[simp] theorem lenn139 (h : Heap) : lenV CC h 139 (.s (.slice none 0 0)) = some (.s (.int .i64 0)) := of_eq (by kernel_rfl)
@[simp] theorem lenn22 (h : Heap) : lenV CC h 22 (.s (.slice none 0 0)) = some (.s (.int .i64 0)) := of_eq (by kernel_rfl)
@[simp] theorem lenn25 (h : Heap) : lenV CC h 25 (.s (.slice none 0 0)) = some (.s (.int .i64 0)) := of_eq (by kernel_rfl)
@[simp] theorem sl22 (b o l c : Nat) (p : Bool) (lo hi mx : Option V) : sliceOp CC 22 (.slice b o l c p) lo hi mx = (bounds l c lo hi mx).bind fun q => some (.slice b (o + q.1 * 5) (q.2.1 - q.1) (q.2.2 - q.1) (p && mx.isNone)) := of_eq (by kernel_rfl)
@[simp] theorem sln22 (lo hi mx : Option V) : sliceOp CC 22 (.s (.slice none 0 0)) lo hi mx = (bounds 0 0 lo hi mx).bind fun _ => some (.s (.slice none 0 0)) := of_eq (by kernel_rfl)
@[simp] theorem sto136 (h : Heap) (b o : Nat) (v : V) : store CC h 136 b o v = v.cells.bind fun cs => bif Nat.beq cs.size 2 then storeCells h b o cs else none := of_eq (by kernel_rfl)
@[simp] theorem sto27 (h : Heap) (b o : Nat) (v : V) : store CC h 27 b o v = v.cells.bind fun cs => bif Nat.beq cs.size 2 then storeCells h b o cs else none := of_eq (by kernel_rfl)
@[simp] theorem sto31 (h : Heap) (b o : Nat) (v : V) : store CC h 31 b o v = v.cells.bind fun cs => bif Nat.beq cs.size 2 then storeCells h b o cs else none := of_eq (by kernel_rfl)
@[simp] theorem sto54 (h : Heap) (b o : Nat) (v : V) : store CC h 54 b o v = v.cells.bind fun cs => bif Nat.beq cs.size 5 then storeCells h b o cs else none := of_eq (by kernel_rfl)
@[simp] theorem sto99 (h : Heap) (b o : Nat) (v : V) : store CC h 99 b o v = v.cells.bind fun cs => bif Nat.beq cs.size 6 then storeCells h b o cs else none := of_eq (by kernel_rfl)
@[simp] theorem z136 : (zr CC 136).toList = [.s (.int .i64 0), .s (.int .i64 0)] := of_eq (by kernel_rfl)
@[simp] theorem z137 : (zr CC 137).toList = [.s (.int .i64 0), .s (.int .i64 0), .s (.int .i64 0), .s (.int .i64 0), .s (.int .i64 0), .s (.int .i64 0), .s (.int .i64 0), .s (.int .i64 0)] := of_eq (by kernel_rfl)
@[simp] theorem z27 : (zr CC 27).toList = [.s (.slice none 0 0), .s (.slice none 0 0)] := of_eq (by kernel_rfl)
@[simp] theorem z3 : zr CC 3 = .one (.s (.int .i64 0)) := of_eq (by kernel_rfl)
@[simp] theorem z31 : (zr CC 31).toList = [.s (.slice none 0 0), .s (.slice none 0 0)] := of_eq (by kernel_rfl)
@[simp] theorem z54 : (zr CC 54).toList = [.s (.int .i64 0), .s (.int .i64 0), .s (.int .i64 0), .s (.int .i64 0), .s (.int .i64 0)] := of_eq (by kernel_rfl)
@[simp] theorem z99 : (zr CC 99).toList = [.s (.int .i64 0), .s (.bool false), .s (.bool false), .s (.bool false), .s (.bool false), .s (.bool false)] := of_eq (by kernel_rfl)
@[simp] theorem bd136 (ps : List (Nat × V)) : normO (build CC 136 ps) = bOr (fillL [(0, 1), (1, 1)] (zr CC 136).toList ps) (bFall CC 136 ps) := by
  refine bd_of fun l hl => ?_
  refine @build_array CC 136 ((Ev.ty CC 136).get!) (zr CC 136) [(0, 1), (1, 1)] ?_ 1 ?_ ?_ ?_ ?_ (zr CC 136).toList (Eq.refl _) ps l hl
  · kernel_rfl
  · kernel_rfl
  · kernel_rfl
  · kernel_rfl
  · kernel_rfl
@[simp] theorem bd137 (ps : List (Nat × V)) : normO (build CC 137 ps) = bOr (fillL [(0, 2), (2, 2), (4, 2), (6, 2)] (zr CC 137).toList ps) (bFall CC 137 ps) := by
  refine bd_of fun l hl => ?_
  refine @build_array CC 137 ((Ev.ty CC 137).get!) (zr CC 137) [(0, 2), (2, 2), (4, 2), (6, 2)] ?_ 2 ?_ ?_ ?_ ?_ (zr CC 137).toList (Eq.refl _) ps l hl
  · kernel_rfl
  · kernel_rfl
  · kernel_rfl
  · kernel_rfl
  · kernel_rfl
@[simp] theorem bd27 (ps : List (Nat × V)) : normO (build CC 27 ps) = bOr (fillL [(0, 1), (1, 1)] (zr CC 27).toList ps) (bFall CC 27 ps) := by
  refine bd_of fun l hl => ?_
  refine @build_struct CC 27 ((Ev.ty CC 27).get!) (zr CC 27) [(0, 1), (1, 1)] ?_ ?_ ?_ ?_ (zr CC 27).toList (Eq.refl _) ps l hl
  · kernel_rfl
  · kernel_rfl
  · kernel_rfl
  · kernel_rfl
@[simp] theorem bd31 (ps : List (Nat × V)) : normO (build CC 31 ps) = bOr (fillL [(0, 1), (1, 1)] (zr CC 31).toList ps) (bFall CC 31 ps) := by
  refine bd_of fun l hl => ?_
  refine @build_struct CC 31 ((Ev.ty CC 31).get!) (zr CC 31) [(0, 1), (1, 1)] ?_ ?_ ?_ ?_ (zr CC 31).toList (Eq.refl _) ps l hl
  · kernel_rfl
  · kernel_rfl
  · kernel_rfl
  · kernel_rfl
@[simp] theorem bd54 (ps : List (Nat × V)) : normO (build CC 54 ps) = bOr (fillL [(0, 1), (1, 1), (2, 1), (3, 1), (4, 1)] (zr CC 54).toList ps) (bFall CC 54 ps) := by
  refine bd_of fun l hl => ?_
  refine @build_struct CC 54 ((Ev.ty CC 54).get!) (zr CC 54) [(0, 1), (1, 1), (2, 1), (3, 1), (4, 1)] ?_ ?_ ?_ ?_ (zr CC 54).toList (Eq.refl _) ps l hl
  · kernel_rfl
  · kernel_rfl
  · kernel_rfl
  · kernel_rfl
@[simp] theorem bd99 (ps : List (Nat × V)) : normO (build CC 99 ps) = bOr (fillL [(0, 1), (1, 1), (2, 1), (3, 1), (4, 1), (5, 1)] (zr CC 99).toList ps) (bFall CC 99 ps) := by
  refine bd_of fun l hl => ?_
  refine @build_struct CC 99 ((Ev.ty CC 99).get!) (zr CC 99) [(0, 1), (1, 1), (2, 1), (3, 1), (4, 1), (5, 1)] ?_ ?_ ?_ ?_ (zr CC 99).toList (Eq.refl _) ps l hl
  · kernel_rfl
  · kernel_rfl
  · kernel_rfl
  · kernel_rfl
theorem fk3_1_z : ((Rope.one (V.s (.int .i64 0))).rep 1).toList = (List.replicate 1 (Rope.one (V.s (.int .i64 0))).toList).flatten := by kernel_rfl
@[simp] theorem fk3_1 (ps : List (Nat × V)) (K : List V → Prop) : fillK 1 ((Rope.one (V.s (.int .i64 0))).rep 1) ps K = fillLK (fillL [(0, 1)] (List.replicate 1 (Rope.one (V.s (.int .i64 0))).toList).flatten ps) K (fillKF 1 ((Rope.one (V.s (.int .i64 0))).rep 1) ps K) :=
  fillK_eq (offs := [(0, 1)]) (fun k p hk => by have := offsAB_spec (show offsAB 1 0 [(0, 1)] = true by kernel_rfl) k p hk; simpa using this) (by kernel_rfl) fk3_1_z ps K
theorem fk54_0_z : ((zr CC 54).rep 0).toList = (List.replicate 0 (zr CC 54).toList).flatten := by kernel_rfl
@[simp] theorem fk54_0 (ps : List (Nat × V)) (K : List V → Prop) : fillK 5 ((zr CC 54).rep 0) ps K = fillLK (fillL [] (List.replicate 0 (zr CC 54).toList).flatten ps) K (fillKF 5 ((zr CC 54).rep 0) ps K) :=
  fillK_eq (offs := []) (fun k p hk => by have := offsAB_spec (show offsAB 5 0 [] = true by kernel_rfl) k p hk; simpa using this) (by kernel_rfl) fk54_0_z ps K
theorem fk54_1_z : ((zr CC 54).rep 1).toList = (List.replicate 1 (zr CC 54).toList).flatten := by kernel_rfl
@[simp] theorem fk54_1 (ps : List (Nat × V)) (K : List V → Prop) : fillK 5 ((zr CC 54).rep 1) ps K = fillLK (fillL [(0, 5)] (List.replicate 1 (zr CC 54).toList).flatten ps) K (fillKF 5 ((zr CC 54).rep 1) ps K) :=
  fillK_eq (offs := [(0, 5)]) (fun k p hk => by have := offsAB_spec (show offsAB 5 0 [(0, 5)] = true by kernel_rfl) k p hk; simpa using this) (by kernel_rfl) fk54_1_z ps K
/-! F3 lockgate/lockgatelaw17.InterpMakes -/
theorem F3 : CC.F.get 3 = some Go.Proofs.Tryz.f3 := by kernel_rfl
theorem F3_eq (t0 : V) (h : Heap) (n : Nat) (K : V → Heap → Nat → Prop) : Wp CC (bodyOf Go.Proofs.Tryz.f3) ⟨initTm Go.Proofs.Tryz.f3 [t0], h, n, []⟩ (retW CC Go.Proofs.Tryz.f3 K) = (
oK (lenV CC h 22 t0) fun v1 =>
oK (binop CC .gtr 3 true v1 (.s (.int .i64 1024))) fun v2 =>
oK (asBool v2) fun b3 => bif b3 then (
CallK CC 4 [] h n fun v4 h5 n6 =>
K v4 h5 n6) else (
CallK CC 5 [t0] h n fun v7 h8 n9 =>
oK (lenV CC h8 22 t0) fun v10 =>
oK (sliceOp CC 22 v7 none (some v10) none) fun v11 =>
CallK CC 6 [v11] h8 n9 fun v12 h13 n14 =>
oK (rExt v12 0) fun v15 =>
oK (rExt v12 1) fun v16 =>
let h17 := h13.set n14 (.cells (.lst (zr CC 27).toList) 2); let n18 := n14 + 1;
oK (asPtr (.ptr n14 0)) fun p19 => oK (store CC h17 27 p19.1 p19.2 v15) fun h20 =>
CallK CC 7 [t0] h20 n18 fun v21 h22 n23 =>
oK (rExt v21 0) fun v24 =>
oK (rExt v21 1) fun v25 =>
let h26 := h22.set n23 (.cells (.lst (zr CC 31).toList) 2); let n27 := n23 + 1;
oK (asPtr (.ptr n23 0)) fun p28 => oK (store CC h26 31 p28.1 p28.2 v24) fun h29 =>
oK (binop CC .neq 28 false v16 v25) fun v30 =>
oK (bif (rWant false v30) then some v7 else some undefV) fun v31 =>
oK (bif (rWant false v30) then some t0 else some undefV) fun v32 =>
let k33 := fun (v34 : V) (h35 : Heap) (n36 : Nat) => (
oK (bif (rWant false v30) then rUn CC .not v34 else some undefV) fun v37 =>
oK (rPick v30 (.s (.bool true)) v37) fun v38 =>
oK (asBool v38) fun b39 => bif b39 then (
K (.s (.bool false)) h35 n36) else (
CallK CC 9 [v7] h35 n36 fun v40 h41 n42 =>
oK (rFA CC 27 0 (.ptr n14 0)) fun v43 =>
oK (normO (rLoad CC 22 h41 v43)) fun v44 =>
oK (rFA CC 31 0 (.ptr n23 0)) fun v45 =>
oK (normO (rLoad CC 22 h41 v45)) fun v46 =>
CallK CC 10 [v44, v46] h41 n42 fun v47 h48 n49 =>
oK (bif (rWant true v47) then rFA CC 27 1 (.ptr n14 0) else some undefV) fun v50 =>
oK (bif (rWant true v47) then normO (rLoad CC 25 h48 v50) else some undefV) fun v51 =>
oK (bif (rWant true v47) then rFA CC 31 1 (.ptr n23 0) else some undefV) fun v52 =>
oK (bif (rWant true v47) then normO (rLoad CC 25 h48 v52) else some undefV) fun v53 =>
let k54 := fun (v55 : V) (h56 : Heap) (n57 : Nat) => (
oK (rPick v47 v55 (.s (.bool false))) fun v58 =>
let k59 := fun (v60 : V) (h61 : Heap) (n62 : Nat) => (
oK (rPick v58 v60 (.s (.bool false))) fun v63 =>
K v63 h61 n62);
bif (rWant true v58) then (CallK CC 4 [] h56 n57 fun v64 h65 n66 =>
k59 v64 h65 n66) else k59 undefV h56 n57);
bif (rWant true v47) then (CallK CC 11 [v51, v53] h48 n49 fun v67 h68 n69 =>
k54 v67 h68 n69) else k54 undefV h48 n49));
bif (rWant false v30) then (CallK CC 8 [v31, v32] h29 n27 fun v70 h71 n72 =>
k33 v70 h71 n72) else k33 undefV h29 n27)) := Wp.eq_of (by kernel_rfl)
theorem F3_call {t0 : V} {h : Heap} {n : Nat} {K : V → Heap → Nat → Prop} (H : (∀ b o, h.get b = some o → b < n) → Wp CC (bodyOf Go.Proofs.Tryz.f3) ⟨initTm Go.Proofs.Tryz.f3 [t0], h, n, []⟩ (retW CC Go.Proofs.Tryz.f3 K)) : CallK CC 3 [t0] h n K := by
  have := @callK_of CC CCok 3 Go.Proofs.Tryz.f3 (bodyOf Go.Proofs.Tryz.f3) [t0] h n K F3
  refine this ?_ ?_ ?_
  · kernel_rfl
  · kernel_rfl
  · exact H

/-! F5 lockgate/lockgatekit.LentInsns -/
theorem F5 : CC.F.get 5 = some Go.Proofs.Tryz.f5 := by kernel_rfl
theorem F5_eq (t0 : V) (h : Heap) (n : Nat) (K : V → Heap → Nat → Prop) : Wp CC (bodyOf Go.Proofs.Tryz.f5) ⟨initTm Go.Proofs.Tryz.f5 [t0], h, n, []⟩ (retW CC Go.Proofs.Tryz.f5 K) = (
CallK CC 15 [t0] h n fun v1 h2 n3 =>
LoopK CC none (subC [1, 1, 0, 1, 0, 0] (bodyOf Go.Proofs.Tryz.f5)) ⟨mkTm [t0, undefV, (.s (.slice none 0 0)), v1, (.s (.int .i64 0)), t0, v1, undefV, undefV, undefV, undefV, undefV, undefV, undefV, undefV, undefV, undefV], h2, n3, []⟩ (resume CC none [.blk 0, .sq (subC [1, 1, 1] (bodyOf Go.Proofs.Tryz.f5))] (retW CC Go.Proofs.Tryz.f5 K))) := Wp.eq_of (by kernel_rfl)
theorem F5_call {t0 : V} {h : Heap} {n : Nat} {K : V → Heap → Nat → Prop} (H : (∀ b o, h.get b = some o → b < n) → Wp CC (bodyOf Go.Proofs.Tryz.f5) ⟨initTm Go.Proofs.Tryz.f5 [t0], h, n, []⟩ (retW CC Go.Proofs.Tryz.f5 K)) : CallK CC 5 [t0] h n K := by
  have := @callK_of CC CCok 5 Go.Proofs.Tryz.f5 (bodyOf Go.Proofs.Tryz.f5) [t0] h n K F5
  refine this ?_ ?_ ?_
  · kernel_rfl
  · kernel_rfl
  · exact H

def F5_L110100 (t3 t4 : V) (h : Heap) (n : Nat) (s : St) : Prop := ∃ f : Nat → V, s = ⟨mkTm [(f 0), (f 1), (f 2), t3, t4, (f 5), (f 6), (f 7), (f 8), (f 9), (f 10), (f 11), (f 12), (f 13), (f 14), (f 15), (f 16)], h, n, []⟩
theorem F5_L110100_of {t3 t4 : V} {t0 t1 t2 t5 t6 t7 t8 t9 t10 t11 t12 t13 t14 t15 t16 : V} {h : Heap} {n : Nat} : F5_L110100 t3 t4 h n ⟨mkTm [t0, t1, t2, t3, t4, t5, t6, t7, t8, t9, t10, t11, t12, t13, t14, t15, t16], h, n, []⟩ :=
  ⟨fun i => ([t0, t1, t2, t3, t4, t5, t6, t7, t8, t9, t10, t11, t12, t13, t14, t15, t16] : List V).getD i undefV, by kernel_rfl⟩
theorem F5_L110100_elim {t3 t4 : V} {h : Heap} {n : Nat} {s : St} {P : St → Prop} (hs : F5_L110100 t3 t4 h n s) (H : ∀ t0 t1 t2 t5 t6 t7 t8 t9 t10 t11 t12 t13 t14 t15 t16 : V, P ⟨mkTm [t0, t1, t2, t3, t4, t5, t6, t7, t8, t9, t10, t11, t12, t13, t14, t15, t16], h, n, []⟩) : P s := by
  obtain ⟨f, rfl⟩ := hs
  exact H (f 0) (f 1) (f 2) (f 5) (f 6) (f 7) (f 8) (f 9) (f 10) (f 11) (f 12) (f 13) (f 14) (f 15) (f 16)

theorem F5_b110100 (t0 t1 t2 t3 t4 t5 t6 t7 t8 t9 t10 t11 t12 t13 t14 t15 t16 : V) (h : Heap) (n : Nat) (Q : X → St → Prop) : Wp CC (subC [1, 1, 0, 1, 0, 0] (bodyOf Go.Proofs.Tryz.f5)) ⟨mkTm [t0, t1, t2, t3, t4, t5, t6, t7, t8, t9, t10, t11, t12, t13, t14, t15, t16], h, n, []⟩ Q = (
oK (binop CC .lss 3 true t4 (.s (.int .i64 5))) fun v4 =>
oK (asBool v4) fun b5 => bif b5 then (
CallK CC 16 [t4] h n fun v6 h7 n8 =>
fillK 5 ((zr CC 54).rep 1) [(0, v6)] fun c9 =>
let h10 := h7.set n8 (.cells (.lst c9) 5); let n11 := n8 + 1;
appendK CC h10 n11 22 22 t3 (.slice n8 0 1 1 false) fun v12 h13 n14 =>
oK (binop CC .add 3 true t4 (.s (.int .i64 1))) fun v15 =>
Q .normal ⟨mkTm [t0, t1, t2, v12, v15, t5, t6, t4, v4, t4, v15, t3, t4, v6, (.slice n8 0 1 1 false), v12, t16], h13, n14, []⟩) else (
Q (.exit 0) ⟨mkTm [t0, t1, t2, t3, t4, t5, t6, t4, v4, t9, t10, t11, t12, t13, t14, t15, t16], h, n, []⟩)) := Wp.eq_of (by kernel_rfl)

theorem F5_r110100_0 (t0 t1 t2 t3 t4 t5 t6 t7 t8 t9 t10 t11 t12 t13 t14 t15 t16 : V) (h : Heap) (n : Nat) (K : V → Heap → Nat → Prop) : resume CC none [.blk 0, .sq (subC [1, 1, 1] (bodyOf Go.Proofs.Tryz.f5))] (retW CC Go.Proofs.Tryz.f5 K) (.exit 0) ⟨mkTm [t0, t1, t2, t3, t4, t5, t6, t7, t8, t9, t10, t11, t12, t13, t14, t15, t16], h, n, []⟩ = (
K t3 h n) := by kernel_rfl

/-! F6 lockgate/interp.Make -/
theorem F6 : CC.F.get 6 = some Go.Proofs.Tryz.f6 := by kernel_rfl
theorem F6_eq (t0 : V) (h : Heap) (n : Nat) (K : V → Heap → Nat → Prop) : Wp CC (bodyOf Go.Proofs.Tryz.f6) ⟨initTm Go.Proofs.Tryz.f6 [t0], h, n, []⟩ (retW CC Go.Proofs.Tryz.f6 K) = (
let h1 := h.set n (.cells (.lst (zr CC 27).toList) 2); let n2 := n + 1;
oK (lenV CC h1 22 t0) fun v3 =>
LoopK CC none (subC [1, 0, 1, 0, 0] (bodyOf Go.Proofs.Tryz.f6)) ⟨mkTm [t0, undefV, (.ptr n 0), (.s (.int .i64 0)), undefV, undefV, undefV, undefV, undefV, t0, v3, (.s (.int .i64 0)), undefV, undefV, undefV, undefV, undefV, undefV, undefV, undefV, undefV, undefV, undefV, undefV, undefV, undefV, undefV, undefV, undefV, undefV, undefV, undefV, undefV, undefV, undefV], h1, n2, []⟩ (resume CC none [.blk 0, .sq (subC [1, 1] (bodyOf Go.Proofs.Tryz.f6))] (retW CC Go.Proofs.Tryz.f6 K))) := Wp.eq_of (by kernel_rfl)
theorem F6_call {t0 : V} {h : Heap} {n : Nat} {K : V → Heap → Nat → Prop} (H : (∀ b o, h.get b = some o → b < n) → Wp CC (bodyOf Go.Proofs.Tryz.f6) ⟨initTm Go.Proofs.Tryz.f6 [t0], h, n, []⟩ (retW CC Go.Proofs.Tryz.f6 K)) : CallK CC 6 [t0] h n K := by
  have := @callK_of CC CCok 6 Go.Proofs.Tryz.f6 (bodyOf Go.Proofs.Tryz.f6) [t0] h n K F6
  refine this ?_ ?_ ?_
  · kernel_rfl
  · kernel_rfl
  · exact H

def F6_L10100 (t0 t2 t9 t10 t11 : V) (h : Heap) (n : Nat) (s : St) : Prop := ∃ f : Nat → V, s = ⟨mkTm [t0, (f 1), t2, (f 3), (f 4), (f 5), (f 6), (f 7), (f 8), t9, t10, t11, (f 12), (f 13), (f 14), (f 15), (f 16), (f 17), (f 18), (f 19), (f 20), (f 21), (f 22), (f 23), (f 24), (f 25), (f 26), (f 27), (f 28), (f 29), (f 30), (f 31), (f 32), (f 33), (f 34)], h, n, []⟩
theorem F6_L10100_of {t0 t2 t9 t10 t11 : V} {t1 t3 t4 t5 t6 t7 t8 t12 t13 t14 t15 t16 t17 t18 t19 t20 t21 t22 t23 t24 t25 t26 t27 t28 t29 t30 t31 t32 t33 t34 : V} {h : Heap} {n : Nat} : F6_L10100 t0 t2 t9 t10 t11 h n ⟨mkTm [t0, t1, t2, t3, t4, t5, t6, t7, t8, t9, t10, t11, t12, t13, t14, t15, t16, t17, t18, t19, t20, t21, t22, t23, t24, t25, t26, t27, t28, t29, t30, t31, t32, t33, t34], h, n, []⟩ :=
  ⟨fun i => ([t0, t1, t2, t3, t4, t5, t6, t7, t8, t9, t10, t11, t12, t13, t14, t15, t16, t17, t18, t19, t20, t21, t22, t23, t24, t25, t26, t27, t28, t29, t30, t31, t32, t33, t34] : List V).getD i undefV, by kernel_rfl⟩
theorem F6_L10100_elim {t0 t2 t9 t10 t11 : V} {h : Heap} {n : Nat} {s : St} {P : St → Prop} (hs : F6_L10100 t0 t2 t9 t10 t11 h n s) (H : ∀ t1 t3 t4 t5 t6 t7 t8 t12 t13 t14 t15 t16 t17 t18 t19 t20 t21 t22 t23 t24 t25 t26 t27 t28 t29 t30 t31 t32 t33 t34 : V, P ⟨mkTm [t0, t1, t2, t3, t4, t5, t6, t7, t8, t9, t10, t11, t12, t13, t14, t15, t16, t17, t18, t19, t20, t21, t22, t23, t24, t25, t26, t27, t28, t29, t30, t31, t32, t33, t34], h, n, []⟩) : P s := by
  obtain ⟨f, rfl⟩ := hs
  exact H (f 1) (f 3) (f 4) (f 5) (f 6) (f 7) (f 8) (f 12) (f 13) (f 14) (f 15) (f 16) (f 17) (f 18) (f 19) (f 20) (f 21) (f 22) (f 23) (f 24) (f 25) (f 26) (f 27) (f 28) (f 29) (f 30) (f 31) (f 32) (f 33) (f 34)

theorem F6_b10100 (t0 t1 t2 t3 t4 t5 t6 t7 t8 t9 t10 t11 t12 t13 t14 t15 t16 t17 t18 t19 t20 t21 t22 t23 t24 t25 t26 t27 t28 t29 t30 t31 t32 t33 t34 : V) (h : Heap) (n : Nat) (Q : X → St → Prop) : Wp CC (subC [1, 0, 1, 0, 0] (bodyOf Go.Proofs.Tryz.f6)) ⟨mkTm [t0, t1, t2, t3, t4, t5, t6, t7, t8, t9, t10, t11, t12, t13, t14, t15, t16, t17, t18, t19, t20, t21, t22, t23, t24, t25, t26, t27, t28, t29, t30, t31, t32, t33, t34], h, n, []⟩ Q = (
oK (binop CC .lss 3 false t11 t10) fun v4 =>
oK (asBool v4) fun b5 => bif b5 then (
oK (indexAddr CC 22 t9 t11) fun v6 =>
oK (normO (rLoad CC 54 h v6)) fun v7 =>
let h8 := h.set n (.cells (.lst (zr CC 54).toList) 5); let n9 := n + 1;
oK (asPtr (.ptr n 0)) fun p10 => oK (store CC h8 54 p10.1 p10.2 v7) fun h11 =>
oK (normO (rLoad CC 54 h11 (.ptr n 0))) fun v12 =>
CallK CC 17 [v12] h11 n9 fun v13 h14 n15 =>
oK (binop CC .neq 28 true v13 (.s (.int .i64 0))) fun v16 =>
oK (asBool v16) fun b17 => bif b17 then (
oK (normO (build CC 27 [])) fun v18 =>
oK (asPtr t2) fun p19 => oK (store CC h14 27 p19.1 p19.2 v18) fun h20 =>
Q .ret ⟨mkTm [t0, t1, t2, v13, t4, (.ptr n 0), v13, t7, t8, t9, t10, t11, v4, v6, v7, v12, v13, v13, v16, v18, v13, t21, t22, t23, t24, t25, t26, t27, t28, t29, t30, t31, t32, t33, t34], h20, n15, []⟩) else (
oK (binop CC .add 3 true t11 (.s (.int .i64 1))) fun v21 =>
Q .normal ⟨mkTm [t0, t1, t2, t3, t4, (.ptr n 0), v13, t7, t8, t9, t10, v21, v4, v6, v7, v12, v13, v13, v16, t19, t20, v21, t22, t23, t24, t25, t26, t27, t28, t29, t30, t31, t32, t33, t34], h14, n15, []⟩)) else (
Q (.exit 0) ⟨mkTm [t0, t1, t2, t3, t4, t5, t6, t7, t8, t9, t10, t11, v4, t13, t14, t15, t16, t17, t18, t19, t20, t21, t22, t23, t24, t25, t26, t27, t28, t29, t30, t31, t32, t33, t34], h, n, []⟩)) := Wp.eq_of (by kernel_rfl)

theorem F6_r10100_0 (t0 t1 t2 t3 t4 t5 t6 t7 t8 t9 t10 t11 t12 t13 t14 t15 t16 t17 t18 t19 t20 t21 t22 t23 t24 t25 t26 t27 t28 t29 t30 t31 t32 t33 t34 : V) (h : Heap) (n : Nat) (K : V → Heap → Nat → Prop) : resume CC none [.blk 0, .sq (subC [1, 1] (bodyOf Go.Proofs.Tryz.f6))] (retW CC Go.Proofs.Tryz.f6 K) (.exit 0) ⟨mkTm [t0, t1, t2, t3, t4, t5, t6, t7, t8, t9, t10, t11, t12, t13, t14, t15, t16, t17, t18, t19, t20, t21, t22, t23, t24, t25, t26, t27, t28, t29, t30, t31, t32, t33, t34], h, n, []⟩ = (
CallK CC 18 [t0] h n fun v22 h23 n24 =>
oK (rExt v22 0) fun v25 =>
oK (rExt v22 1) fun v26 =>
oK (binop CC .neq 28 true v26 (.s (.int .i64 0))) fun v27 =>
oK (asBool v27) fun b28 => bif b28 then (
oK (normO (build CC 27 [])) fun v29 =>
oK (asPtr t2) fun p30 => oK (store CC h23 27 p30.1 p30.2 v29) fun h31 =>
oK (resultsOf CC (mkTm [t0, t1, t2, v26, t4, t5, t6, v25, v26, t9, t10, t11, t12, t13, t14, t15, t16, t17, t18, t19, t20, t21, v22, t0, v22, v25, v26, v26, v27, v29, v26, t31, t32, t33, t34]) h31 [.cell 2 27, .tmp 3]) fun vs => K (oneOf vs) h31 n24) else (
CallK CC 19 [t0] h23 n24 fun v32 h33 n34 =>
oK (normO (build CC 27 [(0, v32), (1, v25)])) fun v35 =>
oK (asPtr t2) fun p36 => oK (store CC h33 27 p36.1 p36.2 v35) fun h37 =>
oK (resultsOf CC (mkTm [t0, t1, t2, (.s (.int .i64 0)), t4, t5, t6, v25, v26, t9, t10, t11, t12, t13, t14, t15, t16, t17, t18, t19, t20, t21, v22, t0, v22, v25, v26, v26, v27, t29, t30, t0, v32, v25, v35]) h37 [.cell 2 27, .tmp 3]) fun vs => K (oneOf vs) h37 n34)) := by kernel_rfl

/-! F7 lockgate/lockgateref17.Make -/
theorem F7 : CC.F.get 7 = some Go.Proofs.Tryz.f7 := by kernel_rfl
theorem F7_eq (t0 : V) (h : Heap) (n : Nat) (K : V → Heap → Nat → Prop) : Wp CC (bodyOf Go.Proofs.Tryz.f7) ⟨initTm Go.Proofs.Tryz.f7 [t0], h, n, []⟩ (retW CC Go.Proofs.Tryz.f7 K) = (
let h1 := h.set n (.cells (.lst (zr CC 31).toList) 2); let n2 := n + 1;
LoopK CC none (subC [1, 0, 1, 0, 0] (bodyOf Go.Proofs.Tryz.f7)) ⟨mkTm [t0, undefV, (.ptr n 0), (.s (.int .i64 0)), (.s (.int .i64 0)), undefV, undefV, undefV, undefV, undefV, undefV, undefV, undefV, undefV, undefV, undefV, undefV, undefV, undefV, undefV, undefV, undefV, undefV, undefV, undefV, undefV, undefV, undefV, undefV, undefV, undefV, undefV, undefV, undefV, undefV, undefV], h1, n2, []⟩ (resume CC none [.blk 0, .sq (subC [1, 1] (bodyOf Go.Proofs.Tryz.f7))] (retW CC Go.Proofs.Tryz.f7 K))) := Wp.eq_of (by kernel_rfl)
theorem F7_call {t0 : V} {h : Heap} {n : Nat} {K : V → Heap → Nat → Prop} (H : (∀ b o, h.get b = some o → b < n) → Wp CC (bodyOf Go.Proofs.Tryz.f7) ⟨initTm Go.Proofs.Tryz.f7 [t0], h, n, []⟩ (retW CC Go.Proofs.Tryz.f7 K)) : CallK CC 7 [t0] h n K := by
  have := @callK_of CC CCok 7 Go.Proofs.Tryz.f7 (bodyOf Go.Proofs.Tryz.f7) [t0] h n K F7
  refine this ?_ ?_ ?_
  · kernel_rfl
  · kernel_rfl
  · exact H

def F7_L10100 (t0 t2 t4 : V) (h : Heap) (n : Nat) (s : St) : Prop := ∃ f : Nat → V, s = ⟨mkTm [t0, (f 1), t2, (f 3), t4, (f 5), (f 6), (f 7), (f 8), (f 9), (f 10), (f 11), (f 12), (f 13), (f 14), (f 15), (f 16), (f 17), (f 18), (f 19), (f 20), (f 21), (f 22), (f 23), (f 24), (f 25), (f 26), (f 27), (f 28), (f 29), (f 30), (f 31), (f 32), (f 33), (f 34), (f 35)], h, n, []⟩
theorem F7_L10100_of {t0 t2 t4 : V} {t1 t3 t5 t6 t7 t8 t9 t10 t11 t12 t13 t14 t15 t16 t17 t18 t19 t20 t21 t22 t23 t24 t25 t26 t27 t28 t29 t30 t31 t32 t33 t34 t35 : V} {h : Heap} {n : Nat} : F7_L10100 t0 t2 t4 h n ⟨mkTm [t0, t1, t2, t3, t4, t5, t6, t7, t8, t9, t10, t11, t12, t13, t14, t15, t16, t17, t18, t19, t20, t21, t22, t23, t24, t25, t26, t27, t28, t29, t30, t31, t32, t33, t34, t35], h, n, []⟩ :=
  ⟨fun i => ([t0, t1, t2, t3, t4, t5, t6, t7, t8, t9, t10, t11, t12, t13, t14, t15, t16, t17, t18, t19, t20, t21, t22, t23, t24, t25, t26, t27, t28, t29, t30, t31, t32, t33, t34, t35] : List V).getD i undefV, by kernel_rfl⟩
theorem F7_L10100_elim {t0 t2 t4 : V} {h : Heap} {n : Nat} {s : St} {P : St → Prop} (hs : F7_L10100 t0 t2 t4 h n s) (H : ∀ t1 t3 t5 t6 t7 t8 t9 t10 t11 t12 t13 t14 t15 t16 t17 t18 t19 t20 t21 t22 t23 t24 t25 t26 t27 t28 t29 t30 t31 t32 t33 t34 t35 : V, P ⟨mkTm [t0, t1, t2, t3, t4, t5, t6, t7, t8, t9, t10, t11, t12, t13, t14, t15, t16, t17, t18, t19, t20, t21, t22, t23, t24, t25, t26, t27, t28, t29, t30, t31, t32, t33, t34, t35], h, n, []⟩) : P s := by
  obtain ⟨f, rfl⟩ := hs
  exact H (f 1) (f 3) (f 5) (f 6) (f 7) (f 8) (f 9) (f 10) (f 11) (f 12) (f 13) (f 14) (f 15) (f 16) (f 17) (f 18) (f 19) (f 20) (f 21) (f 22) (f 23) (f 24) (f 25) (f 26) (f 27) (f 28) (f 29) (f 30) (f 31) (f 32) (f 33) (f 34) (f 35)

theorem F7_b10100 (t0 t1 t2 t3 t4 t5 t6 t7 t8 t9 t10 t11 t12 t13 t14 t15 t16 t17 t18 t19 t20 t21 t22 t23 t24 t25 t26 t27 t28 t29 t30 t31 t32 t33 t34 t35 : V) (h : Heap) (n : Nat) (Q : X → St → Prop) : Wp CC (subC [1, 0, 1, 0, 0] (bodyOf Go.Proofs.Tryz.f7)) ⟨mkTm [t0, t1, t2, t3, t4, t5, t6, t7, t8, t9, t10, t11, t12, t13, t14, t15, t16, t17, t18, t19, t20, t21, t22, t23, t24, t25, t26, t27, t28, t29, t30, t31, t32, t33, t34, t35], h, n, []⟩ Q = (
oK (lenV CC h 22 t0) fun v3 =>
oK (binop CC .lss 3 false t4 v3) fun v4 =>
oK (asBool v4) fun b5 => bif b5 then (
oK (indexAddr CC 22 t0 t4) fun v6 =>
oK (normO (rLoad CC 54 h v6)) fun v7 =>
CallK CC 20 [v7] h n fun v8 h9 n10 =>
oK (binop CC .neq 28 true v8 (.s (.int .i64 0))) fun v11 =>
oK (asBool v11) fun b12 => bif b12 then (
oK (normO (build CC 31 [])) fun v13 =>
oK (asPtr t2) fun p14 => oK (store CC h9 31 p14.1 p14.2 v13) fun h15 =>
Q .ret ⟨mkTm [t0, t1, t2, v8, t4, v8, t6, t7, t4, t0, v3, v4, t12, t13, t0, t4, v6, v7, v8, v8, v11, v13, v8, t23, t24, t25, t26, t27, t28, t29, t30, t31, t32, t33, t34, t35], h15, n10, []⟩) else (
oK (binop CC .add 3 true t4 (.s (.int .i64 1))) fun v16 =>
Q .normal ⟨mkTm [t0, t1, t2, t3, v16, v8, t6, t7, t4, t0, v3, v4, t4, v16, t0, t4, v6, v7, v8, v8, v11, t21, t22, t23, t24, t25, t26, t27, t28, t29, t30, t31, t32, t33, t34, t35], h9, n10, []⟩)) else (
Q (.exit 0) ⟨mkTm [t0, t1, t2, t3, t4, t5, t6, t7, t4, t0, v3, v4, t12, t13, t14, t15, t16, t17, t18, t19, t20, t21, t22, t23, t24, t25, t26, t27, t28, t29, t30, t31, t32, t33, t34, t35], h, n, []⟩)) := Wp.eq_of (by kernel_rfl)

theorem F7_r10100_0 (t0 t1 t2 t3 t4 t5 t6 t7 t8 t9 t10 t11 t12 t13 t14 t15 t16 t17 t18 t19 t20 t21 t22 t23 t24 t25 t26 t27 t28 t29 t30 t31 t32 t33 t34 t35 : V) (h : Heap) (n : Nat) (K : V → Heap → Nat → Prop) : resume CC none [.blk 0, .sq (subC [1, 1] (bodyOf Go.Proofs.Tryz.f7))] (retW CC Go.Proofs.Tryz.f7 K) (.exit 0) ⟨mkTm [t0, t1, t2, t3, t4, t5, t6, t7, t8, t9, t10, t11, t12, t13, t14, t15, t16, t17, t18, t19, t20, t21, t22, t23, t24, t25, t26, t27, t28, t29, t30, t31, t32, t33, t34, t35], h, n, []⟩ = (
CallK CC 21 [t0] h n fun v17 h18 n19 =>
oK (rExt v17 0) fun v20 =>
oK (rExt v17 1) fun v21 =>
oK (binop CC .neq 28 true v21 (.s (.int .i64 0))) fun v22 =>
oK (asBool v22) fun b23 => bif b23 then (
oK (normO (build CC 31 [])) fun v24 =>
oK (asPtr t2) fun p25 => oK (store CC h18 31 p25.1 p25.2 v24) fun h26 =>
oK (resultsOf CC (mkTm [t0, t1, t2, v21, t4, t5, v20, v21, t8, t9, t10, t11, t12, t13, t14, t15, t16, t17, t18, t19, t20, t21, t22, v17, t0, v17, v20, v21, v21, v22, v24, v21, t32, t33, t34, t35]) h26 [.cell 2 31, .tmp 3]) fun vs => K (oneOf vs) h26 n19) else (
CallK CC 15 [t0] h18 n19 fun v27 h28 n29 =>
oK (normO (build CC 31 [(0, v27), (1, v20)])) fun v30 =>
oK (asPtr t2) fun p31 => oK (store CC h28 31 p31.1 p31.2 v30) fun h32 =>
oK (resultsOf CC (mkTm [t0, t1, t2, (.s (.int .i64 0)), t4, t5, v20, v21, t8, t9, t10, t11, t12, t13, t14, t15, t16, t17, t18, t19, t20, t21, t22, v17, t0, v17, v20, v21, v21, v22, t30, t31, t0, v27, v20, v30]) h32 [.cell 2 31, .tmp 3]) fun vs => K (oneOf vs) h32 n29)) := by kernel_rfl

/-! F8 lockgate/lockgatekit.KeptInsns -/
theorem F8 : CC.F.get 8 = some Go.Proofs.Tryz.f8 := by kernel_rfl
theorem F8_eq (t0 t1 : V) (h : Heap) (n : Nat) (K : V → Heap → Nat → Prop) : Wp CC (bodyOf Go.Proofs.Tryz.f8) ⟨initTm Go.Proofs.Tryz.f8 [t0, t1], h, n, []⟩ (retW CC Go.Proofs.Tryz.f8 K) = (
oK (lenV CC h 22 t0) fun v1 =>
oK (lenV CC h 22 t1) fun v2 =>
oK (binop CC .add 3 true v2 (.s (.int .i64 5))) fun v3 =>
oK (binop CC .neq 3 false v1 v3) fun v4 =>
oK (bif (rWant false v4) then some t0 else some undefV) fun v5 =>
oK (bif (rWant false v4) then some t1 else some undefV) fun v6 =>
oK (bif (rWant false v4) then lenV CC h 22 v6 else some undefV) fun v7 =>
oK (bif (rWant false v4) then sliceOp CC 22 v5 none (some v7) none else some undefV) fun v8 =>
oK (bif (rWant false v4) then some t1 else some undefV) fun v9 =>
let k10 := fun (v11 : V) (h12 : Heap) (n13 : Nat) => (
oK (bif (rWant false v4) then rUn CC .not v11 else some undefV) fun v14 =>
oK (rPick v4 (.s (.bool true)) v14) fun v15 =>
oK (asBool v15) fun b16 => bif b16 then (
K (.s (.bool false)) h12 n13) else (
LoopK CC none (subC [1, 1, 0, 1, 0, 0] (bodyOf Go.Proofs.Tryz.f8)) ⟨mkTm [t0, t1, undefV, undefV, (.s (.bool false)), (.s (.int .i64 0)), t0, v1, t1, v2, v3, v4, v4, v5, v6, v7, v8, v9, v11, v14, v15, undefV, undefV, undefV, undefV, undefV, undefV, undefV, undefV, undefV, undefV, undefV, undefV, undefV, undefV], h12, n13, []⟩ (resume CC none [.blk 0, .sq (subC [1, 1, 1] (bodyOf Go.Proofs.Tryz.f8))] (retW CC Go.Proofs.Tryz.f8 K))));
bif (rWant false v4) then (CallK CC 10 [v8, v9] h n fun v17 h18 n19 =>
k10 v17 h18 n19) else k10 undefV h n) := Wp.eq_of (by kernel_rfl)
theorem F8_call {t0 t1 : V} {h : Heap} {n : Nat} {K : V → Heap → Nat → Prop} (H : (∀ b o, h.get b = some o → b < n) → Wp CC (bodyOf Go.Proofs.Tryz.f8) ⟨initTm Go.Proofs.Tryz.f8 [t0, t1], h, n, []⟩ (retW CC Go.Proofs.Tryz.f8 K)) : CallK CC 8 [t0, t1] h n K := by
  have := @callK_of CC CCok 8 Go.Proofs.Tryz.f8 (bodyOf Go.Proofs.Tryz.f8) [t0, t1] h n K F8
  refine this ?_ ?_ ?_
  · kernel_rfl
  · kernel_rfl
  · exact H

def F8_L110100 (t0 t1 t5 : V) (h : Heap) (n : Nat) (s : St) : Prop := ∃ f : Nat → V, s = ⟨mkTm [t0, t1, (f 2), (f 3), (f 4), t5, (f 6), (f 7), (f 8), (f 9), (f 10), (f 11), (f 12), (f 13), (f 14), (f 15), (f 16), (f 17), (f 18), (f 19), (f 20), (f 21), (f 22), (f 23), (f 24), (f 25), (f 26), (f 27), (f 28), (f 29), (f 30), (f 31), (f 32), (f 33), (f 34)], h, n, []⟩
theorem F8_L110100_of {t0 t1 t5 : V} {t2 t3 t4 t6 t7 t8 t9 t10 t11 t12 t13 t14 t15 t16 t17 t18 t19 t20 t21 t22 t23 t24 t25 t26 t27 t28 t29 t30 t31 t32 t33 t34 : V} {h : Heap} {n : Nat} : F8_L110100 t0 t1 t5 h n ⟨mkTm [t0, t1, t2, t3, t4, t5, t6, t7, t8, t9, t10, t11, t12, t13, t14, t15, t16, t17, t18, t19, t20, t21, t22, t23, t24, t25, t26, t27, t28, t29, t30, t31, t32, t33, t34], h, n, []⟩ :=
  ⟨fun i => ([t0, t1, t2, t3, t4, t5, t6, t7, t8, t9, t10, t11, t12, t13, t14, t15, t16, t17, t18, t19, t20, t21, t22, t23, t24, t25, t26, t27, t28, t29, t30, t31, t32, t33, t34] : List V).getD i undefV, by kernel_rfl⟩
theorem F8_L110100_elim {t0 t1 t5 : V} {h : Heap} {n : Nat} {s : St} {P : St → Prop} (hs : F8_L110100 t0 t1 t5 h n s) (H : ∀ t2 t3 t4 t6 t7 t8 t9 t10 t11 t12 t13 t14 t15 t16 t17 t18 t19 t20 t21 t22 t23 t24 t25 t26 t27 t28 t29 t30 t31 t32 t33 t34 : V, P ⟨mkTm [t0, t1, t2, t3, t4, t5, t6, t7, t8, t9, t10, t11, t12, t13, t14, t15, t16, t17, t18, t19, t20, t21, t22, t23, t24, t25, t26, t27, t28, t29, t30, t31, t32, t33, t34], h, n, []⟩) : P s := by
  obtain ⟨f, rfl⟩ := hs
  exact H (f 2) (f 3) (f 4) (f 6) (f 7) (f 8) (f 9) (f 10) (f 11) (f 12) (f 13) (f 14) (f 15) (f 16) (f 17) (f 18) (f 19) (f 20) (f 21) (f 22) (f 23) (f 24) (f 25) (f 26) (f 27) (f 28) (f 29) (f 30) (f 31) (f 32) (f 33) (f 34)

theorem F8_b110100 (t0 t1 t2 t3 t4 t5 t6 t7 t8 t9 t10 t11 t12 t13 t14 t15 t16 t17 t18 t19 t20 t21 t22 t23 t24 t25 t26 t27 t28 t29 t30 t31 t32 t33 t34 : V) (h : Heap) (n : Nat) (Q : X → St → Prop) : Wp CC (subC [1, 1, 0, 1, 0, 0] (bodyOf Go.Proofs.Tryz.f8)) ⟨mkTm [t0, t1, t2, t3, t4, t5, t6, t7, t8, t9, t10, t11, t12, t13, t14, t15, t16, t17, t18, t19, t20, t21, t22, t23, t24, t25, t26, t27, t28, t29, t30, t31, t32, t33, t34], h, n, []⟩ Q = (
oK (binop CC .lss 3 true t5 (.s (.int .i64 5))) fun v20 =>
oK (asBool v20) fun b21 => bif b21 then (
oK (lenV CC h 22 t1) fun v22 =>
oK (binop CC .add 3 false v22 t5) fun v23 =>
oK (indexAddr CC 22 t0 v23) fun v24 =>
oK (normO (rLoad CC 54 h v24)) fun v25 =>
CallK CC 16 [t5] h (n + 10) fun v26 h27 n28 =>
(normO (rLoad CC 54 h27 v24) = some v25 ∧ lenV CC h27 22 t1 = some v22 ∧ True) ∧
oK (binop CC .neq 54 false v25 v26) fun v29 =>
oK (asBool v29) fun b30 => bif b30 then (
Q .ret ⟨mkTm [t0, t1, t2, t3, (.s (.bool false)), t5, t6, t7, t8, t9, t10, t11, t12, t13, t14, t15, t16, t17, t18, t19, t20, t5, v20, t23, t24, t0, t1, v22, t5, v23, v24, v25, t5, v26, v29], h27, n28, []⟩) else (
oK (binop CC .add 3 true t5 (.s (.int .i64 1))) fun v31 =>
Q .normal ⟨mkTm [t0, t1, t2, t3, t4, v31, t6, t7, t8, t9, t10, t11, t12, t13, t14, t15, t16, t17, t18, t19, t20, t5, v20, t5, v31, t0, t1, v22, t5, v23, v24, v25, t5, v26, v29], h27, n28, []⟩)) else (
Q (.exit 0) ⟨mkTm [t0, t1, t2, t3, t4, t5, t6, t7, t8, t9, t10, t11, t12, t13, t14, t15, t16, t17, t18, t19, t20, t5, v20, t23, t24, t25, t26, t27, t28, t29, t30, t31, t32, t33, t34], h, n, []⟩)) := Wp.eq_of (by kernel_rfl)

theorem F8_r110100_0 (t0 t1 t2 t3 t4 t5 t6 t7 t8 t9 t10 t11 t12 t13 t14 t15 t16 t17 t18 t19 t20 t21 t22 t23 t24 t25 t26 t27 t28 t29 t30 t31 t32 t33 t34 : V) (h : Heap) (n : Nat) (K : V → Heap → Nat → Prop) : resume CC none [.blk 0, .sq (subC [1, 1, 1] (bodyOf Go.Proofs.Tryz.f8))] (retW CC Go.Proofs.Tryz.f8 K) (.exit 0) ⟨mkTm [t0, t1, t2, t3, t4, t5, t6, t7, t8, t9, t10, t11, t12, t13, t14, t15, t16, t17, t18, t19, t20, t21, t22, t23, t24, t25, t26, t27, t28, t29, t30, t31, t32, t33, t34], h, n, []⟩ = (
K (.s (.bool true)) h n) := by kernel_rfl

/-! F9 lockgate/lockgatekit.SpoilInsns -/
theorem F9 : CC.F.get 9 = some Go.Proofs.Tryz.f9 := by kernel_rfl
theorem F9_eq (t0 : V) (h : Heap) (n : Nat) (K : V → Heap → Nat → Prop) : Wp CC (bodyOf Go.Proofs.Tryz.f9) ⟨initTm Go.Proofs.Tryz.f9 [t0], h, n, []⟩ (retW CC Go.Proofs.Tryz.f9 K) = (
LoopK CC none (subC [1, 0, 0] (bodyOf Go.Proofs.Tryz.f9)) ⟨mkTm [t0, undefV, (.s (.int .i64 0)), undefV, undefV, undefV, undefV, undefV, undefV, undefV, undefV, undefV, undefV, undefV, undefV], h, n, []⟩ (resume CC none [.blk 0] (retW CC Go.Proofs.Tryz.f9 K))) := Wp.eq_of (by kernel_rfl)
theorem F9_call {t0 : V} {h : Heap} {n : Nat} {K : V → Heap → Nat → Prop} (H : (∀ b o, h.get b = some o → b < n) → Wp CC (bodyOf Go.Proofs.Tryz.f9) ⟨initTm Go.Proofs.Tryz.f9 [t0], h, n, []⟩ (retW CC Go.Proofs.Tryz.f9 K)) : CallK CC 9 [t0] h n K := by
  have := @callK_of CC CCok 9 Go.Proofs.Tryz.f9 (bodyOf Go.Proofs.Tryz.f9) [t0] h n K F9
  refine this ?_ ?_ ?_
  · kernel_rfl
  · kernel_rfl
  · exact H

def F9_L100 (t0 t2 : V) (h : Heap) (n : Nat) (s : St) : Prop := ∃ f : Nat → V, s = ⟨mkTm [t0, (f 1), t2, (f 3), (f 4), (f 5), (f 6), (f 7), (f 8), (f 9), (f 10), (f 11), (f 12), (f 13), (f 14)], h, n, []⟩
theorem F9_L100_of {t0 t2 : V} {t1 t3 t4 t5 t6 t7 t8 t9 t10 t11 t12 t13 t14 : V} {h : Heap} {n : Nat} : F9_L100 t0 t2 h n ⟨mkTm [t0, t1, t2, t3, t4, t5, t6, t7, t8, t9, t10, t11, t12, t13, t14], h, n, []⟩ :=
  ⟨fun i => ([t0, t1, t2, t3, t4, t5, t6, t7, t8, t9, t10, t11, t12, t13, t14] : List V).getD i undefV, by kernel_rfl⟩
theorem F9_L100_elim {t0 t2 : V} {h : Heap} {n : Nat} {s : St} {P : St → Prop} (hs : F9_L100 t0 t2 h n s) (H : ∀ t1 t3 t4 t5 t6 t7 t8 t9 t10 t11 t12 t13 t14 : V, P ⟨mkTm [t0, t1, t2, t3, t4, t5, t6, t7, t8, t9, t10, t11, t12, t13, t14], h, n, []⟩) : P s := by
  obtain ⟨f, rfl⟩ := hs
  exact H (f 1) (f 3) (f 4) (f 5) (f 6) (f 7) (f 8) (f 9) (f 10) (f 11) (f 12) (f 13) (f 14)

theorem F9_b100 (t0 t1 t2 t3 t4 t5 t6 t7 t8 t9 t10 t11 t12 t13 t14 : V) (h : Heap) (n : Nat) (Q : X → St → Prop) : Wp CC (subC [1, 0, 0] (bodyOf Go.Proofs.Tryz.f9)) ⟨mkTm [t0, t1, t2, t3, t4, t5, t6, t7, t8, t9, t10, t11, t12, t13, t14], h, n, []⟩ Q = (
oK (lenV CC h 22 t0) fun v1 =>
oK (binop CC .lss 3 false t2 v1) fun v2 =>
oK (asBool v2) fun b3 => bif b3 then (
oK (binop CC .add 3 true t2 (.s (.int .i64 7))) fun v4 =>
CallK CC 16 [v4] h n fun v5 h6 n7 =>
oK (indexAddr CC 22 t0 t2) fun v8 =>
oK (asPtr v8) fun p9 => oK (store CC h6 54 p9.1 p9.2 v5) fun h10 =>
oK (binop CC .add 3 true t2 (.s (.int .i64 1))) fun v11 =>
Q .normal ⟨mkTm [t0, t1, v11, t2, t0, v1, v2, t2, v11, t0, t2, t2, v4, v5, v8], h10, n7, []⟩) else (
Q (.exit 0) ⟨mkTm [t0, t1, t2, t2, t0, v1, v2, t7, t8, t9, t10, t11, t12, t13, t14], h, n, []⟩)) := Wp.eq_of (by kernel_rfl)

theorem F9_r100_0 (t0 t1 t2 t3 t4 t5 t6 t7 t8 t9 t10 t11 t12 t13 t14 : V) (h : Heap) (n : Nat) (K : V → Heap → Nat → Prop) : resume CC none [.blk 0] (retW CC Go.Proofs.Tryz.f9 K) (.exit 0) ⟨mkTm [t0, t1, t2, t3, t4, t5, t6, t7, t8, t9, t10, t11, t12, t13, t14], h, n, []⟩ = (
K (.tup []) h n) := by kernel_rfl

/-! F10 lockgate/lockgatekit.SameInsns -/
theorem F10 : CC.F.get 10 = some Go.Proofs.Tryz.f10 := by kernel_rfl
theorem F10_eq (t0 t1 : V) (h : Heap) (n : Nat) (K : V → Heap → Nat → Prop) : Wp CC (bodyOf Go.Proofs.Tryz.f10) ⟨initTm Go.Proofs.Tryz.f10 [t0, t1], h, n, []⟩ (retW CC Go.Proofs.Tryz.f10 K) = (
oK (lenV CC h 22 t0) fun v1 =>
oK (lenV CC h 22 t1) fun v2 =>
oK (binop CC .neq 3 false v1 v2) fun v3 =>
oK (asBool v3) fun b4 => bif b4 then (
K (.s (.bool false)) h n) else (
LoopK CC none (subC [1, 1, 0, 1, 0, 0] (bodyOf Go.Proofs.Tryz.f10)) ⟨mkTm [t0, t1, undefV, undefV, (.s (.bool false)), (.s (.int .i64 0)), t0, v1, t1, v2, v3, undefV, undefV, undefV, undefV, undefV, undefV, undefV, undefV, undefV, undefV, undefV, undefV, undefV, undefV, undefV], h, n, []⟩ (resume CC none [.blk 0, .sq (subC [1, 1, 1] (bodyOf Go.Proofs.Tryz.f10))] (retW CC Go.Proofs.Tryz.f10 K)))) := Wp.eq_of (by kernel_rfl)
theorem F10_call {t0 t1 : V} {h : Heap} {n : Nat} {K : V → Heap → Nat → Prop} (H : (∀ b o, h.get b = some o → b < n) → Wp CC (bodyOf Go.Proofs.Tryz.f10) ⟨initTm Go.Proofs.Tryz.f10 [t0, t1], h, n, []⟩ (retW CC Go.Proofs.Tryz.f10 K)) : CallK CC 10 [t0, t1] h n K := by
  have := @callK_of CC CCok 10 Go.Proofs.Tryz.f10 (bodyOf Go.Proofs.Tryz.f10) [t0, t1] h n K F10
  refine this ?_ ?_ ?_
  · kernel_rfl
  · kernel_rfl
  · exact H

def F10_L110100 (t0 t1 t5 : V) (h : Heap) (n : Nat) (s : St) : Prop := ∃ f : Nat → V, s = ⟨mkTm [t0, t1, (f 2), (f 3), (f 4), t5, (f 6), (f 7), (f 8), (f 9), (f 10), (f 11), (f 12), (f 13), (f 14), (f 15), (f 16), (f 17), (f 18), (f 19), (f 20), (f 21), (f 22), (f 23), (f 24), (f 25)], h, n, []⟩
theorem F10_L110100_of {t0 t1 t5 : V} {t2 t3 t4 t6 t7 t8 t9 t10 t11 t12 t13 t14 t15 t16 t17 t18 t19 t20 t21 t22 t23 t24 t25 : V} {h : Heap} {n : Nat} : F10_L110100 t0 t1 t5 h n ⟨mkTm [t0, t1, t2, t3, t4, t5, t6, t7, t8, t9, t10, t11, t12, t13, t14, t15, t16, t17, t18, t19, t20, t21, t22, t23, t24, t25], h, n, []⟩ :=
  ⟨fun i => ([t0, t1, t2, t3, t4, t5, t6, t7, t8, t9, t10, t11, t12, t13, t14, t15, t16, t17, t18, t19, t20, t21, t22, t23, t24, t25] : List V).getD i undefV, by kernel_rfl⟩
theorem F10_L110100_elim {t0 t1 t5 : V} {h : Heap} {n : Nat} {s : St} {P : St → Prop} (hs : F10_L110100 t0 t1 t5 h n s) (H : ∀ t2 t3 t4 t6 t7 t8 t9 t10 t11 t12 t13 t14 t15 t16 t17 t18 t19 t20 t21 t22 t23 t24 t25 : V, P ⟨mkTm [t0, t1, t2, t3, t4, t5, t6, t7, t8, t9, t10, t11, t12, t13, t14, t15, t16, t17, t18, t19, t20, t21, t22, t23, t24, t25], h, n, []⟩) : P s := by
  obtain ⟨f, rfl⟩ := hs
  exact H (f 2) (f 3) (f 4) (f 6) (f 7) (f 8) (f 9) (f 10) (f 11) (f 12) (f 13) (f 14) (f 15) (f 16) (f 17) (f 18) (f 19) (f 20) (f 21) (f 22) (f 23) (f 24) (f 25)

theorem F10_b110100 (t0 t1 t2 t3 t4 t5 t6 t7 t8 t9 t10 t11 t12 t13 t14 t15 t16 t17 t18 t19 t20 t21 t22 t23 t24 t25 : V) (h : Heap) (n : Nat) (Q : X → St → Prop) : Wp CC (subC [1, 1, 0, 1, 0, 0] (bodyOf Go.Proofs.Tryz.f10)) ⟨mkTm [t0, t1, t2, t3, t4, t5, t6, t7, t8, t9, t10, t11, t12, t13, t14, t15, t16, t17, t18, t19, t20, t21, t22, t23, t24, t25], h, n, []⟩ Q = (
oK (lenV CC h 22 t0) fun v5 =>
oK (binop CC .lss 3 false t5 v5) fun v6 =>
oK (asBool v6) fun b7 => bif b7 then (
oK (indexAddr CC 22 t0 t5) fun v8 =>
oK (normO (rLoad CC 54 h v8)) fun v9 =>
oK (indexAddr CC 22 t1 t5) fun v10 =>
oK (normO (rLoad CC 54 h v10)) fun v11 =>
oK (binop CC .neq 54 false v9 v11) fun v12 =>
oK (asBool v12) fun b13 => bif b13 then (
Q .ret ⟨mkTm [t0, t1, t2, t3, (.s (.bool false)), t5, t6, t7, t8, t9, t10, t5, t0, v5, v6, t15, t16, t0, t5, v8, v9, t1, t5, v10, v11, v12], h, (n + 9), []⟩) else (
oK (binop CC .add 3 true t5 (.s (.int .i64 1))) fun v14 =>
Q .normal ⟨mkTm [t0, t1, t2, t3, t4, v14, t6, t7, t8, t9, t10, t5, t0, v5, v6, t5, v14, t0, t5, v8, v9, t1, t5, v10, v11, v12], h, (n + 9), []⟩)) else (
Q (.exit 0) ⟨mkTm [t0, t1, t2, t3, t4, t5, t6, t7, t8, t9, t10, t5, t0, v5, v6, t15, t16, t17, t18, t19, t20, t21, t22, t23, t24, t25], h, n, []⟩)) := Wp.eq_of (by kernel_rfl)

theorem F10_r110100_0 (t0 t1 t2 t3 t4 t5 t6 t7 t8 t9 t10 t11 t12 t13 t14 t15 t16 t17 t18 t19 t20 t21 t22 t23 t24 t25 : V) (h : Heap) (n : Nat) (K : V → Heap → Nat → Prop) : resume CC none [.blk 0, .sq (subC [1, 1, 1] (bodyOf Go.Proofs.Tryz.f10))] (retW CC Go.Proofs.Tryz.f10 K) (.exit 0) ⟨mkTm [t0, t1, t2, t3, t4, t5, t6, t7, t8, t9, t10, t11, t12, t13, t14, t15, t16, t17, t18, t19, t20, t21, t22, t23, t24, t25], h, n, []⟩ = (
K (.s (.bool true)) h n) := by kernel_rfl

/-! F11 lockgate/lockgatekit.SameInts -/
theorem F11 : CC.F.get 11 = some Go.Proofs.Tryz.f11 := by kernel_rfl
theorem F11_eq (t0 t1 : V) (h : Heap) (n : Nat) (K : V → Heap → Nat → Prop) : Wp CC (bodyOf Go.Proofs.Tryz.f11) ⟨initTm Go.Proofs.Tryz.f11 [t0, t1], h, n, []⟩ (retW CC Go.Proofs.Tryz.f11 K) = (
oK (lenV CC h 25 t0) fun v1 =>
oK (lenV CC h 25 t1) fun v2 =>
oK (binop CC .neq 3 false v1 v2) fun v3 =>
oK (asBool v3) fun b4 => bif b4 then (
K (.s (.bool false)) h n) else (
LoopK CC none (subC [1, 1, 0, 1, 0, 0] (bodyOf Go.Proofs.Tryz.f11)) ⟨mkTm [t0, t1, undefV, undefV, (.s (.bool false)), (.s (.int .i64 0)), t0, v1, t1, v2, v3, undefV, undefV, undefV, undefV, undefV, undefV, undefV, undefV, undefV, undefV, undefV, undefV, undefV, undefV, undefV], h, n, []⟩ (resume CC none [.blk 0, .sq (subC [1, 1, 1] (bodyOf Go.Proofs.Tryz.f11))] (retW CC Go.Proofs.Tryz.f11 K)))) := Wp.eq_of (by kernel_rfl)
theorem F11_call {t0 t1 : V} {h : Heap} {n : Nat} {K : V → Heap → Nat → Prop} (H : (∀ b o, h.get b = some o → b < n) → Wp CC (bodyOf Go.Proofs.Tryz.f11) ⟨initTm Go.Proofs.Tryz.f11 [t0, t1], h, n, []⟩ (retW CC Go.Proofs.Tryz.f11 K)) : CallK CC 11 [t0, t1] h n K := by
  have := @callK_of CC CCok 11 Go.Proofs.Tryz.f11 (bodyOf Go.Proofs.Tryz.f11) [t0, t1] h n K F11
  refine this ?_ ?_ ?_
  · kernel_rfl
  · kernel_rfl
  · exact H

def F11_L110100 (t0 t1 t5 : V) (h : Heap) (n : Nat) (s : St) : Prop := ∃ f : Nat → V, s = ⟨mkTm [t0, t1, (f 2), (f 3), (f 4), t5, (f 6), (f 7), (f 8), (f 9), (f 10), (f 11), (f 12), (f 13), (f 14), (f 15), (f 16), (f 17), (f 18), (f 19), (f 20), (f 21), (f 22), (f 23), (f 24), (f 25)], h, n, []⟩
theorem F11_L110100_of {t0 t1 t5 : V} {t2 t3 t4 t6 t7 t8 t9 t10 t11 t12 t13 t14 t15 t16 t17 t18 t19 t20 t21 t22 t23 t24 t25 : V} {h : Heap} {n : Nat} : F11_L110100 t0 t1 t5 h n ⟨mkTm [t0, t1, t2, t3, t4, t5, t6, t7, t8, t9, t10, t11, t12, t13, t14, t15, t16, t17, t18, t19, t20, t21, t22, t23, t24, t25], h, n, []⟩ :=
  ⟨fun i => ([t0, t1, t2, t3, t4, t5, t6, t7, t8, t9, t10, t11, t12, t13, t14, t15, t16, t17, t18, t19, t20, t21, t22, t23, t24, t25] : List V).getD i undefV, by kernel_rfl⟩
theorem F11_L110100_elim {t0 t1 t5 : V} {h : Heap} {n : Nat} {s : St} {P : St → Prop} (hs : F11_L110100 t0 t1 t5 h n s) (H : ∀ t2 t3 t4 t6 t7 t8 t9 t10 t11 t12 t13 t14 t15 t16 t17 t18 t19 t20 t21 t22 t23 t24 t25 : V, P ⟨mkTm [t0, t1, t2, t3, t4, t5, t6, t7, t8, t9, t10, t11, t12, t13, t14, t15, t16, t17, t18, t19, t20, t21, t22, t23, t24, t25], h, n, []⟩) : P s := by
  obtain ⟨f, rfl⟩ := hs
  exact H (f 2) (f 3) (f 4) (f 6) (f 7) (f 8) (f 9) (f 10) (f 11) (f 12) (f 13) (f 14) (f 15) (f 16) (f 17) (f 18) (f 19) (f 20) (f 21) (f 22) (f 23) (f 24) (f 25)

theorem F11_b110100 (t0 t1 t2 t3 t4 t5 t6 t7 t8 t9 t10 t11 t12 t13 t14 t15 t16 t17 t18 t19 t20 t21 t22 t23 t24 t25 : V) (h : Heap) (n : Nat) (Q : X → St → Prop) : Wp CC (subC [1, 1, 0, 1, 0, 0] (bodyOf Go.Proofs.Tryz.f11)) ⟨mkTm [t0, t1, t2, t3, t4, t5, t6, t7, t8, t9, t10, t11, t12, t13, t14, t15, t16, t17, t18, t19, t20, t21, t22, t23, t24, t25], h, n, []⟩ Q = (
oK (lenV CC h 25 t0) fun v5 =>
oK (binop CC .lss 3 false t5 v5) fun v6 =>
oK (asBool v6) fun b7 => bif b7 then (
oK (indexAddr CC 25 t0 t5) fun v8 =>
oK (normO (rLoad CC 3 h v8)) fun v9 =>
oK (indexAddr CC 25 t1 t5) fun v10 =>
oK (normO (rLoad CC 3 h v10)) fun v11 =>
oK (binop CC .neq 3 false v9 v11) fun v12 =>
oK (asBool v12) fun b13 => bif b13 then (
Q .ret ⟨mkTm [t0, t1, t2, t3, (.s (.bool false)), t5, t6, t7, t8, t9, t10, t5, t0, v5, v6, t15, t16, t0, t5, v8, v9, t1, t5, v10, v11, v12], h, (n + 9), []⟩) else (
oK (binop CC .add 3 true t5 (.s (.int .i64 1))) fun v14 =>
Q .normal ⟨mkTm [t0, t1, t2, t3, t4, v14, t6, t7, t8, t9, t10, t5, t0, v5, v6, t5, v14, t0, t5, v8, v9, t1, t5, v10, v11, v12], h, (n + 9), []⟩)) else (
Q (.exit 0) ⟨mkTm [t0, t1, t2, t3, t4, t5, t6, t7, t8, t9, t10, t5, t0, v5, v6, t15, t16, t17, t18, t19, t20, t21, t22, t23, t24, t25], h, n, []⟩)) := Wp.eq_of (by kernel_rfl)

theorem F11_r110100_0 (t0 t1 t2 t3 t4 t5 t6 t7 t8 t9 t10 t11 t12 t13 t14 t15 t16 t17 t18 t19 t20 t21 t22 t23 t24 t25 : V) (h : Heap) (n : Nat) (K : V → Heap → Nat → Prop) : resume CC none [.blk 0, .sq (subC [1, 1, 1] (bodyOf Go.Proofs.Tryz.f11))] (retW CC Go.Proofs.Tryz.f11 K) (.exit 0) ⟨mkTm [t0, t1, t2, t3, t4, t5, t6, t7, t8, t9, t10, t11, t12, t13, t14, t15, t16, t17, t18, t19, t20, t21, t22, t23, t24, t25], h, n, []⟩ = (
K (.s (.bool true)) h n) := by kernel_rfl

/-! F15 lockgate/lockgatekit.CopyInsns -/
theorem F15 : CC.F.get 15 = some Go.Proofs.Tryz.f15 := by kernel_rfl
theorem F15_eq (t0 : V) (h : Heap) (n : Nat) (K : V → Heap → Nat → Prop) : Wp CC (bodyOf Go.Proofs.Tryz.f15) ⟨initTm Go.Proofs.Tryz.f15 [t0], h, n, []⟩ (retW CC Go.Proofs.Tryz.f15 K) = (
LoopK CC none (subC [1, 1, 0, 1, 0, 0] (bodyOf Go.Proofs.Tryz.f15)) ⟨mkTm [t0, undefV, (.s (.slice none 0 0)), (.s (.slice none 0 0)), (.s (.int .i64 0)), undefV, undefV, undefV, undefV, undefV, undefV, undefV, undefV, undefV, undefV, undefV, undefV, undefV, undefV], h, n, []⟩ (resume CC none [.blk 0, .sq (subC [1, 1, 1] (bodyOf Go.Proofs.Tryz.f15))] (retW CC Go.Proofs.Tryz.f15 K))) := Wp.eq_of (by kernel_rfl)
theorem F15_call {t0 : V} {h : Heap} {n : Nat} {K : V → Heap → Nat → Prop} (H : (∀ b o, h.get b = some o → b < n) → Wp CC (bodyOf Go.Proofs.Tryz.f15) ⟨initTm Go.Proofs.Tryz.f15 [t0], h, n, []⟩ (retW CC Go.Proofs.Tryz.f15 K)) : CallK CC 15 [t0] h n K := by
  have := @callK_of CC CCok 15 Go.Proofs.Tryz.f15 (bodyOf Go.Proofs.Tryz.f15) [t0] h n K F15
  refine this ?_ ?_ ?_
  · kernel_rfl
  · kernel_rfl
  · exact H

def F15_L110100 (t0 t3 t4 : V) (h : Heap) (n : Nat) (s : St) : Prop := ∃ f : Nat → V, s = ⟨mkTm [t0, (f 1), (f 2), t3, t4, (f 5), (f 6), (f 7), (f 8), (f 9), (f 10), (f 11), (f 12), (f 13), (f 14), (f 15), (f 16), (f 17), (f 18)], h, n, []⟩
theorem F15_L110100_of {t0 t3 t4 : V} {t1 t2 t5 t6 t7 t8 t9 t10 t11 t12 t13 t14 t15 t16 t17 t18 : V} {h : Heap} {n : Nat} : F15_L110100 t0 t3 t4 h n ⟨mkTm [t0, t1, t2, t3, t4, t5, t6, t7, t8, t9, t10, t11, t12, t13, t14, t15, t16, t17, t18], h, n, []⟩ :=
  ⟨fun i => ([t0, t1, t2, t3, t4, t5, t6, t7, t8, t9, t10, t11, t12, t13, t14, t15, t16, t17, t18] : List V).getD i undefV, by kernel_rfl⟩
theorem F15_L110100_elim {t0 t3 t4 : V} {h : Heap} {n : Nat} {s : St} {P : St → Prop} (hs : F15_L110100 t0 t3 t4 h n s) (H : ∀ t1 t2 t5 t6 t7 t8 t9 t10 t11 t12 t13 t14 t15 t16 t17 t18 : V, P ⟨mkTm [t0, t1, t2, t3, t4, t5, t6, t7, t8, t9, t10, t11, t12, t13, t14, t15, t16, t17, t18], h, n, []⟩) : P s := by
  obtain ⟨f, rfl⟩ := hs
  exact H (f 1) (f 2) (f 5) (f 6) (f 7) (f 8) (f 9) (f 10) (f 11) (f 12) (f 13) (f 14) (f 15) (f 16) (f 17) (f 18)

theorem F15_b110100 (t0 t1 t2 t3 t4 t5 t6 t7 t8 t9 t10 t11 t12 t13 t14 t15 t16 t17 t18 : V) (h : Heap) (n : Nat) (Q : X → St → Prop) : Wp CC (subC [1, 1, 0, 1, 0, 0] (bodyOf Go.Proofs.Tryz.f15)) ⟨mkTm [t0, t1, t2, t3, t4, t5, t6, t7, t8, t9, t10, t11, t12, t13, t14, t15, t16, t17, t18], h, n, []⟩ Q = (
oK (lenV CC h 22 t0) fun v1 =>
oK (binop CC .lss 3 false t4 v1) fun v2 =>
oK (asBool v2) fun b3 => bif b3 then (
oK (indexAddr CC 22 t0 t4) fun v4 =>
oK (normO (rLoad CC 54 h v4)) fun v5 =>
fillK 5 ((zr CC 54).rep 1) [(0, v5)] fun c6 =>
let h7 := h.set n (.cells (.lst c6) 5); let n8 := n + 1;
appendK CC h7 n8 22 22 t3 (.slice n 0 1 1 false) fun v9 h10 n11 =>
oK (binop CC .add 3 true t4 (.s (.int .i64 1))) fun v12 =>
Q .normal ⟨mkTm [t0, t1, t2, v9, v12, t4, t0, v1, v2, t4, v12, t3, t0, t4, v4, v5, (.slice n 0 1 1 false), v9, t18], h10, n11, []⟩) else (
Q (.exit 0) ⟨mkTm [t0, t1, t2, t3, t4, t4, t0, v1, v2, t9, t10, t11, t12, t13, t14, t15, t16, t17, t18], h, n, []⟩)) := Wp.eq_of (by kernel_rfl)

theorem F15_r110100_0 (t0 t1 t2 t3 t4 t5 t6 t7 t8 t9 t10 t11 t12 t13 t14 t15 t16 t17 t18 : V) (h : Heap) (n : Nat) (K : V → Heap → Nat → Prop) : resume CC none [.blk 0, .sq (subC [1, 1, 1] (bodyOf Go.Proofs.Tryz.f15))] (retW CC Go.Proofs.Tryz.f15 K) (.exit 0) ⟨mkTm [t0, t1, t2, t3, t4, t5, t6, t7, t8, t9, t10, t11, t12, t13, t14, t15, t16, t17, t18], h, n, []⟩ = (
K t3 h n) := by kernel_rfl

/-! F16 lockgate/lockgatekit.markInsns -/
theorem F16 : CC.F.get 16 = some Go.Proofs.Tryz.f16 := by kernel_rfl
theorem F16_eq (t0 : V) (h : Heap) (n : Nat) (K : V → Heap → Nat → Prop) : Wp CC (bodyOf Go.Proofs.Tryz.f16) ⟨initTm Go.Proofs.Tryz.f16 [t0], h, n, []⟩ (retW CC Go.Proofs.Tryz.f16 K) = (
let h1 := h.set n (.cells (.lst (zr CC 54).toList) 5); let n2 := n + 1;
oK (binop CC .add 3 true (.s (.int .i64 250)) t0) fun v3 =>
oK (binop CC .mul 3 true (.s (.int .i64 77)) t0) fun v4 =>
oK (normO (build CC 54 [(0, v3), (4, v4)])) fun v5 =>
oK (asPtr (.ptr n 0)) fun p6 => oK (store CC h1 54 p6.1 p6.2 v5) fun h7 =>
oK (resultsOf CC (mkTm [t0, undefV, (.ptr n 0), t0, v3, t0, v4, v5]) h7 [.cell 2 54]) fun vs => K (oneOf vs) h7 n2) := Wp.eq_of (by kernel_rfl)
theorem F16_call {t0 : V} {h : Heap} {n : Nat} {K : V → Heap → Nat → Prop} (H : (∀ b o, h.get b = some o → b < n) → Wp CC (bodyOf Go.Proofs.Tryz.f16) ⟨initTm Go.Proofs.Tryz.f16 [t0], h, n, []⟩ (retW CC Go.Proofs.Tryz.f16 K)) : CallK CC 16 [t0] h n K := by
  have := @callK_of CC CCok 16 Go.Proofs.Tryz.f16 (bodyOf Go.Proofs.Tryz.f16) [t0] h n K F16
  refine this ?_ ?_ ?_
  · kernel_rfl
  · kernel_rfl
  · exact H

/-! F17 lockgate/insn.Check -/
theorem F17 : CC.F.get 17 = some Go.Proofs.Tryz.f17 := by kernel_rfl
theorem F17_eq (t0 : V) (h : Heap) (n : Nat) (K : V → Heap → Nat → Prop) : Wp CC (bodyOf Go.Proofs.Tryz.f17) ⟨initTm Go.Proofs.Tryz.f17 [t0], h, n, []⟩ (retW CC Go.Proofs.Tryz.f17 K) = (
oK (V.cells t0) fun c1 =>
let h2 := h.set n (.cells (.lst c1.toList) 5); let n3 := n + 1;
oK (rFA CC 54 0 (.ptr n 0)) fun v4 =>
oK (normO (rLoad CC 3 h2 v4)) fun v5 =>
CallK CC 31 [v5] h2 n3 fun v6 h7 n8 =>
oK (rExt v6 0) fun v9 =>
oK (rExt v6 1) fun v10 =>
oK (rUn CC .not v10) fun v11 =>
oK (asBool v11) fun b12 => bif b12 then (
K (.s (.int .i64 4)) h7 n8) else (
oK (rFA CC 54 1 (.ptr n 0)) fun v13 =>
oK (normO (rLoad CC 3 h7 v13)) fun v14 =>
CallK CC 32 [v14, (.s (.int .i64 0)), (.s (.int .i64 10))] h7 n8 fun v15 h16 n17 =>
oK (rUn CC .not v15) fun v18 =>
oK (bif (rWant false v18) then rFA CC 54 2 (.ptr n 0) else some undefV) fun v19 =>
oK (bif (rWant false v18) then normO (rLoad CC 3 h16 v19) else some undefV) fun v20 =>
let k21 := fun (v22 : V) (h23 : Heap) (n24 : Nat) => (
oK (bif (rWant false v18) then rUn CC .not v22 else some undefV) fun v25 =>
oK (rPick v18 (.s (.bool true)) v25) fun v26 =>
oK (bif (rWant false v26) then some v9 else some undefV) fun v27 =>
oK (bif (rWant false v26) then binop CC .and 3 true v27 (.s (.int .i64 16)) else some undefV) fun v28 =>
oK (bif (rWant false v26) then binop CC .neq 3 true v28 (.s (.int .i64 0)) else some undefV) fun v29 =>
oK (bif (rWant false v26) then some v29 else some undefV) fun v30 =>
oK (bif (rWant true v30) then rFA CC 54 1 (.ptr n 0) else some undefV) fun v31 =>
oK (bif (rWant true v30) then normO (rLoad CC 3 h23 v31) else some undefV) fun v32 =>
oK (bif (rWant true v30) then binop CC .eql 3 true v32 (.s (.int .i64 10)) else some undefV) fun v33 =>
oK (bif (rWant false v26) then rPick v30 v33 (.s (.bool false)) else some undefV) fun v34 =>
oK (rPick v26 (.s (.bool true)) v34) fun v35 =>
oK (asBool v35) fun b36 => bif b36 then (
K (.s (.int .i64 5)) h23 n24) else (
oK (rFA CC 54 3 (.ptr n 0)) fun v37 =>
oK (normO (rLoad CC 3 h23 v37)) fun v38 =>
CallK CC 33 [v38, (.s (.int .i64 16))] h23 n24 fun v39 h40 n41 =>
oK (rUn CC .not v39) fun v42 =>
oK (bif (rWant false v42) then rFA CC 54 0 (.ptr n 0) else some undefV) fun v43 =>
oK (bif (rWant false v42) then normO (rLoad CC 3 h40 v43) else some undefV) fun v44 =>
oK (bif (rWant false v42) then binop CC .neq 3 true v44 (.s (.int .i64 24)) else some undefV) fun v45 =>
oK (bif (rWant false v42) then some v45 else some undefV) fun v46 =>
oK (bif (rWant true v46) then rFA CC 54 4 (.ptr n 0) else some undefV) fun v47 =>
oK (bif (rWant true v46) then normO (rLoad CC 3 h40 v47) else some undefV) fun v48 =>
let k49 := fun (v50 : V) (h51 : Heap) (n52 : Nat) => (
oK (bif (rWant true v46) then rUn CC .not v50 else some undefV) fun v53 =>
oK (bif (rWant false v42) then rPick v46 v53 (.s (.bool false)) else some undefV) fun v54 =>
oK (rPick v42 (.s (.bool true)) v54) fun v55 =>
oK (asBool v55) fun b56 => bif b56 then (
K (.s (.int .i64 15)) h51 n52) else (
oK (normO (rLoad CC 54 h51 (.ptr n 0))) fun v57 =>
CallK CC 34 [v57, v9] h51 n52 fun v58 h59 n60 =>
oK (rUn CC .not v58) fun v61 =>
oK (asBool v61) fun b62 => bif b62 then (
K (.s (.int .i64 6)) h59 n60) else (
K (.s (.int .i64 0)) h59 n60)));
bif (rWant true v46) then (CallK CC 33 [v48, (.s (.int .i64 32))] h40 n41 fun v63 h64 n65 =>
k49 v63 h64 n65) else k49 undefV h40 n41));
bif (rWant false v18) then (CallK CC 32 [v20, (.s (.int .i64 0)), (.s (.int .i64 10))] h16 n17 fun v66 h67 n68 =>
k21 v66 h67 n68) else k21 undefV h16 n17)) := Wp.eq_of (by kernel_rfl)
theorem F17_call {t0 : V} {h : Heap} {n : Nat} {K : V → Heap → Nat → Prop} (H : (∀ b o, h.get b = some o → b < n) → Wp CC (bodyOf Go.Proofs.Tryz.f17) ⟨initTm Go.Proofs.Tryz.f17 [t0], h, n, []⟩ (retW CC Go.Proofs.Tryz.f17 K)) : CallK CC 17 [t0] h n K := by
  have := @callK_of CC CCok 17 Go.Proofs.Tryz.f17 (bodyOf Go.Proofs.Tryz.f17) [t0] h n K F17
  refine this ?_ ?_ ?_
  · kernel_rfl
  · kernel_rfl
  · exact H

/-! F18 lockgate/flow.Targets -/
theorem F18 : CC.F.get 18 = some Go.Proofs.Tryz.f18 := by kernel_rfl
theorem F18_eq (t0 : V) (h : Heap) (n : Nat) (K : V → Heap → Nat → Prop) : Wp CC (bodyOf Go.Proofs.Tryz.f18) ⟨initTm Go.Proofs.Tryz.f18 [t0], h, n, []⟩ (retW CC Go.Proofs.Tryz.f18 K) = (
oK (lenV CC h 22 t0) fun v1 =>
oK (binop CC .eql 3 true v1 (.s (.int .i64 0))) fun v2 =>
oK (asBool v2) fun b3 => bif b3 then (
K (.tup [(.s (.slice none 0 0)), (.s (.int .i64 2))]) h n) else (
oK (lenV CC h 22 t0) fun v4 =>
oK (binop CC .gtr 3 true v4 (.s (.int .i64 256))) fun v5 =>
oK (asBool v5) fun b6 => bif b6 then (
K (.tup [(.s (.slice none 0 0)), (.s (.int .i64 9))]) h n) else (
CallK CC 35 [t0] h n fun v7 h8 n9 =>
oK (lenV CC h8 22 t0) fun v10 =>
oK (asNat (.s (.int .i64 0))) fun l11 => oK (asNat v10) fun c12 =>
bif Nat.ble l11 c12 && (Nat.ble (8 * c12) 281474976710656 && (Nat.blt c12 9223372036854775808 && true)) then (
let h13 := h8.set n9 (.cells (.lst ((zr CC 3).rep c12).toList) 1); let n14 := n9 + 1;
oK (lenV CC h13 22 t0) fun v15 =>
LoopK CC none (subC [1, 1, 1, 1, 1, 0, 1, 0, 0] (bodyOf Go.Proofs.Tryz.f18)) ⟨mkTm [t0, undefV, (.s (.slice none 0 0)), (.s (.int .i64 0)), v7, (.slice n9 0 l11 c12 false), (.s (.int .i64 0)), undefV, undefV, undefV, undefV, undefV, v2, t0, v1, v2, v5, t0, v4, v5, t0, v7, t0, v10, (.slice n9 0 l11 c12 false), t0, v15, (.s (.int .i64 0)), undefV, undefV, undefV, undefV, undefV, undefV, undefV, undefV, undefV, undefV, undefV, undefV, undefV, undefV, undefV, undefV, undefV, undefV, undefV, undefV, undefV, undefV, undefV, undefV, undefV, undefV, undefV, undefV, undefV, undefV, undefV, undefV, undefV, undefV, undefV, undefV, undefV, undefV, undefV, undefV, undefV, undefV, undefV, undefV, undefV, undefV, undefV], h13, n14, []⟩ (resume CC none [.blk 1, .sq (subC [1, 1, 1, 1, 1, 1] (bodyOf Go.Proofs.Tryz.f18))] (retW CC Go.Proofs.Tryz.f18 K))) else False))) := Wp.eq_of (by kernel_rfl)
theorem F18_call {t0 : V} {h : Heap} {n : Nat} {K : V → Heap → Nat → Prop} (H : (∀ b o, h.get b = some o → b < n) → Wp CC (bodyOf Go.Proofs.Tryz.f18) ⟨initTm Go.Proofs.Tryz.f18 [t0], h, n, []⟩ (retW CC Go.Proofs.Tryz.f18 K)) : CallK CC 18 [t0] h n K := by
  have := @callK_of CC CCok 18 Go.Proofs.Tryz.f18 (bodyOf Go.Proofs.Tryz.f18) [t0] h n K F18
  refine this ?_ ?_ ?_
  · kernel_rfl
  · kernel_rfl
  · exact H

def F18_L111110100 (t0 t4 t5 t6 t25 t26 t27 : V) (h : Heap) (n : Nat) (s : St) : Prop := ∃ f : Nat → V, s = ⟨mkTm [t0, (f 1), (f 2), (f 3), t4, t5, t6, (f 7), (f 8), (f 9), (f 10), (f 11), (f 12), (f 13), (f 14), (f 15), (f 16), (f 17), (f 18), (f 19), (f 20), (f 21), (f 22), (f 23), (f 24), t25, t26, t27, (f 28), (f 29), (f 30), (f 31), (f 32), (f 33), (f 34), (f 35), (f 36), (f 37), (f 38), (f 39), (f 40), (f 41), (f 42), (f 43), (f 44), (f 45), (f 46), (f 47), (f 48), (f 49), (f 50), (f 51), (f 52), (f 53), (f 54), (f 55), (f 56), (f 57), (f 58), (f 59), (f 60), (f 61), (f 62), (f 63), (f 64), (f 65), (f 66), (f 67), (f 68), (f 69), (f 70), (f 71), (f 72), (f 73), (f 74)], h, n, []⟩
theorem F18_L111110100_of {t0 t4 t5 t6 t25 t26 t27 : V} {t1 t2 t3 t7 t8 t9 t10 t11 t12 t13 t14 t15 t16 t17 t18 t19 t20 t21 t22 t23 t24 t28 t29 t30 t31 t32 t33 t34 t35 t36 t37 t38 t39 t40 t41 t42 t43 t44 t45 t46 t47 t48 t49 t50 t51 t52 t53 t54 t55 t56 t57 t58 t59 t60 t61 t62 t63 t64 t65 t66 t67 t68 t69 t70 t71 t72 t73 t74 : V} {h : Heap} {n : Nat} : F18_L111110100 t0 t4 t5 t6 t25 t26 t27 h n ⟨mkTm [t0, t1, t2, t3, t4, t5, t6, t7, t8, t9, t10, t11, t12, t13, t14, t15, t16, t17, t18, t19, t20, t21, t22, t23, t24, t25, t26, t27, t28, t29, t30, t31, t32, t33, t34, t35, t36, t37, t38, t39, t40, t41, t42, t43, t44, t45, t46, t47, t48, t49, t50, t51, t52, t53, t54, t55, t56, t57, t58, t59, t60, t61, t62, t63, t64, t65, t66, t67, t68, t69, t70, t71, t72, t73, t74], h, n, []⟩ :=
  ⟨fun i => ([t0, t1, t2, t3, t4, t5, t6, t7, t8, t9, t10, t11, t12, t13, t14, t15, t16, t17, t18, t19, t20, t21, t22, t23, t24, t25, t26, t27, t28, t29, t30, t31, t32, t33, t34, t35, t36, t37, t38, t39, t40, t41, t42, t43, t44, t45, t46, t47, t48, t49, t50, t51, t52, t53, t54, t55, t56, t57, t58, t59, t60, t61, t62, t63, t64, t65, t66, t67, t68, t69, t70, t71, t72, t73, t74] : List V).getD i undefV, by kernel_rfl⟩
theorem F18_L111110100_elim {t0 t4 t5 t6 t25 t26 t27 : V} {h : Heap} {n : Nat} {s : St} {P : St → Prop} (hs : F18_L111110100 t0 t4 t5 t6 t25 t26 t27 h n s) (H : ∀ t1 t2 t3 t7 t8 t9 t10 t11 t12 t13 t14 t15 t16 t17 t18 t19 t20 t21 t22 t23 t24 t28 t29 t30 t31 t32 t33 t34 t35 t36 t37 t38 t39 t40 t41 t42 t43 t44 t45 t46 t47 t48 t49 t50 t51 t52 t53 t54 t55 t56 t57 t58 t59 t60 t61 t62 t63 t64 t65 t66 t67 t68 t69 t70 t71 t72 t73 t74 : V, P ⟨mkTm [t0, t1, t2, t3, t4, t5, t6, t7, t8, t9, t10, t11, t12, t13, t14, t15, t16, t17, t18, t19, t20, t21, t22, t23, t24, t25, t26, t27, t28, t29, t30, t31, t32, t33, t34, t35, t36, t37, t38, t39, t40, t41, t42, t43, t44, t45, t46, t47, t48, t49, t50, t51, t52, t53, t54, t55, t56, t57, t58, t59, t60, t61, t62, t63, t64, t65, t66, t67, t68, t69, t70, t71, t72, t73, t74], h, n, []⟩) : P s := by
  obtain ⟨f, rfl⟩ := hs
  exact H (f 1) (f 2) (f 3) (f 7) (f 8) (f 9) (f 10) (f 11) (f 12) (f 13) (f 14) (f 15) (f 16) (f 17) (f 18) (f 19) (f 20) (f 21) (f 22) (f 23) (f 24) (f 28) (f 29) (f 30) (f 31) (f 32) (f 33) (f 34) (f 35) (f 36) (f 37) (f 38) (f 39) (f 40) (f 41) (f 42) (f 43) (f 44) (f 45) (f 46) (f 47) (f 48) (f 49) (f 50) (f 51) (f 52) (f 53) (f 54) (f 55) (f 56) (f 57) (f 58) (f 59) (f 60) (f 61) (f 62) (f 63) (f 64) (f 65) (f 66) (f 67) (f 68) (f 69) (f 70) (f 71) (f 72) (f 73) (f 74)

theorem F18_b111110100 (t0 t1 t2 t3 t4 t5 t6 t7 t8 t9 t10 t11 t12 t13 t14 t15 t16 t17 t18 t19 t20 t21 t22 t23 t24 t25 t26 t27 t28 t29 t30 t31 t32 t33 t34 t35 t36 t37 t38 t39 t40 t41 t42 t43 t44 t45 t46 t47 t48 t49 t50 t51 t52 t53 t54 t55 t56 t57 t58 t59 t60 t61 t62 t63 t64 t65 t66 t67 t68 t69 t70 t71 t72 t73 t74 : V) (h : Heap) (n : Nat) (Q : X → St → Prop) : Wp CC (subC [1, 1, 1, 1, 1, 0, 1, 0, 0] (bodyOf Go.Proofs.Tryz.f18)) ⟨mkTm [t0, t1, t2, t3, t4, t5, t6, t7, t8, t9, t10, t11, t12, t13, t14, t15, t16, t17, t18, t19, t20, t21, t22, t23, t24, t25, t26, t27, t28, t29, t30, t31, t32, t33, t34, t35, t36, t37, t38, t39, t40, t41, t42, t43, t44, t45, t46, t47, t48, t49, t50, t51, t52, t53, t54, t55, t56, t57, t58, t59, t60, t61, t62, t63, t64, t65, t66, t67, t68, t69, t70, t71, t72, t73, t74], h, n, []⟩ Q = (
oK (binop CC .lss 3 false t27 t26) fun v16 =>
oK (asBool v16) fun b17 => bif b17 then (
oK (indexAddr CC 22 t25 t27) fun v18 =>
oK (normO (rLoad CC 54 h v18)) fun v19 =>
let h20 := h.set n (.cells (.lst (zr CC 54).toList) 5); let n21 := n + 1;
oK (asPtr (.ptr n 0)) fun p22 => oK (store CC h20 54 p22.1 p22.2 v19) fun h23 =>
oK (normO (rLoad CC 54 h23 (.ptr n 0))) fun v24 =>
CallK CC 36 [v24] h23 n21 fun v25 h26 n27 =>
oK (binop CC .add 3 false t6 v25) fun v28 =>
oK (normO (rLoad CC 54 h26 (.ptr n 0))) fun v29 =>
CallK CC 37 [v29] h26 n27 fun v30 h31 n32 =>
oK (asBool v30) fun b33 => bif b33 then (
oK (rFA CC 54 3 (.ptr n 0)) fun v34 =>
oK (normO (rLoad CC 3 h31 v34)) fun v35 =>
oK (binop CC .add 3 false v28 v35) fun v36 =>
oK (binop CC .geq 3 true v36 (.s (.int .i64 0))) fun v37 =>
oK (bif (rWant true v37) then some v36 else some undefV) fun v38 =>
oK (bif (rWant true v37) then some t4 else some undefV) fun v39 =>
oK (bif (rWant true v37) then lenV CC h31 25 v39 else some undefV) fun v40 =>
oK (bif (rWant true v37) then binop CC .lss 3 false v38 v40 else some undefV) fun v41 =>
oK (rPick v37 v41 (.s (.bool false))) fun v42 =>
oK (asBool v42) fun b43 => bif b43 then (
oK (indexAddr CC 25 t4 v36) fun v44 =>
oK (normO (rLoad CC 3 h31 v44)) fun v45 =>
oK (binop CC .lss 3 true v45 (.s (.int .i64 0))) fun v46 =>
oK (asBool v46) fun b47 => bif b47 then (
Q .ret ⟨mkTm [t0, t1, (.s (.slice none 0 0)), (.s (.int .i64 7)), t4, t5, v28, t7, (.ptr n 0), v45, v36, t11, t12, t13, t14, t15, t16, t17, t18, t19, t20, t21, t22, t23, t24, t25, t26, t27, v16, v18, v19, t6, v24, v25, v28, v29, v30, v28, v34, v35, v36, v36, v37, v37, v38, v39, v40, v41, v42, t4, v36, v44, v45, v45, v46, t55, t56, t57, t58, t59, t60, t61, t62, t63, t64, t65, t66, t67, t68, t69, t70, t71, t72, t73, t74], h31, n32, []⟩) else (
fillK 1 ((zr CC 3).rep 1) [(0, v45)] fun c48 =>
let h49 := h31.set n32 (.cells (.lst c48) 1); let n50 := n32 + 1;
appendK CC h49 n50 25 25 t5 (.slice n32 0 1 1 false) fun v51 h52 n53 =>
oK (binop CC .add 3 true t27 (.s (.int .i64 1))) fun v54 =>
Q .normal ⟨mkTm [t0, t1, t2, t3, t4, v51, v28, t7, (.ptr n 0), v45, v36, t11, t12, t13, t14, t15, t16, t17, t18, t19, t20, t21, t22, t23, t24, t25, t26, v54, v16, v18, v19, t6, v24, v25, v28, v29, v30, v28, v34, v35, v36, v36, v37, v37, v38, v39, v40, v41, v42, t4, v36, v44, v45, v45, v46, t5, v45, (.slice n32 0 1 1 false), v51, v54, t60, t61, t62, t63, t64, t65, t66, t67, t68, t69, t70, t71, t72, t73, t74], h52, n53, []⟩)) else (
oK (binop CC .lss 3 true (.s (.int .i64 (-1))) (.s (.int .i64 0))) fun v55 =>
oK (asBool v55) fun b56 => bif b56 then (
Q .ret ⟨mkTm [t0, t1, (.s (.slice none 0 0)), (.s (.int .i64 7)), t4, t5, v28, t7, (.ptr n 0), (.s (.int .i64 (-1))), v36, t11, t12, t13, t14, t15, t16, t17, t18, t19, t20, t21, t22, t23, t24, t25, t26, t27, v16, v18, v19, t6, v24, v25, v28, v29, v30, v28, v34, v35, v36, v36, v37, v37, v38, v39, v40, v41, v42, t49, t50, t51, t52, (.s (.int .i64 (-1))), v55, t55, t56, t57, t58, t59, t60, t61, t62, t63, t64, t65, t66, t67, t68, t69, t70, t71, t72, t73, t74], h31, n32, []⟩) else (
fillK 1 ((zr CC 3).rep 1) [(0, (.s (.int .i64 (-1))))] fun c57 =>
let h58 := h31.set n32 (.cells (.lst c57) 1); let n59 := n32 + 1;
appendK CC h58 n59 25 25 t5 (.slice n32 0 1 1 false) fun v60 h61 n62 =>
oK (binop CC .add 3 true t27 (.s (.int .i64 1))) fun v63 =>
Q .normal ⟨mkTm [t0, t1, t2, t3, t4, v60, v28, t7, (.ptr n 0), (.s (.int .i64 (-1))), v36, t11, t12, t13, t14, t15, t16, t17, t18, t19, t20, t21, t22, t23, t24, t25, t26, v63, v16, v18, v19, t6, v24, v25, v28, v29, v30, v28, v34, v35, v36, v36, v37, v37, v38, v39, v40, v41, v42, t49, t50, t51, t52, (.s (.int .i64 (-1))), v55, t5, (.s (.int .i64 (-1))), (.slice n32 0 1 1 false), v60, v63, t60, t61, t62, t63, t64, t65, t66, t67, t68, t69, t70, t71, t72, t73, t74], h61, n62, []⟩))) else (
fillK 1 ((zr CC 3).rep 1) [(0, (.s (.int .i64 (-1))))] fun c64 =>
let h65 := h31.set n32 (.cells (.lst c64) 1); let n66 := n32 + 1;
appendK CC h65 n66 25 25 t5 (.slice n32 0 1 1 false) fun v67 h68 n69 =>
oK (binop CC .add 3 true t27 (.s (.int .i64 1))) fun v70 =>
Q .normal ⟨mkTm [t0, t1, t2, t3, t4, v67, v28, t7, (.ptr n 0), (.s (.int .i64 (-1))), t10, t11, t12, t13, t14, t15, t16, t17, t18, t19, t20, t21, t22, t23, t24, t25, t26, v70, v16, v18, v19, t6, v24, v25, v28, v29, v30, t37, t38, t39, t40, t41, t42, t43, t44, t45, t46, t47, t48, t49, t50, t51, t52, t53, t54, t5, (.s (.int .i64 (-1))), (.slice n32 0 1 1 false), v67, v70, t60, t61, t62, t63, t64, t65, t66, t67, t68, t69, t70, t71, t72, t73, t74], h68, n69, []⟩)) else (
Q (.exit 1) ⟨mkTm [t0, t1, t2, t3, t4, t5, t6, t7, t8, t9, t10, t11, t12, t13, t14, t15, t16, t17, t18, t19, t20, t21, t22, t23, t24, t25, t26, t27, v16, t29, t30, t31, t32, t33, t34, t35, t36, t37, t38, t39, t40, t41, t42, t43, t44, t45, t46, t47, t48, t49, t50, t51, t52, t53, t54, t55, t56, t57, t58, t59, t60, t61, t62, t63, t64, t65, t66, t67, t68, t69, t70, t71, t72, t73, t74], h, n, []⟩)) := Wp.eq_of (by kernel_rfl)

theorem F18_r111110100_1 (t0 t1 t2 t3 t4 t5 t6 t7 t8 t9 t10 t11 t12 t13 t14 t15 t16 t17 t18 t19 t20 t21 t22 t23 t24 t25 t26 t27 t28 t29 t30 t31 t32 t33 t34 t35 t36 t37 t38 t39 t40 t41 t42 t43 t44 t45 t46 t47 t48 t49 t50 t51 t52 t53 t54 t55 t56 t57 t58 t59 t60 t61 t62 t63 t64 t65 t66 t67 t68 t69 t70 t71 t72 t73 t74 : V) (h : Heap) (n : Nat) (K : V → Heap → Nat → Prop) : resume CC none [.blk 1, .sq (subC [1, 1, 1, 1, 1, 1] (bodyOf Go.Proofs.Tryz.f18))] (retW CC Go.Proofs.Tryz.f18 K) (.exit 1) ⟨mkTm [t0, t1, t2, t3, t4, t5, t6, t7, t8, t9, t10, t11, t12, t13, t14, t15, t16, t17, t18, t19, t20, t21, t22, t23, t24, t25, t26, t27, t28, t29, t30, t31, t32, t33, t34, t35, t36, t37, t38, t39, t40, t41, t42, t43, t44, t45, t46, t47, t48, t49, t50, t51, t52, t53, t54, t55, t56, t57, t58, t59, t60, t61, t62, t63, t64, t65, t66, t67, t68, t69, t70, t71, t72, t73, t74], h, n, []⟩ = (
oK (lenV CC h 22 t0) fun v71 =>
oK (binop CC .sub 3 true v71 (.s (.int .i64 1))) fun v72 =>
oK (indexAddr CC 22 t0 v72) fun v73 =>
oK (normO (rLoad CC 54 h v73)) fun v74 =>
let h75 := h.set n (.cells (.lst (zr CC 54).toList) 5); let n76 := n + 1;
oK (asPtr (.ptr n 0)) fun p77 => oK (store CC h75 54 p77.1 p77.2 v74) fun h78 =>
oK (normO (rLoad CC 54 h78 (.ptr n 0))) fun v79 =>
CallK CC 38 [v79, (.s (.int .i64 9))] h78 n76 fun v80 h81 n82 =>
oK (rUn CC .not v80) fun v83 =>
oK (bif (rWant true v83) then normO (rLoad CC 54 h81 (.ptr n 0)) else some undefV) fun v84 =>
let k85 := fun (v86 : V) (h87 : Heap) (n88 : Nat) => (
oK (bif (rWant true v83) then rUn CC .not v86 else some undefV) fun v89 =>
oK (rPick v83 v89 (.s (.bool false))) fun v90 =>
oK (asBool v90) fun b91 => bif b91 then (
K (.tup [(.s (.slice none 0 0)), (.s (.int .i64 8))]) h87 n88) else (
K (.tup [t5, (.s (.int .i64 0))]) h87 n88));
bif (rWant true v83) then (CallK CC 38 [v84, (.s (.int .i64 0))] h81 n82 fun v92 h93 n94 =>
k85 v92 h93 n94) else k85 undefV h81 n82) := by kernel_rfl

/-! F19 slices.Clone[[]lockgate/api.Insn,lockgate/api.Insn] -/
theorem F19 : CC.F.get 19 = some Go.Proofs.Tryz.f19 := by kernel_rfl
theorem F19_eq (t0 : V) (h : Heap) (n : Nat) (K : V → Heap → Nat → Prop) : Wp CC (bodyOf Go.Proofs.Tryz.f19) ⟨initTm Go.Proofs.Tryz.f19 [t0], h, n, []⟩ (retW CC Go.Proofs.Tryz.f19 K) = (
oK (binop CC .eql 22 true t0 (.s (.slice none 0 0))) fun v1 =>
oK (asBool v1) fun b2 => bif b2 then (
K (.s (.slice none 0 0)) h n) else (
fillK 5 ((zr CC 54).rep 0) [] fun c3 =>
let h4 := h.set n (.cells (.lst c3) 5); let n5 := n + 1;
appendK CC h4 n5 22 22 (.slice n 0 0 0 false) t0 fun v6 h7 n8 =>
K v6 h7 n8)) := Wp.eq_of (by kernel_rfl)
theorem F19_call {t0 : V} {h : Heap} {n : Nat} {K : V → Heap → Nat → Prop} (H : (∀ b o, h.get b = some o → b < n) → Wp CC (bodyOf Go.Proofs.Tryz.f19) ⟨initTm Go.Proofs.Tryz.f19 [t0], h, n, []⟩ (retW CC Go.Proofs.Tryz.f19 K)) : CallK CC 19 [t0] h n K := by
  have := @callK_of CC CCok 19 Go.Proofs.Tryz.f19 (bodyOf Go.Proofs.Tryz.f19) [t0] h n K F19
  refine this ?_ ?_ ?_
  · kernel_rfl
  · kernel_rfl
  · exact H

/-! F20 lockgate/lockgateref02.Check -/
theorem F20 : CC.F.get 20 = some Go.Proofs.Tryz.f20 := by kernel_rfl
def F20_k117 (n : Nat) (h14 : Heap) (n12 : Nat) (K : V → Heap → Nat → Prop) : Prop := (
oK (rFA CC 54 0 (.ptr n 0)) fun v118 =>
oK (normO (rLoad CC 3 h14 v118)) fun v119 =>
oK (binop CC .eql 3 true v119 (.s (.int .i64 24))) fun v120 =>
oK (bif (rWant true v120) then rFA CC 54 2 (.ptr n 0) else some undefV) fun v121 =>
oK (bif (rWant true v120) then normO (rLoad CC 3 h14 v121) else some undefV) fun v122 =>
oK (bif (rWant true v120) then binop CC .gtr 3 true v122 (.s (.int .i64 1)) else some undefV) fun v123 =>
oK (rPick v120 v123 (.s (.bool false))) fun v124 =>
oK (bif (rWant false v124) then rFA CC 54 0 (.ptr n 0) else some undefV) fun v125 =>
oK (bif (rWant false v124) then normO (rLoad CC 3 h14 v125) else some undefV) fun v126 =>
oK (bif (rWant false v124) then binop CC .eql 3 true v126 (.s (.int .i64 24)) else some undefV) fun v127 =>
oK (bif (rWant false v124) then some v127 else some undefV) fun v128 =>
oK (bif (rWant true v128) then rFA CC 54 2 (.ptr n 0) else some undefV) fun v129 =>
oK (bif (rWant true v128) then normO (rLoad CC 3 h14 v129) else some undefV) fun v130 =>
oK (bif (rWant true v128) then binop CC .eql 3 true v130 (.s (.int .i64 1)) else some undefV) fun v131 =>
oK (bif (rWant false v124) then rPick v128 v131 (.s (.bool false)) else some undefV) fun v132 =>
oK (bif (rWant false v124) then some v132 else some undefV) fun v133 =>
oK (bif (rWant true v133) then rFA CC 54 4 (.ptr n 0) else some undefV) fun v134 =>
oK (bif (rWant true v133) then normO (rLoad CC 3 h14 v134) else some undefV) fun v135 =>
oK (bif (rWant true v133) then binop CC .lss 3 true v135 (.s (.int .i64 1)) else some undefV) fun v136 =>
oK (bif (rWant true v133) then some v136 else some undefV) fun v137 =>
oK (bif (rWant false v137) then rFA CC 54 4 (.ptr n 0) else some undefV) fun v138 =>
oK (bif (rWant false v137) then normO (rLoad CC 3 h14 v138) else some undefV) fun v139 =>
oK (bif (rWant false v137) then binop CC .gtr 3 true v139 (.s (.int .i64 8)) else some undefV) fun v140 =>
oK (bif (rWant true v133) then rPick v137 (.s (.bool true)) v140 else some undefV) fun v141 =>
oK (bif (rWant false v124) then rPick v133 v141 (.s (.bool false)) else some undefV) fun v142 =>
oK (rPick v124 (.s (.bool true)) v142) fun v143 =>
oK (asBool v143) fun b144 => bif b144 then (
K (.s (.int .i64 6)) h14 n12) else (
K (.s (.int .i64 0)) h14 n12))
def F20_k112 (v112 : V) (n : Nat) (h14 : Heap) (n12 : Nat) (K : V → Heap → Nat → Prop) : Prop := (
oK (bif (rWant true v112) then rFA CC 54 4 (.ptr n 0) else some undefV) fun v113 =>
oK (bif (rWant true v112) then normO (rLoad CC 3 h14 v113) else some undefV) fun v114 =>
oK (bif (rWant true v112) then binop CC .neq 3 true v114 (.s (.int .i64 64)) else some undefV) fun v115 =>
oK (rPick v112 v115 (.s (.bool false))) fun v116 =>
oK (asBool v116) fun b117 => bif b117 then (
K (.s (.int .i64 6)) h14 n12) else (
F20_k117 n h14 n12 K))
def F20_k108 (v108 : V) (n : Nat) (h14 : Heap) (n12 : Nat) (K : V → Heap → Nat → Prop) : Prop := (
oK (bif (rWant true v108) then rFA CC 54 4 (.ptr n 0) else some undefV) fun v109 =>
oK (bif (rWant true v108) then normO (rLoad CC 3 h14 v109) else some undefV) fun v110 =>
oK (bif (rWant true v108) then binop CC .neq 3 true v110 (.s (.int .i64 32)) else some undefV) fun v111 =>
oK (rPick v108 v111 (.s (.bool false))) fun v112 =>
F20_k112 v112 n h14 n12 K)
def F20_k104 (v104 : V) (n : Nat) (h14 : Heap) (n12 : Nat) (K : V → Heap → Nat → Prop) : Prop := (
oK (bif (rWant true v104) then rFA CC 54 4 (.ptr n 0) else some undefV) fun v105 =>
oK (bif (rWant true v104) then normO (rLoad CC 3 h14 v105) else some undefV) fun v106 =>
oK (bif (rWant true v104) then binop CC .neq 3 true v106 (.s (.int .i64 16)) else some undefV) fun v107 =>
oK (rPick v104 v107 (.s (.bool false))) fun v108 =>
F20_k108 v108 n h14 n12 K)
def F20_k97 (n : Nat) (h14 : Heap) (n12 : Nat) (K : V → Heap → Nat → Prop) : Prop := (
oK (rFA CC 54 0 (.ptr n 0)) fun v98 =>
oK (normO (rLoad CC 3 h14 v98)) fun v99 =>
oK (binop CC .eql 3 true v99 (.s (.int .i64 212))) fun v100 =>
oK (bif (rWant false v100) then rFA CC 54 0 (.ptr n 0) else some undefV) fun v101 =>
oK (bif (rWant false v100) then normO (rLoad CC 3 h14 v101) else some undefV) fun v102 =>
oK (bif (rWant false v100) then binop CC .eql 3 true v102 (.s (.int .i64 220)) else some undefV) fun v103 =>
oK (rPick v100 (.s (.bool true)) v103) fun v104 =>
F20_k104 v104 n h14 n12 K)
def F20_k87 (v87 : V) (n8 : Nat) (h14 : Heap) (n : Nat) (n12 : Nat) (K : V → Heap → Nat → Prop) : Prop := (
oK (bif (rWant false v87) then rFA CC 99 4 (.ptr n8 0) else some undefV) fun v88 =>
oK (bif (rWant false v87) then normO (rLoad CC 4 h14 v88) else some undefV) fun v89 =>
oK (bif (rWant false v87) then rUn CC .not v89 else some undefV) fun v90 =>
oK (bif (rWant false v87) then some v90 else some undefV) fun v91 =>
oK (bif (rWant true v91) then rFA CC 54 4 (.ptr n 0) else some undefV) fun v92 =>
oK (bif (rWant true v91) then normO (rLoad CC 3 h14 v92) else some undefV) fun v93 =>
oK (bif (rWant true v91) then binop CC .neq 3 true v93 (.s (.int .i64 0)) else some undefV) fun v94 =>
oK (bif (rWant false v87) then rPick v91 v94 (.s (.bool false)) else some undefV) fun v95 =>
oK (rPick v87 (.s (.bool true)) v95) fun v96 =>
oK (asBool v96) fun b97 => bif b97 then (
K (.s (.int .i64 6)) h14 n12) else (
F20_k97 n h14 n12 K))
def F20_k78 (v78 : V) (n8 : Nat) (h14 : Heap) (n : Nat) (n12 : Nat) (K : V → Heap → Nat → Prop) : Prop := (
oK (bif (rWant false v78) then rFA CC 99 3 (.ptr n8 0) else some undefV) fun v79 =>
oK (bif (rWant false v78) then normO (rLoad CC 4 h14 v79) else some undefV) fun v80 =>
oK (bif (rWant false v78) then rUn CC .not v80 else some undefV) fun v81 =>
oK (bif (rWant false v78) then some v81 else some undefV) fun v82 =>
oK (bif (rWant true v82) then rFA CC 54 3 (.ptr n 0) else some undefV) fun v83 =>
oK (bif (rWant true v82) then normO (rLoad CC 3 h14 v83) else some undefV) fun v84 =>
oK (bif (rWant true v82) then binop CC .neq 3 true v84 (.s (.int .i64 0)) else some undefV) fun v85 =>
oK (bif (rWant false v78) then rPick v82 v85 (.s (.bool false)) else some undefV) fun v86 =>
oK (rPick v78 (.s (.bool true)) v86) fun v87 =>
F20_k87 v87 n8 h14 n n12 K)
def F20_k69 (v69 : V) (n8 : Nat) (h14 : Heap) (n : Nat) (n12 : Nat) (K : V → Heap → Nat → Prop) : Prop := (
oK (bif (rWant false v69) then rFA CC 99 2 (.ptr n8 0) else some undefV) fun v70 =>
oK (bif (rWant false v69) then normO (rLoad CC 4 h14 v70) else some undefV) fun v71 =>
oK (bif (rWant false v69) then rUn CC .not v71 else some undefV) fun v72 =>
oK (bif (rWant false v69) then some v72 else some undefV) fun v73 =>
oK (bif (rWant true v73) then rFA CC 54 2 (.ptr n 0) else some undefV) fun v74 =>
oK (bif (rWant true v73) then normO (rLoad CC 3 h14 v74) else some undefV) fun v75 =>
oK (bif (rWant true v73) then binop CC .neq 3 true v75 (.s (.int .i64 0)) else some undefV) fun v76 =>
oK (bif (rWant false v69) then rPick v73 v76 (.s (.bool false)) else some undefV) fun v77 =>
oK (rPick v69 (.s (.bool true)) v77) fun v78 =>
F20_k78 v78 n8 h14 n n12 K)
def F20_k62 (n8 : Nat) (h14 : Heap) (n : Nat) (n12 : Nat) (K : V → Heap → Nat → Prop) : Prop := (
oK (rFA CC 99 1 (.ptr n8 0)) fun v63 =>
oK (normO (rLoad CC 4 h14 v63)) fun v64 =>
oK (rUn CC .not v64) fun v65 =>
oK (bif (rWant true v65) then rFA CC 54 1 (.ptr n 0) else some undefV) fun v66 =>
oK (bif (rWant true v65) then normO (rLoad CC 3 h14 v66) else some undefV) fun v67 =>
oK (bif (rWant true v65) then binop CC .neq 3 true v67 (.s (.int .i64 0)) else some undefV) fun v68 =>
oK (rPick v65 v68 (.s (.bool false))) fun v69 =>
F20_k69 v69 n8 h14 n n12 K)
def F20_k47 (v47 : V) (n : Nat) (h14 : Heap) (n12 : Nat) (n8 : Nat) (K : V → Heap → Nat → Prop) : Prop := (
oK (bif (rWant false v47) then rFA CC 54 0 (.ptr n 0) else some undefV) fun v48 =>
oK (bif (rWant false v47) then normO (rLoad CC 3 h14 v48) else some undefV) fun v49 =>
oK (bif (rWant false v47) then binop CC .neq 3 true v49 (.s (.int .i64 24)) else some undefV) fun v50 =>
oK (bif (rWant false v47) then some v50 else some undefV) fun v51 =>
oK (bif (rWant true v51) then rFA CC 54 4 (.ptr n 0) else some undefV) fun v52 =>
oK (bif (rWant true v51) then normO (rLoad CC 3 h14 v52) else some undefV) fun v53 =>
oK (bif (rWant true v51) then binop CC .lss 3 true v53 (.s (.int .i64 (-2147483648))) else some undefV) fun v54 =>
oK (bif (rWant true v51) then some v54 else some undefV) fun v55 =>
oK (bif (rWant false v55) then rFA CC 54 4 (.ptr n 0) else some undefV) fun v56 =>
oK (bif (rWant false v55) then normO (rLoad CC 3 h14 v56) else some undefV) fun v57 =>
oK (bif (rWant false v55) then binop CC .gtr 3 true v57 (.s (.int .i64 2147483647)) else some undefV) fun v58 =>
oK (bif (rWant true v51) then rPick v55 (.s (.bool true)) v58 else some undefV) fun v59 =>
oK (bif (rWant false v47) then rPick v51 v59 (.s (.bool false)) else some undefV) fun v60 =>
oK (rPick v47 (.s (.bool true)) v60) fun v61 =>
oK (asBool v61) fun b62 => bif b62 then (
K (.s (.int .i64 15)) h14 n12) else (
F20_k62 n8 h14 n n12 K))
def F20_k40 (n : Nat) (h14 : Heap) (n12 : Nat) (n8 : Nat) (K : V → Heap → Nat → Prop) : Prop := (
oK (rFA CC 54 3 (.ptr n 0)) fun v41 =>
oK (normO (rLoad CC 3 h14 v41)) fun v42 =>
oK (binop CC .lss 3 true v42 (.s (.int .i64 (-32768)))) fun v43 =>
oK (bif (rWant false v43) then rFA CC 54 3 (.ptr n 0) else some undefV) fun v44 =>
oK (bif (rWant false v43) then normO (rLoad CC 3 h14 v44) else some undefV) fun v45 =>
oK (bif (rWant false v43) then binop CC .gtr 3 true v45 (.s (.int .i64 32767)) else some undefV) fun v46 =>
oK (rPick v43 (.s (.bool true)) v46) fun v47 =>
F20_k47 v47 n h14 n12 n8 K)
def F20_k16 (n : Nat) (h14 : Heap) (n8 : Nat) (n12 : Nat) (K : V → Heap → Nat → Prop) : Prop := (
oK (rFA CC 54 1 (.ptr n 0)) fun v17 =>
oK (normO (rLoad CC 3 h14 v17)) fun v18 =>
oK (binop CC .lss 3 true v18 (.s (.int .i64 0))) fun v19 =>
oK (bif (rWant false v19) then rFA CC 54 1 (.ptr n 0) else some undefV) fun v20 =>
oK (bif (rWant false v19) then normO (rLoad CC 3 h14 v20) else some undefV) fun v21 =>
oK (bif (rWant false v19) then binop CC .gtr 3 true v21 (.s (.int .i64 10)) else some undefV) fun v22 =>
oK (rPick v19 (.s (.bool true)) v22) fun v23 =>
oK (bif (rWant false v23) then rFA CC 54 2 (.ptr n 0) else some undefV) fun v24 =>
oK (bif (rWant false v23) then normO (rLoad CC 3 h14 v24) else some undefV) fun v25 =>
oK (bif (rWant false v23) then binop CC .lss 3 true v25 (.s (.int .i64 0)) else some undefV) fun v26 =>
oK (rPick v23 (.s (.bool true)) v26) fun v27 =>
oK (bif (rWant false v27) then rFA CC 54 2 (.ptr n 0) else some undefV) fun v28 =>
oK (bif (rWant false v27) then normO (rLoad CC 3 h14 v28) else some undefV) fun v29 =>
oK (bif (rWant false v27) then binop CC .gtr 3 true v29 (.s (.int .i64 10)) else some undefV) fun v30 =>
oK (rPick v27 (.s (.bool true)) v30) fun v31 =>
oK (bif (rWant false v31) then rFA CC 99 5 (.ptr n8 0) else some undefV) fun v32 =>
oK (bif (rWant false v31) then normO (rLoad CC 4 h14 v32) else some undefV) fun v33 =>
oK (bif (rWant false v31) then some v33 else some undefV) fun v34 =>
oK (bif (rWant true v34) then rFA CC 54 1 (.ptr n 0) else some undefV) fun v35 =>
oK (bif (rWant true v34) then normO (rLoad CC 3 h14 v35) else some undefV) fun v36 =>
oK (bif (rWant true v34) then binop CC .eql 3 true v36 (.s (.int .i64 10)) else some undefV) fun v37 =>
oK (bif (rWant false v31) then rPick v34 v37 (.s (.bool false)) else some undefV) fun v38 =>
oK (rPick v31 (.s (.bool true)) v38) fun v39 =>
oK (asBool v39) fun b40 => bif b40 then (
K (.s (.int .i64 5)) h14 n12) else (
F20_k40 n h14 n12 n8 K))
theorem F20_eq (t0 : V) (h : Heap) (n : Nat) (K : V → Heap → Nat → Prop) : Wp CC (bodyOf Go.Proofs.Tryz.f20) ⟨initTm Go.Proofs.Tryz.f20 [t0], h, n, []⟩ (retW CC Go.Proofs.Tryz.f20 K) = (
oK (V.cells t0) fun c1 =>
let h2 := h.set n (.cells (.lst c1.toList) 5); let n3 := n + 1;
oK (rFA CC 54 0 (.ptr n 0)) fun v4 =>
oK (normO (rLoad CC 3 h2 v4)) fun v5 =>
CallK CC 39 [v5] h2 n3 fun v6 h7 n8 =>
oK (rExt v6 0) fun v9 =>
oK (rExt v6 1) fun v10 =>
let h11 := h7.set n8 (.cells (.lst (zr CC 99).toList) 6); let n12 := n8 + 1;
oK (asPtr (.ptr n8 0)) fun p13 => oK (store CC h11 99 p13.1 p13.2 v9) fun h14 =>
oK (rUn CC .not v10) fun v15 =>
oK (asBool v15) fun b16 => bif b16 then (
K (.s (.int .i64 4)) h14 n12) else (
F20_k16 n h14 n8 n12 K)) := Wp.eq_of (by kernel_rfl)
theorem F20_call {t0 : V} {h : Heap} {n : Nat} {K : V → Heap → Nat → Prop} (H : (∀ b o, h.get b = some o → b < n) → Wp CC (bodyOf Go.Proofs.Tryz.f20) ⟨initTm Go.Proofs.Tryz.f20 [t0], h, n, []⟩ (retW CC Go.Proofs.Tryz.f20 K)) : CallK CC 20 [t0] h n K := by
  have := @callK_of CC CCok 20 Go.Proofs.Tryz.f20 (bodyOf Go.Proofs.Tryz.f20) [t0] h n K F20
  refine this ?_ ?_ ?_
  · kernel_rfl
  · kernel_rfl
  · exact H

/-! F21 lockgate/lockgateref06.Targets -/
theorem F21 : CC.F.get 21 = some Go.Proofs.Tryz.f21 := by kernel_rfl
theorem F21_eq (t0 : V) (h : Heap) (n : Nat) (K : V → Heap → Nat → Prop) : Wp CC (bodyOf Go.Proofs.Tryz.f21) ⟨initTm Go.Proofs.Tryz.f21 [t0], h, n, []⟩ (retW CC Go.Proofs.Tryz.f21 K) = (
oK (lenV CC h 22 t0) fun v1 =>
oK (binop CC .eql 3 true v1 (.s (.int .i64 0))) fun v2 =>
oK (asBool v2) fun b3 => bif b3 then (
K (.tup [(.s (.slice none 0 0)), (.s (.int .i64 2))]) h n) else (
oK (lenV CC h 22 t0) fun v4 =>
oK (binop CC .gtr 3 true v4 (.s (.int .i64 256))) fun v5 =>
oK (asBool v5) fun b6 => bif b6 then (
K (.tup [(.s (.slice none 0 0)), (.s (.int .i64 9))]) h n) else (
LoopK CC none (subC [1, 1, 1, 1, 0, 1, 0, 0] (bodyOf Go.Proofs.Tryz.f21)) ⟨mkTm [t0, undefV, (.s (.slice none 0 0)), (.s (.int .i64 0)), (.s (.slice none 0 0)), (.s (.int .i64 0)), undefV, t0, v1, v2, t0, v4, v5, undefV, undefV, undefV, undefV, undefV, undefV, undefV, undefV, undefV, undefV, undefV, undefV, undefV, undefV, undefV, undefV, undefV, undefV, undefV, undefV, undefV, undefV, undefV, undefV, undefV, undefV, undefV, undefV, undefV, undefV, undefV, undefV, undefV, undefV, undefV, undefV, undefV, undefV, undefV], h, n, []⟩ (resume CC none [.blk 0, .sq (subC [1, 1, 1, 1, 1] (bodyOf Go.Proofs.Tryz.f21))] (retW CC Go.Proofs.Tryz.f21 K))))) := Wp.eq_of (by kernel_rfl)
theorem F21_call {t0 : V} {h : Heap} {n : Nat} {K : V → Heap → Nat → Prop} (H : (∀ b o, h.get b = some o → b < n) → Wp CC (bodyOf Go.Proofs.Tryz.f21) ⟨initTm Go.Proofs.Tryz.f21 [t0], h, n, []⟩ (retW CC Go.Proofs.Tryz.f21 K)) : CallK CC 21 [t0] h n K := by
  have := @callK_of CC CCok 21 Go.Proofs.Tryz.f21 (bodyOf Go.Proofs.Tryz.f21) [t0] h n K F21
  refine this ?_ ?_ ?_
  · kernel_rfl
  · kernel_rfl
  · exact H

def F21_L11110100 (t0 t4 t5 : V) (h : Heap) (n : Nat) (s : St) : Prop := ∃ f : Nat → V, s = ⟨mkTm [t0, (f 1), (f 2), (f 3), t4, t5, (f 6), (f 7), (f 8), (f 9), (f 10), (f 11), (f 12), (f 13), (f 14), (f 15), (f 16), (f 17), (f 18), (f 19), (f 20), (f 21), (f 22), (f 23), (f 24), (f 25), (f 26), (f 27), (f 28), (f 29), (f 30), (f 31), (f 32), (f 33), (f 34), (f 35), (f 36), (f 37), (f 38), (f 39), (f 40), (f 41), (f 42), (f 43), (f 44), (f 45), (f 46), (f 47), (f 48), (f 49), (f 50), (f 51)], h, n, []⟩
theorem F21_L11110100_of {t0 t4 t5 : V} {t1 t2 t3 t6 t7 t8 t9 t10 t11 t12 t13 t14 t15 t16 t17 t18 t19 t20 t21 t22 t23 t24 t25 t26 t27 t28 t29 t30 t31 t32 t33 t34 t35 t36 t37 t38 t39 t40 t41 t42 t43 t44 t45 t46 t47 t48 t49 t50 t51 : V} {h : Heap} {n : Nat} : F21_L11110100 t0 t4 t5 h n ⟨mkTm [t0, t1, t2, t3, t4, t5, t6, t7, t8, t9, t10, t11, t12, t13, t14, t15, t16, t17, t18, t19, t20, t21, t22, t23, t24, t25, t26, t27, t28, t29, t30, t31, t32, t33, t34, t35, t36, t37, t38, t39, t40, t41, t42, t43, t44, t45, t46, t47, t48, t49, t50, t51], h, n, []⟩ :=
  ⟨fun i => ([t0, t1, t2, t3, t4, t5, t6, t7, t8, t9, t10, t11, t12, t13, t14, t15, t16, t17, t18, t19, t20, t21, t22, t23, t24, t25, t26, t27, t28, t29, t30, t31, t32, t33, t34, t35, t36, t37, t38, t39, t40, t41, t42, t43, t44, t45, t46, t47, t48, t49, t50, t51] : List V).getD i undefV, by kernel_rfl⟩
theorem F21_L11110100_elim {t0 t4 t5 : V} {h : Heap} {n : Nat} {s : St} {P : St → Prop} (hs : F21_L11110100 t0 t4 t5 h n s) (H : ∀ t1 t2 t3 t6 t7 t8 t9 t10 t11 t12 t13 t14 t15 t16 t17 t18 t19 t20 t21 t22 t23 t24 t25 t26 t27 t28 t29 t30 t31 t32 t33 t34 t35 t36 t37 t38 t39 t40 t41 t42 t43 t44 t45 t46 t47 t48 t49 t50 t51 : V, P ⟨mkTm [t0, t1, t2, t3, t4, t5, t6, t7, t8, t9, t10, t11, t12, t13, t14, t15, t16, t17, t18, t19, t20, t21, t22, t23, t24, t25, t26, t27, t28, t29, t30, t31, t32, t33, t34, t35, t36, t37, t38, t39, t40, t41, t42, t43, t44, t45, t46, t47, t48, t49, t50, t51], h, n, []⟩) : P s := by
  obtain ⟨f, rfl⟩ := hs
  exact H (f 1) (f 2) (f 3) (f 6) (f 7) (f 8) (f 9) (f 10) (f 11) (f 12) (f 13) (f 14) (f 15) (f 16) (f 17) (f 18) (f 19) (f 20) (f 21) (f 22) (f 23) (f 24) (f 25) (f 26) (f 27) (f 28) (f 29) (f 30) (f 31) (f 32) (f 33) (f 34) (f 35) (f 36) (f 37) (f 38) (f 39) (f 40) (f 41) (f 42) (f 43) (f 44) (f 45) (f 46) (f 47) (f 48) (f 49) (f 50) (f 51)

theorem F21_b11110100 (t0 t1 t2 t3 t4 t5 t6 t7 t8 t9 t10 t11 t12 t13 t14 t15 t16 t17 t18 t19 t20 t21 t22 t23 t24 t25 t26 t27 t28 t29 t30 t31 t32 t33 t34 t35 t36 t37 t38 t39 t40 t41 t42 t43 t44 t45 t46 t47 t48 t49 t50 t51 : V) (h : Heap) (n : Nat) (Q : X → St → Prop) : Wp CC (subC [1, 1, 1, 1, 0, 1, 0, 0] (bodyOf Go.Proofs.Tryz.f21)) ⟨mkTm [t0, t1, t2, t3, t4, t5, t6, t7, t8, t9, t10, t11, t12, t13, t14, t15, t16, t17, t18, t19, t20, t21, t22, t23, t24, t25, t26, t27, t28, t29, t30, t31, t32, t33, t34, t35, t36, t37, t38, t39, t40, t41, t42, t43, t44, t45, t46, t47, t48, t49, t50, t51], h, n, []⟩ Q = (
oK (lenV CC h 22 t0) fun v7 =>
oK (binop CC .lss 3 false t5 v7) fun v8 =>
oK (asBool v8) fun b9 => bif b9 then (
oK (indexAddr CC 22 t0 t5) fun v10 =>
oK (normO (rLoad CC 54 h v10)) fun v11 =>
CallK CC 40 [v11] h n fun v12 h13 n14 =>
oK (asBool v12) fun b15 => bif b15 then (
CallK CC 41 [t0, t5] h13 n14 fun v16 h17 n18 =>
oK (binop CC .lss 3 true v16 (.s (.int .i64 0))) fun v19 =>
oK (asBool v19) fun b20 => bif b20 then (
Q .ret ⟨mkTm [t0, t1, (.s (.slice none 0 0)), (.s (.int .i64 7)), t4, t5, v16, t7, t8, t9, t10, t11, t12, t5, t0, v7, v8, t17, t18, t0, t5, v10, v11, v12, t0, t5, v16, v16, v19, t29, t30, t31, t32, t33, t34, t35, t36, t37, t38, t39, t40, t41, t42, t43, t44, t45, t46, t47, t48, t49, t50, t51], h17, n18, []⟩) else (
fillK 1 ((zr CC 3).rep 1) [(0, v16)] fun c21 =>
let h22 := h17.set n18 (.cells (.lst c21) 1); let n23 := n18 + 1;
appendK CC h22 n23 25 25 t4 (.slice n18 0 1 1 false) fun v24 h25 n26 =>
oK (binop CC .add 3 true t5 (.s (.int .i64 1))) fun v27 =>
Q .normal ⟨mkTm [t0, t1, t2, t3, v24, v27, v16, t7, t8, t9, t10, t11, t12, t5, t0, v7, v8, t5, v27, t0, t5, v10, v11, v12, t0, t5, v16, v16, v19, t4, v16, (.slice n18 0 1 1 false), v24, t33, t34, t35, t36, t37, t38, t39, t40, t41, t42, t43, t44, t45, t46, t47, t48, t49, t50, t51], h25, n26, []⟩)) else (
fillK 1 ((zr CC 3).rep 1) [(0, (.s (.int .i64 (-1))))] fun c28 =>
let h29 := h13.set n14 (.cells (.lst c28) 1); let n30 := n14 + 1;
appendK CC h29 n30 25 25 t4 (.slice n14 0 1 1 false) fun v31 h32 n33 =>
oK (binop CC .add 3 true t5 (.s (.int .i64 1))) fun v34 =>
Q .normal ⟨mkTm [t0, t1, t2, t3, v31, v34, (.s (.int .i64 (-1))), t7, t8, t9, t10, t11, t12, t5, t0, v7, v8, t5, v34, t0, t5, v10, v11, v12, t24, t25, t26, t27, t28, t4, (.s (.int .i64 (-1))), (.slice n14 0 1 1 false), v31, t33, t34, t35, t36, t37, t38, t39, t40, t41, t42, t43, t44, t45, t46, t47, t48, t49, t50, t51], h32, n33, []⟩)) else (
Q (.exit 0) ⟨mkTm [t0, t1, t2, t3, t4, t5, t6, t7, t8, t9, t10, t11, t12, t5, t0, v7, v8, t17, t18, t19, t20, t21, t22, t23, t24, t25, t26, t27, t28, t29, t30, t31, t32, t33, t34, t35, t36, t37, t38, t39, t40, t41, t42, t43, t44, t45, t46, t47, t48, t49, t50, t51], h, n, []⟩)) := Wp.eq_of (by kernel_rfl)

theorem F21_r11110100_0 (t0 t1 t2 t3 t4 t5 t6 t7 t8 t9 t10 t11 t12 t13 t14 t15 t16 t17 t18 t19 t20 t21 t22 t23 t24 t25 t26 t27 t28 t29 t30 t31 t32 t33 t34 t35 t36 t37 t38 t39 t40 t41 t42 t43 t44 t45 t46 t47 t48 t49 t50 t51 : V) (h : Heap) (n : Nat) (K : V → Heap → Nat → Prop) : resume CC none [.blk 0, .sq (subC [1, 1, 1, 1, 1] (bodyOf Go.Proofs.Tryz.f21))] (retW CC Go.Proofs.Tryz.f21 K) (.exit 0) ⟨mkTm [t0, t1, t2, t3, t4, t5, t6, t7, t8, t9, t10, t11, t12, t13, t14, t15, t16, t17, t18, t19, t20, t21, t22, t23, t24, t25, t26, t27, t28, t29, t30, t31, t32, t33, t34, t35, t36, t37, t38, t39, t40, t41, t42, t43, t44, t45, t46, t47, t48, t49, t50, t51], h, n, []⟩ = (
oK (lenV CC h 22 t0) fun v35 =>
oK (binop CC .sub 3 true v35 (.s (.int .i64 1))) fun v36 =>
oK (indexAddr CC 22 t0 v36) fun v37 =>
oK (normO (rLoad CC 54 h v37)) fun v38 =>
CallK CC 42 [v38] h n fun v39 h40 n41 =>
oK (rUn CC .not v39) fun v42 =>
oK (bif (rWant true v42) then some t0 else some undefV) fun v43 =>
oK (bif (rWant true v42) then some t0 else some undefV) fun v44 =>
oK (bif (rWant true v42) then lenV CC h40 22 v44 else some undefV) fun v45 =>
oK (bif (rWant true v42) then binop CC .sub 3 true v45 (.s (.int .i64 1)) else some undefV) fun v46 =>
oK (bif (rWant true v42) then indexAddr CC 22 v43 v46 else some undefV) fun v47 =>
oK (bif (rWant true v42) then normO (rLoad CC 54 h40 v47) else some undefV) fun v48 =>
let k49 := fun (v50 : V) (h51 : Heap) (n52 : Nat) => (
oK (bif (rWant true v42) then rUn CC .not v50 else some undefV) fun v53 =>
oK (rPick v42 v53 (.s (.bool false))) fun v54 =>
oK (asBool v54) fun b55 => bif b55 then (
K (.tup [(.s (.slice none 0 0)), (.s (.int .i64 8))]) h51 n52) else (
K (.tup [t4, (.s (.int .i64 0))]) h51 n52));
bif (rWant true v42) then (CallK CC 43 [v48] h40 n41 fun v56 h57 n58 =>
k49 v56 h57 n58) else k49 undefV h40 n41) := by kernel_rfl

/-! F31 lockgate/insn.uses -/
theorem F31 : CC.F.get 31 = some Go.Proofs.Tryz.f31 := by kernel_rfl
theorem F31_eq (t0 : V) (h : Heap) (n : Nat) (K : V → Heap → Nat → Prop) : Wp CC (bodyOf Go.Proofs.Tryz.f31) ⟨initTm Go.Proofs.Tryz.f31 [t0], h, n, []⟩ (retW CC Go.Proofs.Tryz.f31 K) = (
CallK CC 32 [t0, (.s (.int .i64 0)), (.s (.int .i64 255))] h n fun v1 h2 n3 =>
oK (rUn CC .not v1) fun v4 =>
oK (asBool v4) fun b5 => bif b5 then (
K (.tup [(.s (.int .i64 0)), (.s (.bool false))]) h2 n3) else (
oK (binop CC .and 3 true t0 (.s (.int .i64 7))) fun v6 =>
oK (binop CC .eql 3 true v6 (.s (.int .i64 0))) fun v7 =>
oK (asBool v7) fun b8 => bif b8 then (
oK (binop CC .eql 3 true t0 (.s (.int .i64 24))) fun v9 =>
K (.tup [(.s (.int .i64 27)), v9]) h2 n3) else (
oK (binop CC .eql 3 true v6 (.s (.int .i64 1))) fun v10 =>
oK (asBool v10) fun b11 => bif b11 then (
CallK CC 69 [t0] h2 n3 fun v12 h13 n14 =>
K (.tup [(.s (.int .i64 23)), v12]) h13 n14) else (
oK (binop CC .eql 3 true v6 (.s (.int .i64 2))) fun v15 =>
oK (asBool v15) fun b16 => bif b16 then (
CallK CC 69 [t0] h2 n3 fun v17 h18 n19 =>
K (.tup [(.s (.int .i64 13)), v17]) h18 n19) else (
oK (binop CC .eql 3 true v6 (.s (.int .i64 3))) fun v20 =>
oK (asBool v20) fun b21 => bif b21 then (
CallK CC 69 [t0] h2 n3 fun v22 h23 n24 =>
K (.tup [(.s (.int .i64 7)), v22]) h23 n24) else (
oK (binop CC .eql 3 true v6 (.s (.int .i64 5))) fun v25 =>
oK (asBool v25) fun b26 => bif b26 then (
oK (binop CC .eql 3 true t0 (.s (.int .i64 5))) fun v27 =>
oK (asBool v27) fun b28 => bif b28 then (
K (.tup [(.s (.int .i64 4)), (.s (.bool true))]) h2 n3) else (
oK (binop CC .eql 3 true t0 (.s (.int .i64 133))) fun v29 =>
oK (asBool v29) fun b30 => bif b30 then (
K (.tup [(.s (.int .i64 8)), (.s (.bool true))]) h2 n3) else (
oK (binop CC .eql 3 true t0 (.s (.int .i64 149))) fun v31 =>
oK (asBool v31) fun b32 => bif b32 then (
K (.tup [(.s (.int .i64 0)), (.s (.bool true))]) h2 n3) else (
CallK CC 70 [t0] h2 n3 fun v33 h34 n35 =>
oK (binop CC .or 3 true (.s (.int .i64 1)) v33) fun v36 =>
oK (binop CC .or 3 true v36 (.s (.int .i64 4))) fun v37 =>
CallK CC 71 [t0] h34 n35 fun v38 h39 n40 =>
K (.tup [v37, v38]) h39 n40)))) else (
oK (binop CC .eql 3 true v6 (.s (.int .i64 6))) fun v41 =>
oK (asBool v41) fun b42 => bif b42 then (
CallK CC 70 [t0] h2 n3 fun v43 h44 n45 =>
oK (binop CC .or 3 true (.s (.int .i64 1)) v43) fun v46 =>
oK (binop CC .or 3 true v46 (.s (.int .i64 4))) fun v47 =>
CallK CC 71 [t0] h44 n45 fun v48 h49 n50 =>
K (.tup [v47, v48]) h49 n50) else (
CallK CC 72 [t0] h2 n3 fun v51 h52 n53 =>
oK (rExt v51 0) fun v54 =>
oK (rExt v51 1) fun v55 =>
K (.tup [v54, v55]) h52 n53)))))))) := Wp.eq_of (by kernel_rfl)
theorem F31_call {t0 : V} {h : Heap} {n : Nat} {K : V → Heap → Nat → Prop} (H : (∀ b o, h.get b = some o → b < n) → Wp CC (bodyOf Go.Proofs.Tryz.f31) ⟨initTm Go.Proofs.Tryz.f31 [t0], h, n, []⟩ (retW CC Go.Proofs.Tryz.f31 K)) : CallK CC 31 [t0] h n K := by
  have := @callK_of CC CCok 31 Go.Proofs.Tryz.f31 (bodyOf Go.Proofs.Tryz.f31) [t0] h n K F31
  refine this ?_ ?_ ?_
  · kernel_rfl
  · kernel_rfl
  · exact H

/-! F32 lockgate/insn.within -/
theorem F32 : CC.F.get 32 = some Go.Proofs.Tryz.f32 := by kernel_rfl
theorem F32_eq (t0 t1 t2 : V) (h : Heap) (n : Nat) (K : V → Heap → Nat → Prop) : Wp CC (bodyOf Go.Proofs.Tryz.f32) ⟨initTm Go.Proofs.Tryz.f32 [t0, t1, t2], h, n, []⟩ (retW CC Go.Proofs.Tryz.f32 K) = (
oK (binop CC .geq 3 false t0 t1) fun v1 =>
oK (bif (rWant true v1) then some t0 else some undefV) fun v2 =>
oK (bif (rWant true v1) then some t2 else some undefV) fun v3 =>
oK (bif (rWant true v1) then binop CC .leq 3 false v2 v3 else some undefV) fun v4 =>
oK (rPick v1 v4 (.s (.bool false))) fun v5 =>
K v5 h n) := Wp.eq_of (by kernel_rfl)
theorem F32_call {t0 t1 t2 : V} {h : Heap} {n : Nat} {K : V → Heap → Nat → Prop} (H : (∀ b o, h.get b = some o → b < n) → Wp CC (bodyOf Go.Proofs.Tryz.f32) ⟨initTm Go.Proofs.Tryz.f32 [t0, t1, t2], h, n, []⟩ (retW CC Go.Proofs.Tryz.f32 K)) : CallK CC 32 [t0, t1, t2] h n K := by
  have := @callK_of CC CCok 32 Go.Proofs.Tryz.f32 (bodyOf Go.Proofs.Tryz.f32) [t0, t1, t2] h n K F32
  refine this ?_ ?_ ?_
  · kernel_rfl
  · kernel_rfl
  · exact H

/-! F33 lockgate/insn.has -/
theorem F33 : CC.F.get 33 = some Go.Proofs.Tryz.f33 := by kernel_rfl
theorem F33_eq (t0 t1 : V) (h : Heap) (n : Nat) (K : V → Heap → Nat → Prop) : Wp CC (bodyOf Go.Proofs.Tryz.f33) ⟨initTm Go.Proofs.Tryz.f33 [t0, t1], h, n, []⟩ (retW CC Go.Proofs.Tryz.f33 K) = (
oK (binop CC .sub 3 true t1 (.s (.int .i64 1))) fun v1 =>
oK (binop CC .shl 3 true (.s (.int .i64 (-1))) v1) fun v2 =>
oK (binop CC .sub 3 true t1 (.s (.int .i64 1))) fun v3 =>
oK (binop CC .shl 3 true (.s (.int .i64 1)) v3) fun v4 =>
oK (binop CC .sub 3 true v4 (.s (.int .i64 1))) fun v5 =>
CallK CC 32 [t0, v2, v5] h (n + 10) fun v6 h7 n8 =>
(True) ∧
K v6 h7 n8) := Wp.eq_of (by kernel_rfl)
theorem F33_call {t0 t1 : V} {h : Heap} {n : Nat} {K : V → Heap → Nat → Prop} (H : (∀ b o, h.get b = some o → b < n) → Wp CC (bodyOf Go.Proofs.Tryz.f33) ⟨initTm Go.Proofs.Tryz.f33 [t0, t1], h, n, []⟩ (retW CC Go.Proofs.Tryz.f33 K)) : CallK CC 33 [t0, t1] h n K := by
  have := @callK_of CC CCok 33 Go.Proofs.Tryz.f33 (bodyOf Go.Proofs.Tryz.f33) [t0, t1] h n K F33
  refine this ?_ ?_ ?_
  · kernel_rfl
  · kernel_rfl
  · exact H

/-! F34 lockgate/insn.fits -/
theorem F34 : CC.F.get 34 = some Go.Proofs.Tryz.f34 := by kernel_rfl
theorem F34_eq (t0 t1 : V) (h : Heap) (n : Nat) (K : V → Heap → Nat → Prop) : Wp CC (bodyOf Go.Proofs.Tryz.f34) ⟨initTm Go.Proofs.Tryz.f34 [t0, t1], h, n, []⟩ (retW CC Go.Proofs.Tryz.f34 K) = (
oK (V.cells t0) fun c1 =>
let h2 := h.set n (.cells (.lst c1.toList) 5); let n3 := n + 1;
oK (rFA CC 54 1 (.ptr n 0)) fun v4 =>
oK (normO (rLoad CC 3 h2 v4)) fun v5 =>
oK (normO (build CC 136 [(0, (.s (.int .i64 1))), (1, v5)])) fun v6 =>
oK (rFA CC 54 2 (.ptr n 0)) fun v7 =>
oK (normO (rLoad CC 3 h2 v7)) fun v8 =>
oK (normO (build CC 136 [(0, (.s (.int .i64 2))), (1, v8)])) fun v9 =>
oK (rFA CC 54 3 (.ptr n 0)) fun v10 =>
oK (normO (rLoad CC 3 h2 v10)) fun v11 =>
oK (normO (build CC 136 [(0, (.s (.int .i64 4))), (1, v11)])) fun v12 =>
oK (rFA CC 54 4 (.ptr n 0)) fun v13 =>
oK (normO (rLoad CC 3 h2 v13)) fun v14 =>
oK (normO (build CC 136 [(0, (.s (.int .i64 8))), (1, v14)])) fun v15 =>
oK (normO (build CC 137 [(0, v6), (1, v9), (2, v12), (3, v15)])) fun v16 =>
LoopK CC none (subC [1, 0, 1, 0, 0] (bodyOf Go.Proofs.Tryz.f34)) ⟨mkTm [t0, t1, (.ptr n 0), undefV, (.s (.bool false)), undefV, undefV, v4, v5, v6, v7, v8, v9, v10, v11, v12, v13, v14, v15, v16, (.s (.int .i64 0)), undefV, undefV, undefV, undefV, undefV, undefV, undefV, undefV, undefV, undefV, undefV, undefV, undefV, undefV, undefV, undefV, undefV, undefV, undefV, undefV, undefV, undefV, undefV, undefV, undefV, undefV, undefV, undefV, undefV, undefV, undefV, undefV, undefV, undefV, undefV, undefV, undefV, undefV, undefV, undefV, undefV, undefV, undefV, undefV, undefV, undefV, undefV, undefV, undefV, undefV, undefV, undefV, undefV, undefV], h2, n3, []⟩ (resume CC none [.blk 0, .sq (subC [1, 1] (bodyOf Go.Proofs.Tryz.f34))] (retW CC Go.Proofs.Tryz.f34 K))) := Wp.eq_of (by kernel_rfl)
theorem F34_call {t0 t1 : V} {h : Heap} {n : Nat} {K : V → Heap → Nat → Prop} (H : (∀ b o, h.get b = some o → b < n) → Wp CC (bodyOf Go.Proofs.Tryz.f34) ⟨initTm Go.Proofs.Tryz.f34 [t0, t1], h, n, []⟩ (retW CC Go.Proofs.Tryz.f34 K)) : CallK CC 34 [t0, t1] h n K := by
  have := @callK_of CC CCok 34 Go.Proofs.Tryz.f34 (bodyOf Go.Proofs.Tryz.f34) [t0, t1] h n K F34
  refine this ?_ ?_ ?_
  · kernel_rfl
  · kernel_rfl
  · exact H

def F34_L10100 (t1 t2 t19 t20 : V) (h : Heap) (n : Nat) (s : St) : Prop := ∃ f : Nat → V, s = ⟨mkTm [(f 0), t1, t2, (f 3), (f 4), (f 5), (f 6), (f 7), (f 8), (f 9), (f 10), (f 11), (f 12), (f 13), (f 14), (f 15), (f 16), (f 17), (f 18), t19, t20, (f 21), (f 22), (f 23), (f 24), (f 25), (f 26), (f 27), (f 28), (f 29), (f 30), (f 31), (f 32), (f 33), (f 34), (f 35), (f 36), (f 37), (f 38), (f 39), (f 40), (f 41), (f 42), (f 43), (f 44), (f 45), (f 46), (f 47), (f 48), (f 49), (f 50), (f 51), (f 52), (f 53), (f 54), (f 55), (f 56), (f 57), (f 58), (f 59), (f 60), (f 61), (f 62), (f 63), (f 64), (f 65), (f 66), (f 67), (f 68), (f 69), (f 70), (f 71), (f 72), (f 73), (f 74)], h, n, []⟩
theorem F34_L10100_of {t1 t2 t19 t20 : V} {t0 t3 t4 t5 t6 t7 t8 t9 t10 t11 t12 t13 t14 t15 t16 t17 t18 t21 t22 t23 t24 t25 t26 t27 t28 t29 t30 t31 t32 t33 t34 t35 t36 t37 t38 t39 t40 t41 t42 t43 t44 t45 t46 t47 t48 t49 t50 t51 t52 t53 t54 t55 t56 t57 t58 t59 t60 t61 t62 t63 t64 t65 t66 t67 t68 t69 t70 t71 t72 t73 t74 : V} {h : Heap} {n : Nat} : F34_L10100 t1 t2 t19 t20 h n ⟨mkTm [t0, t1, t2, t3, t4, t5, t6, t7, t8, t9, t10, t11, t12, t13, t14, t15, t16, t17, t18, t19, t20, t21, t22, t23, t24, t25, t26, t27, t28, t29, t30, t31, t32, t33, t34, t35, t36, t37, t38, t39, t40, t41, t42, t43, t44, t45, t46, t47, t48, t49, t50, t51, t52, t53, t54, t55, t56, t57, t58, t59, t60, t61, t62, t63, t64, t65, t66, t67, t68, t69, t70, t71, t72, t73, t74], h, n, []⟩ :=
  ⟨fun i => ([t0, t1, t2, t3, t4, t5, t6, t7, t8, t9, t10, t11, t12, t13, t14, t15, t16, t17, t18, t19, t20, t21, t22, t23, t24, t25, t26, t27, t28, t29, t30, t31, t32, t33, t34, t35, t36, t37, t38, t39, t40, t41, t42, t43, t44, t45, t46, t47, t48, t49, t50, t51, t52, t53, t54, t55, t56, t57, t58, t59, t60, t61, t62, t63, t64, t65, t66, t67, t68, t69, t70, t71, t72, t73, t74] : List V).getD i undefV, by kernel_rfl⟩
theorem F34_L10100_elim {t1 t2 t19 t20 : V} {h : Heap} {n : Nat} {s : St} {P : St → Prop} (hs : F34_L10100 t1 t2 t19 t20 h n s) (H : ∀ t0 t3 t4 t5 t6 t7 t8 t9 t10 t11 t12 t13 t14 t15 t16 t17 t18 t21 t22 t23 t24 t25 t26 t27 t28 t29 t30 t31 t32 t33 t34 t35 t36 t37 t38 t39 t40 t41 t42 t43 t44 t45 t46 t47 t48 t49 t50 t51 t52 t53 t54 t55 t56 t57 t58 t59 t60 t61 t62 t63 t64 t65 t66 t67 t68 t69 t70 t71 t72 t73 t74 : V, P ⟨mkTm [t0, t1, t2, t3, t4, t5, t6, t7, t8, t9, t10, t11, t12, t13, t14, t15, t16, t17, t18, t19, t20, t21, t22, t23, t24, t25, t26, t27, t28, t29, t30, t31, t32, t33, t34, t35, t36, t37, t38, t39, t40, t41, t42, t43, t44, t45, t46, t47, t48, t49, t50, t51, t52, t53, t54, t55, t56, t57, t58, t59, t60, t61, t62, t63, t64, t65, t66, t67, t68, t69, t70, t71, t72, t73, t74], h, n, []⟩) : P s := by
  obtain ⟨f, rfl⟩ := hs
  exact H (f 0) (f 3) (f 4) (f 5) (f 6) (f 7) (f 8) (f 9) (f 10) (f 11) (f 12) (f 13) (f 14) (f 15) (f 16) (f 17) (f 18) (f 21) (f 22) (f 23) (f 24) (f 25) (f 26) (f 27) (f 28) (f 29) (f 30) (f 31) (f 32) (f 33) (f 34) (f 35) (f 36) (f 37) (f 38) (f 39) (f 40) (f 41) (f 42) (f 43) (f 44) (f 45) (f 46) (f 47) (f 48) (f 49) (f 50) (f 51) (f 52) (f 53) (f 54) (f 55) (f 56) (f 57) (f 58) (f 59) (f 60) (f 61) (f 62) (f 63) (f 64) (f 65) (f 66) (f 67) (f 68) (f 69) (f 70) (f 71) (f 72) (f 73) (f 74)

theorem F34_b10100 (t0 t1 t2 t3 t4 t5 t6 t7 t8 t9 t10 t11 t12 t13 t14 t15 t16 t17 t18 t19 t20 t21 t22 t23 t24 t25 t26 t27 t28 t29 t30 t31 t32 t33 t34 t35 t36 t37 t38 t39 t40 t41 t42 t43 t44 t45 t46 t47 t48 t49 t50 t51 t52 t53 t54 t55 t56 t57 t58 t59 t60 t61 t62 t63 t64 t65 t66 t67 t68 t69 t70 t71 t72 t73 t74 : V) (h : Heap) (n : Nat) (Q : X → St → Prop) : Wp CC (subC [1, 0, 1, 0, 0] (bodyOf Go.Proofs.Tryz.f34)) ⟨mkTm [t0, t1, t2, t3, t4, t5, t6, t7, t8, t9, t10, t11, t12, t13, t14, t15, t16, t17, t18, t19, t20, t21, t22, t23, t24, t25, t26, t27, t28, t29, t30, t31, t32, t33, t34, t35, t36, t37, t38, t39, t40, t41, t42, t43, t44, t45, t46, t47, t48, t49, t50, t51, t52, t53, t54, t55, t56, t57, t58, t59, t60, t61, t62, t63, t64, t65, t66, t67, t68, t69, t70, t71, t72, t73, t74], h, n, []⟩ Q = (
oK (binop CC .lss 3 true t20 (.s (.int .i64 4))) fun v17 =>
oK (asBool v17) fun b18 => bif b18 then (
oK (index CC 137 t19 t20) fun v19 =>
let h20 := h.set n (.cells (.lst (zr CC 136).toList) 2); let n21 := n + 1;
oK (asPtr (.ptr n 0)) fun p22 => oK (store CC h20 136 p22.1 p22.2 v19) fun h23 =>
oK (indexAddr CC 136 (.ptr n 0) (.s (.int .i64 0))) fun v24 =>
oK (normO (rLoad CC 3 h23 v24)) fun v25 =>
oK (binop CC .and 3 false t1 v25) fun v26 =>
oK (binop CC .eql 3 true v26 (.s (.int .i64 0))) fun v27 =>
oK (bif (rWant true v27) then indexAddr CC 136 (.ptr n 0) (.s (.int .i64 1)) else some undefV) fun v28 =>
oK (bif (rWant true v27) then normO (rLoad CC 3 h23 v28) else some undefV) fun v29 =>
oK (bif (rWant true v27) then binop CC .neq 3 true v29 (.s (.int .i64 0)) else some undefV) fun v30 =>
oK (rPick v27 v30 (.s (.bool false))) fun v31 =>
oK (asBool v31) fun b32 => bif b32 then (
Q .ret ⟨mkTm [t0, t1, t2, t3, (.s (.bool false)), t5, (.ptr n 0), t7, t8, t9, t10, t11, t12, t13, t14, t15, t16, t17, t18, t19, t20, v17, v19, t1, v24, v25, v26, v27, v27, v28, v29, v30, v31, t33, t34, t35, t36, t37, t38, t39, t40, t41, t42, t43, t44, t45, t46, t47, t48, t49, t50, t51, t52, t53, t54, t55, t56, t57, t58, t59, t60, t61, t62, t63, t64, t65, t66, t67, t68, t69, t70, t71, t72, t73, t74], h23, n21, []⟩) else (
oK (binop CC .add 3 true t20 (.s (.int .i64 1))) fun v33 =>
Q .normal ⟨mkTm [t0, t1, t2, t3, t4, t5, (.ptr n 0), t7, t8, t9, t10, t11, t12, t13, t14, t15, t16, t17, t18, t19, v33, v17, v19, t1, v24, v25, v26, v27, v27, v28, v29, v30, v31, v33, t34, t35, t36, t37, t38, t39, t40, t41, t42, t43, t44, t45, t46, t47, t48, t49, t50, t51, t52, t53, t54, t55, t56, t57, t58, t59, t60, t61, t62, t63, t64, t65, t66, t67, t68, t69, t70, t71, t72, t73, t74], h23, n21, []⟩)) else (
Q (.exit 0) ⟨mkTm [t0, t1, t2, t3, t4, t5, t6, t7, t8, t9, t10, t11, t12, t13, t14, t15, t16, t17, t18, t19, t20, v17, t22, t23, t24, t25, t26, t27, t28, t29, t30, t31, t32, t33, t34, t35, t36, t37, t38, t39, t40, t41, t42, t43, t44, t45, t46, t47, t48, t49, t50, t51, t52, t53, t54, t55, t56, t57, t58, t59, t60, t61, t62, t63, t64, t65, t66, t67, t68, t69, t70, t71, t72, t73, t74], h, n, []⟩)) := Wp.eq_of (by kernel_rfl)

theorem F34_r10100_0 (t0 t1 t2 t3 t4 t5 t6 t7 t8 t9 t10 t11 t12 t13 t14 t15 t16 t17 t18 t19 t20 t21 t22 t23 t24 t25 t26 t27 t28 t29 t30 t31 t32 t33 t34 t35 t36 t37 t38 t39 t40 t41 t42 t43 t44 t45 t46 t47 t48 t49 t50 t51 t52 t53 t54 t55 t56 t57 t58 t59 t60 t61 t62 t63 t64 t65 t66 t67 t68 t69 t70 t71 t72 t73 t74 : V) (h : Heap) (n : Nat) (K : V → Heap → Nat → Prop) : resume CC none [.blk 0, .sq (subC [1, 1] (bodyOf Go.Proofs.Tryz.f34))] (retW CC Go.Proofs.Tryz.f34 K) (.exit 0) ⟨mkTm [t0, t1, t2, t3, t4, t5, t6, t7, t8, t9, t10, t11, t12, t13, t14, t15, t16, t17, t18, t19, t20, t21, t22, t23, t24, t25, t26, t27, t28, t29, t30, t31, t32, t33, t34, t35, t36, t37, t38, t39, t40, t41, t42, t43, t44, t45, t46, t47, t48, t49, t50, t51, t52, t53, t54, t55, t56, t57, t58, t59, t60, t61, t62, t63, t64, t65, t66, t67, t68, t69, t70, t71, t72, t73, t74], h, n, []⟩ = (
oK (rFA CC 54 0 t2) fun v34 =>
oK (normO (rLoad CC 3 h v34)) fun v35 =>
oK (binop CC .eql 3 true v35 (.s (.int .i64 24))) fun v36 =>
oK (asBool v36) fun b37 => bif b37 then (
oK (rFA CC 54 2 t2) fun v38 =>
oK (normO (rLoad CC 3 h v38)) fun v39 =>
oK (binop CC .eql 3 true v39 (.s (.int .i64 0))) fun v40 =>
oK (bif (rWant false v40) then rFA CC 54 2 t2 else some undefV) fun v41 =>
oK (bif (rWant false v40) then normO (rLoad CC 3 h v41) else some undefV) fun v42 =>
oK (bif (rWant false v40) then binop CC .eql 3 true v42 (.s (.int .i64 1)) else some undefV) fun v43 =>
oK (bif (rWant false v40) then some v43 else some undefV) fun v44 =>
oK (bif (rWant true v44) then rFA CC 54 4 t2 else some undefV) fun v45 =>
oK (bif (rWant true v44) then normO (rLoad CC 3 h v45) else some undefV) fun v46 =>
let k47 := fun (v48 : V) (h49 : Heap) (n50 : Nat) => (
oK (bif (rWant false v40) then rPick v44 v48 (.s (.bool false)) else some undefV) fun v51 =>
oK (rPick v40 (.s (.bool true)) v51) fun v52 =>
K v52 h49 n50);
bif (rWant true v44) then (CallK CC 32 [v46, (.s (.int .i64 1)), (.s (.int .i64 8))] h n fun v53 h54 n55 =>
k47 v53 h54 n55) else k47 undefV h n) else (
oK (rFA CC 54 0 t2) fun v56 =>
oK (normO (rLoad CC 3 h v56)) fun v57 =>
oK (binop CC .shr 3 true v57 (.s (.int .u64 4))) fun v58 =>
oK (binop CC .eql 3 true v58 (.s (.int .i64 13))) fun v59 =>
oK (bif (rWant true v59) then rFA CC 54 0 t2 else some undefV) fun v60 =>
oK (bif (rWant true v59) then normO (rLoad CC 3 h v60) else some undefV) fun v61 =>
oK (bif (rWant true v59) then binop CC .and 3 true v61 (.s (.int .i64 7)) else some undefV) fun v62 =>
oK (bif (rWant true v59) then binop CC .eql 3 true v62 (.s (.int .i64 4)) else some undefV) fun v63 =>
oK (rPick v59 v63 (.s (.bool false))) fun v64 =>
oK (asBool v64) fun b65 => bif b65 then (
oK (rFA CC 54 4 t2) fun v66 =>
oK (normO (rLoad CC 3 h v66)) fun v67 =>
oK (binop CC .eql 3 true v67 (.s (.int .i64 16))) fun v68 =>
oK (bif (rWant false v68) then rFA CC 54 4 t2 else some undefV) fun v69 =>
oK (bif (rWant false v68) then normO (rLoad CC 3 h v69) else some undefV) fun v70 =>
oK (bif (rWant false v68) then binop CC .eql 3 true v70 (.s (.int .i64 32)) else some undefV) fun v71 =>
oK (rPick v68 (.s (.bool true)) v71) fun v72 =>
oK (bif (rWant false v72) then rFA CC 54 4 t2 else some undefV) fun v73 =>
oK (bif (rWant false v72) then normO (rLoad CC 3 h v73) else some undefV) fun v74 =>
oK (bif (rWant false v72) then binop CC .eql 3 true v74 (.s (.int .i64 64)) else some undefV) fun v75 =>
oK (rPick v72 (.s (.bool true)) v75) fun v76 =>
K v76 h n) else (
K (.s (.bool true)) h n))) := by kernel_rfl

/-! F35 lockgate/flow.places -/
theorem F35 : CC.F.get 35 = some Go.Proofs.Tryz.f35 := by kernel_rfl
theorem F35_eq (t0 : V) (h : Heap) (n : Nat) (K : V → Heap → Nat → Prop) : Wp CC (bodyOf Go.Proofs.Tryz.f35) ⟨initTm Go.Proofs.Tryz.f35 [t0], h, n, []⟩ (retW CC Go.Proofs.Tryz.f35 K) = (
oK (lenV CC h 22 t0) fun v1 =>
LoopK CC none (subC [1, 1, 0, 1, 0, 0] (bodyOf Go.Proofs.Tryz.f35)) ⟨mkTm [t0, undefV, (.s (.slice none 0 0)), (.s (.slice none 0 0)), undefV, undefV, undefV, t0, v1, (.s (.int .i64 0)), undefV, undefV, undefV, undefV, undefV, undefV, undefV, undefV, undefV, undefV, undefV, undefV, undefV, undefV, undefV, undefV, undefV, undefV, undefV], h, n, []⟩ (resume CC none [.blk 0, .sq (subC [1, 1, 1] (bodyOf Go.Proofs.Tryz.f35))] (retW CC Go.Proofs.Tryz.f35 K))) := Wp.eq_of (by kernel_rfl)
theorem F35_call {t0 : V} {h : Heap} {n : Nat} {K : V → Heap → Nat → Prop} (H : (∀ b o, h.get b = some o → b < n) → Wp CC (bodyOf Go.Proofs.Tryz.f35) ⟨initTm Go.Proofs.Tryz.f35 [t0], h, n, []⟩ (retW CC Go.Proofs.Tryz.f35 K)) : CallK CC 35 [t0] h n K := by
  have := @callK_of CC CCok 35 Go.Proofs.Tryz.f35 (bodyOf Go.Proofs.Tryz.f35) [t0] h n K F35
  refine this ?_ ?_ ?_
  · kernel_rfl
  · kernel_rfl
  · exact H

def F35_L110100 (t3 t7 t8 t9 : V) (h : Heap) (n : Nat) (s : St) : Prop := ∃ f : Nat → V, s = ⟨mkTm [(f 0), (f 1), (f 2), t3, (f 4), (f 5), (f 6), t7, t8, t9, (f 10), (f 11), (f 12), (f 13), (f 14), (f 15), (f 16), (f 17), (f 18), (f 19), (f 20), (f 21), (f 22), (f 23), (f 24), (f 25), (f 26), (f 27), (f 28)], h, n, []⟩
theorem F35_L110100_of {t3 t7 t8 t9 : V} {t0 t1 t2 t4 t5 t6 t10 t11 t12 t13 t14 t15 t16 t17 t18 t19 t20 t21 t22 t23 t24 t25 t26 t27 t28 : V} {h : Heap} {n : Nat} : F35_L110100 t3 t7 t8 t9 h n ⟨mkTm [t0, t1, t2, t3, t4, t5, t6, t7, t8, t9, t10, t11, t12, t13, t14, t15, t16, t17, t18, t19, t20, t21, t22, t23, t24, t25, t26, t27, t28], h, n, []⟩ :=
  ⟨fun i => ([t0, t1, t2, t3, t4, t5, t6, t7, t8, t9, t10, t11, t12, t13, t14, t15, t16, t17, t18, t19, t20, t21, t22, t23, t24, t25, t26, t27, t28] : List V).getD i undefV, by kernel_rfl⟩
theorem F35_L110100_elim {t3 t7 t8 t9 : V} {h : Heap} {n : Nat} {s : St} {P : St → Prop} (hs : F35_L110100 t3 t7 t8 t9 h n s) (H : ∀ t0 t1 t2 t4 t5 t6 t10 t11 t12 t13 t14 t15 t16 t17 t18 t19 t20 t21 t22 t23 t24 t25 t26 t27 t28 : V, P ⟨mkTm [t0, t1, t2, t3, t4, t5, t6, t7, t8, t9, t10, t11, t12, t13, t14, t15, t16, t17, t18, t19, t20, t21, t22, t23, t24, t25, t26, t27, t28], h, n, []⟩) : P s := by
  obtain ⟨f, rfl⟩ := hs
  exact H (f 0) (f 1) (f 2) (f 4) (f 5) (f 6) (f 10) (f 11) (f 12) (f 13) (f 14) (f 15) (f 16) (f 17) (f 18) (f 19) (f 20) (f 21) (f 22) (f 23) (f 24) (f 25) (f 26) (f 27) (f 28)

theorem F35_b110100 (t0 t1 t2 t3 t4 t5 t6 t7 t8 t9 t10 t11 t12 t13 t14 t15 t16 t17 t18 t19 t20 t21 t22 t23 t24 t25 t26 t27 t28 : V) (h : Heap) (n : Nat) (Q : X → St → Prop) : Wp CC (subC [1, 1, 0, 1, 0, 0] (bodyOf Go.Proofs.Tryz.f35)) ⟨mkTm [t0, t1, t2, t3, t4, t5, t6, t7, t8, t9, t10, t11, t12, t13, t14, t15, t16, t17, t18, t19, t20, t21, t22, t23, t24, t25, t26, t27, t28], h, n, []⟩ Q = (
oK (binop CC .lss 3 false t9 t8) fun v2 =>
oK (asBool v2) fun b3 => bif b3 then (
oK (indexAddr CC 22 t7 t9) fun v4 =>
oK (normO (rLoad CC 54 h v4)) fun v5 =>
let h6 := h.set n (.cells (.lst (zr CC 54).toList) 5); let n7 := n + 1;
oK (asPtr (.ptr n 0)) fun p8 => oK (store CC h6 54 p8.1 p8.2 v5) fun h9 =>
fillK 1 ((zr CC 3).rep 1) [(0, t9)] fun c10 =>
let h11 := h9.set n7 (.cells (.lst c10) 1); let n12 := n7 + 1;
appendK CC h11 n12 25 25 t3 (.slice n7 0 1 1 false) fun v13 h14 n15 =>
oK (normO (rLoad CC 54 h14 (.ptr n 0))) fun v16 =>
CallK CC 36 [v16] h14 n15 fun v17 h18 n19 =>
LoopK CC none (subC [1, 1, 0, 1, 0, 0, 1, 1, 0, 0, 1, 1, 1, 0, 0] (bodyOf Go.Proofs.Tryz.f35)) ⟨mkTm [t0, t1, t2, v13, t9, (.ptr n 0), v17, t7, t8, t9, v2, t9, v4, v5, t3, t9, (.slice n7 0 1 1 false), v13, v16, v17, t20, t21, t22, t23, t24, t25, t26, t27, t28], h18, n19, []⟩ (resume CC none [.blk 2, .blk 1, .sq (subC [1, 1, 0, 1, 0, 0, 1, 1, 1] (bodyOf Go.Proofs.Tryz.f35))] Q)) else (
Q (.exit 0) ⟨mkTm [t0, t1, t2, t3, t4, t5, t6, t7, t8, t9, v2, t11, t12, t13, t14, t15, t16, t17, t18, t19, t20, t21, t22, t23, t24, t25, t26, t27, t28], h, n, []⟩)) := Wp.eq_of (by kernel_rfl)

def F35_L110100110011100 (t3 t6 t7 t8 t9 : V) (h : Heap) (n : Nat) (s : St) : Prop := ∃ f : Nat → V, s = ⟨mkTm [(f 0), (f 1), (f 2), t3, (f 4), (f 5), t6, t7, t8, t9, (f 10), (f 11), (f 12), (f 13), (f 14), (f 15), (f 16), (f 17), (f 18), (f 19), (f 20), (f 21), (f 22), (f 23), (f 24), (f 25), (f 26), (f 27), (f 28)], h, n, []⟩
theorem F35_L110100110011100_of {t3 t6 t7 t8 t9 : V} {t0 t1 t2 t4 t5 t10 t11 t12 t13 t14 t15 t16 t17 t18 t19 t20 t21 t22 t23 t24 t25 t26 t27 t28 : V} {h : Heap} {n : Nat} : F35_L110100110011100 t3 t6 t7 t8 t9 h n ⟨mkTm [t0, t1, t2, t3, t4, t5, t6, t7, t8, t9, t10, t11, t12, t13, t14, t15, t16, t17, t18, t19, t20, t21, t22, t23, t24, t25, t26, t27, t28], h, n, []⟩ :=
  ⟨fun i => ([t0, t1, t2, t3, t4, t5, t6, t7, t8, t9, t10, t11, t12, t13, t14, t15, t16, t17, t18, t19, t20, t21, t22, t23, t24, t25, t26, t27, t28] : List V).getD i undefV, by kernel_rfl⟩
theorem F35_L110100110011100_elim {t3 t6 t7 t8 t9 : V} {h : Heap} {n : Nat} {s : St} {P : St → Prop} (hs : F35_L110100110011100 t3 t6 t7 t8 t9 h n s) (H : ∀ t0 t1 t2 t4 t5 t10 t11 t12 t13 t14 t15 t16 t17 t18 t19 t20 t21 t22 t23 t24 t25 t26 t27 t28 : V, P ⟨mkTm [t0, t1, t2, t3, t4, t5, t6, t7, t8, t9, t10, t11, t12, t13, t14, t15, t16, t17, t18, t19, t20, t21, t22, t23, t24, t25, t26, t27, t28], h, n, []⟩) : P s := by
  obtain ⟨f, rfl⟩ := hs
  exact H (f 0) (f 1) (f 2) (f 4) (f 5) (f 10) (f 11) (f 12) (f 13) (f 14) (f 15) (f 16) (f 17) (f 18) (f 19) (f 20) (f 21) (f 22) (f 23) (f 24) (f 25) (f 26) (f 27) (f 28)

theorem F35_b110100110011100 (t0 t1 t2 t3 t4 t5 t6 t7 t8 t9 t10 t11 t12 t13 t14 t15 t16 t17 t18 t19 t20 t21 t22 t23 t24 t25 t26 t27 t28 : V) (h : Heap) (n : Nat) (Q : X → St → Prop) : Wp CC (subC [1, 1, 0, 1, 0, 0, 1, 1, 0, 0, 1, 1, 1, 0, 0] (bodyOf Go.Proofs.Tryz.f35)) ⟨mkTm [t0, t1, t2, t3, t4, t5, t6, t7, t8, t9, t10, t11, t12, t13, t14, t15, t16, t17, t18, t19, t20, t21, t22, t23, t24, t25, t26, t27, t28], h, n, []⟩ Q = (
oK (binop CC .gtr 3 true t6 (.s (.int .i64 1))) fun v20 =>
oK (asBool v20) fun b21 => bif b21 then (
fillK 1 ((zr CC 3).rep 1) [(0, (.s (.int .i64 (-1))))] fun c22 =>
let h23 := h.set n (.cells (.lst c22) 1); let n24 := n + 1;
appendK CC h23 n24 25 25 t3 (.slice n 0 1 1 false) fun v25 h26 n27 =>
oK (binop CC .sub 3 true t6 (.s (.int .i64 1))) fun v28 =>
Q .normal ⟨mkTm [t0, t1, t2, v25, t4, t5, v28, t7, t8, t9, t10, t11, t12, t13, t14, t15, t16, t17, t18, t19, t6, v20, t6, v28, t3, (.slice n 0 1 1 false), v25, t27, t28], h26, n27, []⟩) else (
Q (.exit 2) ⟨mkTm [t0, t1, t2, t3, t4, t5, t6, t7, t8, t9, t10, t11, t12, t13, t14, t15, t16, t17, t18, t19, t6, v20, t22, t23, t24, t25, t26, t27, t28], h, n, []⟩)) := Wp.eq_of (by kernel_rfl)

theorem F35_r110100110011100_2 (t0 t1 t2 t3 t4 t5 t6 t7 t8 t9 t10 t11 t12 t13 t14 t15 t16 t17 t18 t19 t20 t21 t22 t23 t24 t25 t26 t27 t28 : V) (h : Heap) (n : Nat) (Q : X → St → Prop) : resume CC none [.blk 2, .blk 1, .sq (subC [1, 1, 0, 1, 0, 0, 1, 1, 1] (bodyOf Go.Proofs.Tryz.f35))] Q (.exit 2) ⟨mkTm [t0, t1, t2, t3, t4, t5, t6, t7, t8, t9, t10, t11, t12, t13, t14, t15, t16, t17, t18, t19, t20, t21, t22, t23, t24, t25, t26, t27, t28], h, n, []⟩ = (
oK (binop CC .add 3 true t9 (.s (.int .i64 1))) fun v29 =>
Q .normal ⟨mkTm [t0, t1, t2, t3, t4, t5, t6, t7, t8, v29, t10, t11, t12, t13, t14, t15, t16, t17, t18, t19, t20, t21, t22, t23, t24, t25, t26, v29, t28], h, n, []⟩) := by kernel_rfl

theorem F35_r110100110011100_1 (t0 t1 t2 t3 t4 t5 t6 t7 t8 t9 t10 t11 t12 t13 t14 t15 t16 t17 t18 t19 t20 t21 t22 t23 t24 t25 t26 t27 t28 : V) (h : Heap) (n : Nat) (Q : X → St → Prop) : resume CC none [.blk 2, .blk 1, .sq (subC [1, 1, 0, 1, 0, 0, 1, 1, 1] (bodyOf Go.Proofs.Tryz.f35))] Q (.exit 1) ⟨mkTm [t0, t1, t2, t3, t4, t5, t6, t7, t8, t9, t10, t11, t12, t13, t14, t15, t16, t17, t18, t19, t20, t21, t22, t23, t24, t25, t26, t27, t28], h, n, []⟩ = (
oK (binop CC .add 3 true t9 (.s (.int .i64 1))) fun v30 =>
Q .normal ⟨mkTm [t0, t1, t2, t3, t4, t5, t6, t7, t8, v30, t10, t11, t12, t13, t14, t15, t16, t17, t18, t19, t20, t21, t22, t23, t24, t25, t26, v30, t28], h, n, []⟩) := by kernel_rfl

theorem F35_r110100_0 (t0 t1 t2 t3 t4 t5 t6 t7 t8 t9 t10 t11 t12 t13 t14 t15 t16 t17 t18 t19 t20 t21 t22 t23 t24 t25 t26 t27 t28 : V) (h : Heap) (n : Nat) (K : V → Heap → Nat → Prop) : resume CC none [.blk 0, .sq (subC [1, 1, 1] (bodyOf Go.Proofs.Tryz.f35))] (retW CC Go.Proofs.Tryz.f35 K) (.exit 0) ⟨mkTm [t0, t1, t2, t3, t4, t5, t6, t7, t8, t9, t10, t11, t12, t13, t14, t15, t16, t17, t18, t19, t20, t21, t22, t23, t24, t25, t26, t27, t28], h, n, []⟩ = (
K t3 h n) := by kernel_rfl

/-! F36 lockgate/insn.Size -/
theorem F36 : CC.F.get 36 = some Go.Proofs.Tryz.f36 := by kernel_rfl
theorem F36_eq (t0 : V) (h : Heap) (n : Nat) (K : V → Heap → Nat → Prop) : Wp CC (bodyOf Go.Proofs.Tryz.f36) ⟨initTm Go.Proofs.Tryz.f36 [t0], h, n, []⟩ (retW CC Go.Proofs.Tryz.f36 K) = (
oK (V.cells t0) fun c1 =>
let h2 := h.set n (.cells (.lst c1.toList) 5); let n3 := n + 1;
oK (rFA CC 54 0 (.ptr n 0)) fun v4 =>
oK (normO (rLoad CC 3 h2 v4)) fun v5 =>
oK (binop CC .eql 3 true v5 (.s (.int .i64 24))) fun v6 =>
oK (asBool v6) fun b7 => bif b7 then (
K (.s (.int .i64 2)) h2 n3) else (
K (.s (.int .i64 1)) h2 n3)) := Wp.eq_of (by kernel_rfl)
theorem F36_call {t0 : V} {h : Heap} {n : Nat} {K : V → Heap → Nat → Prop} (H : (∀ b o, h.get b = some o → b < n) → Wp CC (bodyOf Go.Proofs.Tryz.f36) ⟨initTm Go.Proofs.Tryz.f36 [t0], h, n, []⟩ (retW CC Go.Proofs.Tryz.f36 K)) : CallK CC 36 [t0] h n K := by
  have := @callK_of CC CCok 36 Go.Proofs.Tryz.f36 (bodyOf Go.Proofs.Tryz.f36) [t0] h n K F36
  refine this ?_ ?_ ?_
  · kernel_rfl
  · kernel_rfl
  · exact H

/-! F37 lockgate/flow.jumps -/
theorem F37 : CC.F.get 37 = some Go.Proofs.Tryz.f37 := by kernel_rfl
theorem F37_eq (t0 : V) (h : Heap) (n : Nat) (K : V → Heap → Nat → Prop) : Wp CC (bodyOf Go.Proofs.Tryz.f37) ⟨initTm Go.Proofs.Tryz.f37 [t0], h, n, []⟩ (retW CC Go.Proofs.Tryz.f37 K) = (
oK (V.cells t0) fun c1 =>
let h2 := h.set n (.cells (.lst c1.toList) 5); let n3 := n + 1;
oK (rFA CC 54 0 (.ptr n 0)) fun v4 =>
oK (normO (rLoad CC 3 h2 v4)) fun v5 =>
oK (binop CC .shr 3 true v5 (.s (.int .u64 4))) fun v6 =>
oK (rFA CC 54 0 (.ptr n 0)) fun v7 =>
oK (normO (rLoad CC 3 h2 v7)) fun v8 =>
oK (binop CC .and 3 true v8 (.s (.int .i64 7))) fun v9 =>
oK (binop CC .eql 3 true v9 (.s (.int .i64 5))) fun v10 =>
oK (bif (rWant false v10) then rFA CC 54 0 (.ptr n 0) else some undefV) fun v11 =>
oK (bif (rWant false v10) then normO (rLoad CC 3 h2 v11) else some undefV) fun v12 =>
oK (bif (rWant false v10) then binop CC .and 3 true v12 (.s (.int .i64 7)) else some undefV) fun v13 =>
oK (bif (rWant false v10) then binop CC .eql 3 true v13 (.s (.int .i64 6)) else some undefV) fun v14 =>
oK (rPick v10 (.s (.bool true)) v14) fun v15 =>
oK (bif (rWant true v15) then some v6 else some undefV) fun v16 =>
oK (bif (rWant true v15) then binop CC .neq 3 true v16 (.s (.int .i64 8)) else some undefV) fun v17 =>
oK (rPick v15 v17 (.s (.bool false))) fun v18 =>
oK (bif (rWant true v18) then some v6 else some undefV) fun v19 =>
oK (bif (rWant true v18) then binop CC .neq 3 true v19 (.s (.int .i64 9)) else some undefV) fun v20 =>
oK (rPick v18 v20 (.s (.bool false))) fun v21 =>
K v21 h2 n3) := Wp.eq_of (by kernel_rfl)
theorem F37_call {t0 : V} {h : Heap} {n : Nat} {K : V → Heap → Nat → Prop} (H : (∀ b o, h.get b = some o → b < n) → Wp CC (bodyOf Go.Proofs.Tryz.f37) ⟨initTm Go.Proofs.Tryz.f37 [t0], h, n, []⟩ (retW CC Go.Proofs.Tryz.f37 K)) : CallK CC 37 [t0] h n K := by
  have := @callK_of CC CCok 37 Go.Proofs.Tryz.f37 (bodyOf Go.Proofs.Tryz.f37) [t0] h n K F37
  refine this ?_ ?_ ?_
  · kernel_rfl
  · kernel_rfl
  · exact H

/-! F38 lockgate/flow.is -/
theorem F38 : CC.F.get 38 = some Go.Proofs.Tryz.f38 := by kernel_rfl
theorem F38_eq (t0 t1 : V) (h : Heap) (n : Nat) (K : V → Heap → Nat → Prop) : Wp CC (bodyOf Go.Proofs.Tryz.f38) ⟨initTm Go.Proofs.Tryz.f38 [t0, t1], h, n, []⟩ (retW CC Go.Proofs.Tryz.f38 K) = (
oK (V.cells t0) fun c1 =>
let h2 := h.set n (.cells (.lst c1.toList) 5); let n3 := n + 1;
oK (rFA CC 54 0 (.ptr n 0)) fun v4 =>
oK (normO (rLoad CC 3 h2 v4)) fun v5 =>
oK (binop CC .and 3 true v5 (.s (.int .i64 7))) fun v6 =>
oK (binop CC .eql 3 true v6 (.s (.int .i64 5))) fun v7 =>
oK (bif (rWant true v7) then rFA CC 54 0 (.ptr n 0) else some undefV) fun v8 =>
oK (bif (rWant true v7) then normO (rLoad CC 3 h2 v8) else some undefV) fun v9 =>
oK (bif (rWant true v7) then binop CC .shr 3 true v9 (.s (.int .u64 4)) else some undefV) fun v10 =>
oK (bif (rWant true v7) then some t1 else some undefV) fun v11 =>
oK (bif (rWant true v7) then binop CC .eql 3 false v10 v11 else some undefV) fun v12 =>
oK (rPick v7 v12 (.s (.bool false))) fun v13 =>
K v13 h2 n3) := Wp.eq_of (by kernel_rfl)
theorem F38_call {t0 t1 : V} {h : Heap} {n : Nat} {K : V → Heap → Nat → Prop} (H : (∀ b o, h.get b = some o → b < n) → Wp CC (bodyOf Go.Proofs.Tryz.f38) ⟨initTm Go.Proofs.Tryz.f38 [t0, t1], h, n, []⟩ (retW CC Go.Proofs.Tryz.f38 K)) : CallK CC 38 [t0, t1] h n K := by
  have := @callK_of CC CCok 38 Go.Proofs.Tryz.f38 (bodyOf Go.Proofs.Tryz.f38) [t0, t1] h n K F38
  refine this ?_ ?_ ?_
  · kernel_rfl
  · kernel_rfl
  · exact H

/-! F39 lockgate/lockgateref02.Of -/
theorem F39 : CC.F.get 39 = some Go.Proofs.Tryz.f39 := by kernel_rfl
theorem F39_eq (t0 : V) (h : Heap) (n : Nat) (K : V → Heap → Nat → Prop) : Wp CC (bodyOf Go.Proofs.Tryz.f39) ⟨initTm Go.Proofs.Tryz.f39 [t0], h, n, []⟩ (retW CC Go.Proofs.Tryz.f39 K) = (
let h1 := h.set n (.cells (.lst (zr CC 99).toList) 6); let n2 := n + 1;
CallK CC 73 [] h1 n2 fun v3 h4 n5 =>
LoopK CC none (subC [1, 1, 0, 1, 0, 0] (bodyOf Go.Proofs.Tryz.f39)) ⟨mkTm [t0, undefV, (.ptr n 0), (.s (.bool false)), v3, (.s (.int .i64 0)), v3, undefV, undefV, undefV, undefV, undefV, undefV, undefV, undefV, undefV, undefV, undefV, undefV, undefV, undefV, undefV, undefV, undefV, undefV], h4, n5, []⟩ (resume CC none [.blk 0, .sq (subC [1, 1, 1] (bodyOf Go.Proofs.Tryz.f39))] (retW CC Go.Proofs.Tryz.f39 K))) := Wp.eq_of (by kernel_rfl)
theorem F39_call {t0 : V} {h : Heap} {n : Nat} {K : V → Heap → Nat → Prop} (H : (∀ b o, h.get b = some o → b < n) → Wp CC (bodyOf Go.Proofs.Tryz.f39) ⟨initTm Go.Proofs.Tryz.f39 [t0], h, n, []⟩ (retW CC Go.Proofs.Tryz.f39 K)) : CallK CC 39 [t0] h n K := by
  have := @callK_of CC CCok 39 Go.Proofs.Tryz.f39 (bodyOf Go.Proofs.Tryz.f39) [t0] h n K F39
  refine this ?_ ?_ ?_
  · kernel_rfl
  · kernel_rfl
  · exact H

def F39_L110100 (t0 t2 t4 t5 : V) (h : Heap) (n : Nat) (s : St) : Prop := ∃ f : Nat → V, s = ⟨mkTm [t0, (f 1), t2, (f 3), t4, t5, (f 6), (f 7), (f 8), (f 9), (f 10), (f 11), (f 12), (f 13), (f 14), (f 15), (f 16), (f 17), (f 18), (f 19), (f 20), (f 21), (f 22), (f 23), (f 24)], h, n, []⟩
theorem F39_L110100_of {t0 t2 t4 t5 : V} {t1 t3 t6 t7 t8 t9 t10 t11 t12 t13 t14 t15 t16 t17 t18 t19 t20 t21 t22 t23 t24 : V} {h : Heap} {n : Nat} : F39_L110100 t0 t2 t4 t5 h n ⟨mkTm [t0, t1, t2, t3, t4, t5, t6, t7, t8, t9, t10, t11, t12, t13, t14, t15, t16, t17, t18, t19, t20, t21, t22, t23, t24], h, n, []⟩ :=
  ⟨fun i => ([t0, t1, t2, t3, t4, t5, t6, t7, t8, t9, t10, t11, t12, t13, t14, t15, t16, t17, t18, t19, t20, t21, t22, t23, t24] : List V).getD i undefV, by kernel_rfl⟩
theorem F39_L110100_elim {t0 t2 t4 t5 : V} {h : Heap} {n : Nat} {s : St} {P : St → Prop} (hs : F39_L110100 t0 t2 t4 t5 h n s) (H : ∀ t1 t3 t6 t7 t8 t9 t10 t11 t12 t13 t14 t15 t16 t17 t18 t19 t20 t21 t22 t23 t24 : V, P ⟨mkTm [t0, t1, t2, t3, t4, t5, t6, t7, t8, t9, t10, t11, t12, t13, t14, t15, t16, t17, t18, t19, t20, t21, t22, t23, t24], h, n, []⟩) : P s := by
  obtain ⟨f, rfl⟩ := hs
  exact H (f 1) (f 3) (f 6) (f 7) (f 8) (f 9) (f 10) (f 11) (f 12) (f 13) (f 14) (f 15) (f 16) (f 17) (f 18) (f 19) (f 20) (f 21) (f 22) (f 23) (f 24)

theorem F39_b110100 (t0 t1 t2 t3 t4 t5 t6 t7 t8 t9 t10 t11 t12 t13 t14 t15 t16 t17 t18 t19 t20 t21 t22 t23 t24 : V) (h : Heap) (n : Nat) (Q : X → St → Prop) : Wp CC (subC [1, 1, 0, 1, 0, 0] (bodyOf Go.Proofs.Tryz.f39)) ⟨mkTm [t0, t1, t2, t3, t4, t5, t6, t7, t8, t9, t10, t11, t12, t13, t14, t15, t16, t17, t18, t19, t20, t21, t22, t23, t24], h, n, []⟩ Q = (
oK (lenV CC h 139 t4) fun v6 =>
oK (binop CC .lss 3 false t5 v6) fun v7 =>
oK (asBool v7) fun b8 => bif b8 then (
oK (indexAddr CC 139 t4 t5) fun v9 =>
oK (rFA CC 99 0 v9) fun v10 =>
oK (normO (rLoad CC 3 h v10)) fun v11 =>
oK (binop CC .eql 3 false v11 t0) fun v12 =>
oK (asBool v12) fun b13 => bif b13 then (
oK (indexAddr CC 139 t4 t5) fun v14 =>
oK (normO (rLoad CC 99 h v14)) fun v15 =>
oK (asPtr t2) fun p16 => oK (store CC h 99 p16.1 p16.2 v15) fun h17 =>
Q .ret ⟨mkTm [t0, t1, t2, (.s (.bool true)), t4, t5, t6, t5, t4, v6, v7, t11, t12, t4, t5, v9, v10, v11, t0, v12, t4, t5, v14, v15, t24], h17, n, []⟩) else (
oK (binop CC .add 3 true t5 (.s (.int .i64 1))) fun v18 =>
Q .normal ⟨mkTm [t0, t1, t2, t3, t4, v18, t6, t5, t4, v6, v7, t5, v18, t4, t5, v9, v10, v11, t0, v12, t20, t21, t22, t23, t24], h, n, []⟩)) else (
Q (.exit 0) ⟨mkTm [t0, t1, t2, t3, t4, t5, t6, t5, t4, v6, v7, t11, t12, t13, t14, t15, t16, t17, t18, t19, t20, t21, t22, t23, t24], h, n, []⟩)) := Wp.eq_of (by kernel_rfl)

theorem F39_r110100_0 (t0 t1 t2 t3 t4 t5 t6 t7 t8 t9 t10 t11 t12 t13 t14 t15 t16 t17 t18 t19 t20 t21 t22 t23 t24 : V) (h : Heap) (n : Nat) (K : V → Heap → Nat → Prop) : resume CC none [.blk 0, .sq (subC [1, 1, 1] (bodyOf Go.Proofs.Tryz.f39))] (retW CC Go.Proofs.Tryz.f39 K) (.exit 0) ⟨mkTm [t0, t1, t2, t3, t4, t5, t6, t7, t8, t9, t10, t11, t12, t13, t14, t15, t16, t17, t18, t19, t20, t21, t22, t23, t24], h, n, []⟩ = (
oK (normO (build CC 99 [])) fun v19 =>
oK (asPtr t2) fun p20 => oK (store CC h 99 p20.1 p20.2 v19) fun h21 =>
oK (resultsOf CC (mkTm [t0, t1, t2, (.s (.bool false)), t4, t5, t6, t7, t8, t9, t10, t11, t12, t13, t14, t15, t16, t17, t18, t19, t20, t21, t22, t23, v19]) h21 [.cell 2 99, .tmp 3]) fun vs => K (oneOf vs) h21 n) := by kernel_rfl

/-! F40 lockgate/lockgateref06.Jumps -/
theorem F40 : CC.F.get 40 = some Go.Proofs.Tryz.f40 := by kernel_rfl
theorem F40_eq (t0 : V) (h : Heap) (n : Nat) (K : V → Heap → Nat → Prop) : Wp CC (bodyOf Go.Proofs.Tryz.f40) ⟨initTm Go.Proofs.Tryz.f40 [t0], h, n, []⟩ (retW CC Go.Proofs.Tryz.f40 K) = (
oK (V.cells t0) fun c1 =>
let h2 := h.set n (.cells (.lst c1.toList) 5); let n3 := n + 1;
oK (normO (rLoad CC 54 h2 (.ptr n 0))) fun v4 =>
CallK CC 74 [v4] h2 n3 fun v5 h6 n7 =>
oK (binop CC .geq 3 true v5 (.s (.int .i64 0))) fun v8 =>
oK (bif (rWant true v8) then some v5 else some undefV) fun v9 =>
oK (bif (rWant true v8) then binop CC .neq 3 true v9 (.s (.int .i64 8)) else some undefV) fun v10 =>
oK (rPick v8 v10 (.s (.bool false))) fun v11 =>
oK (bif (rWant true v11) then some v5 else some undefV) fun v12 =>
oK (bif (rWant true v11) then binop CC .neq 3 true v12 (.s (.int .i64 9)) else some undefV) fun v13 =>
oK (rPick v11 v13 (.s (.bool false))) fun v14 =>
K v14 h6 n7) := Wp.eq_of (by kernel_rfl)
theorem F40_call {t0 : V} {h : Heap} {n : Nat} {K : V → Heap → Nat → Prop} (H : (∀ b o, h.get b = some o → b < n) → Wp CC (bodyOf Go.Proofs.Tryz.f40) ⟨initTm Go.Proofs.Tryz.f40 [t0], h, n, []⟩ (retW CC Go.Proofs.Tryz.f40 K)) : CallK CC 40 [t0] h n K := by
  have := @callK_of CC CCok 40 Go.Proofs.Tryz.f40 (bodyOf Go.Proofs.Tryz.f40) [t0] h n K F40
  refine this ?_ ?_ ?_
  · kernel_rfl
  · kernel_rfl
  · exact H

/-! F41 lockgate/lockgateref06.Target -/
theorem F41 : CC.F.get 41 = some Go.Proofs.Tryz.f41 := by kernel_rfl
theorem F41_eq (t0 t1 : V) (h : Heap) (n : Nat) (K : V → Heap → Nat → Prop) : Wp CC (bodyOf Go.Proofs.Tryz.f41) ⟨initTm Go.Proofs.Tryz.f41 [t0, t1], h, n, []⟩ (retW CC Go.Proofs.Tryz.f41 K) = (
oK (indexAddr CC 22 t0 t1) fun v1 =>
oK (normO (rLoad CC 54 h v1)) fun v2 =>
oK (indexAddr CC 22 t0 t1) fun v3 =>
oK (rFA CC 54 3 v3) fun v4 =>
oK (normO (rLoad CC 3 h v4)) fun v5 =>
CallK CC 75 [t0, t1] h (n + 16) fun v6 h7 n8 =>
(normO (rLoad CC 3 h7 v4) = some v5 ∧ normO (rLoad CC 54 h7 v1) = some v2 ∧ True) ∧
CallK CC 76 [v2] h7 n8 fun v9 h10 n11 =>
(normO (rLoad CC 3 h10 v4) = some v5 ∧ True ∧ True) ∧
oK (binop CC .add 3 false v6 v9) fun v12 =>
oK (binop CC .add 3 false v12 v5) fun v13 =>
LoopK CC none (subC [1, 1, 0, 1, 0, 0] (bodyOf Go.Proofs.Tryz.f41)) ⟨mkTm [t0, t1, undefV, undefV, (.s (.int .i64 0)), v13, (.s (.int .i64 0)), t0, t1, v6, t0, t1, v1, v2, v9, v12, t0, t1, v3, v4, v5, v13, undefV, undefV, undefV, undefV, undefV, undefV, undefV, undefV, undefV, undefV, undefV, undefV], h10, n11, []⟩ (resume CC none [.blk 0, .sq (subC [1, 1, 1] (bodyOf Go.Proofs.Tryz.f41))] (retW CC Go.Proofs.Tryz.f41 K))) := Wp.eq_of (by kernel_rfl)
theorem F41_call {t0 t1 : V} {h : Heap} {n : Nat} {K : V → Heap → Nat → Prop} (H : (∀ b o, h.get b = some o → b < n) → Wp CC (bodyOf Go.Proofs.Tryz.f41) ⟨initTm Go.Proofs.Tryz.f41 [t0, t1], h, n, []⟩ (retW CC Go.Proofs.Tryz.f41 K)) : CallK CC 41 [t0, t1] h n K := by
  have := @callK_of CC CCok 41 Go.Proofs.Tryz.f41 (bodyOf Go.Proofs.Tryz.f41) [t0, t1] h n K F41
  refine this ?_ ?_ ?_
  · kernel_rfl
  · kernel_rfl
  · exact H

def F41_L110100 (t0 t5 t6 : V) (h : Heap) (n : Nat) (s : St) : Prop := ∃ f : Nat → V, s = ⟨mkTm [t0, (f 1), (f 2), (f 3), (f 4), t5, t6, (f 7), (f 8), (f 9), (f 10), (f 11), (f 12), (f 13), (f 14), (f 15), (f 16), (f 17), (f 18), (f 19), (f 20), (f 21), (f 22), (f 23), (f 24), (f 25), (f 26), (f 27), (f 28), (f 29), (f 30), (f 31), (f 32), (f 33)], h, n, []⟩
theorem F41_L110100_of {t0 t5 t6 : V} {t1 t2 t3 t4 t7 t8 t9 t10 t11 t12 t13 t14 t15 t16 t17 t18 t19 t20 t21 t22 t23 t24 t25 t26 t27 t28 t29 t30 t31 t32 t33 : V} {h : Heap} {n : Nat} : F41_L110100 t0 t5 t6 h n ⟨mkTm [t0, t1, t2, t3, t4, t5, t6, t7, t8, t9, t10, t11, t12, t13, t14, t15, t16, t17, t18, t19, t20, t21, t22, t23, t24, t25, t26, t27, t28, t29, t30, t31, t32, t33], h, n, []⟩ :=
  ⟨fun i => ([t0, t1, t2, t3, t4, t5, t6, t7, t8, t9, t10, t11, t12, t13, t14, t15, t16, t17, t18, t19, t20, t21, t22, t23, t24, t25, t26, t27, t28, t29, t30, t31, t32, t33] : List V).getD i undefV, by kernel_rfl⟩
theorem F41_L110100_elim {t0 t5 t6 : V} {h : Heap} {n : Nat} {s : St} {P : St → Prop} (hs : F41_L110100 t0 t5 t6 h n s) (H : ∀ t1 t2 t3 t4 t7 t8 t9 t10 t11 t12 t13 t14 t15 t16 t17 t18 t19 t20 t21 t22 t23 t24 t25 t26 t27 t28 t29 t30 t31 t32 t33 : V, P ⟨mkTm [t0, t1, t2, t3, t4, t5, t6, t7, t8, t9, t10, t11, t12, t13, t14, t15, t16, t17, t18, t19, t20, t21, t22, t23, t24, t25, t26, t27, t28, t29, t30, t31, t32, t33], h, n, []⟩) : P s := by
  obtain ⟨f, rfl⟩ := hs
  exact H (f 1) (f 2) (f 3) (f 4) (f 7) (f 8) (f 9) (f 10) (f 11) (f 12) (f 13) (f 14) (f 15) (f 16) (f 17) (f 18) (f 19) (f 20) (f 21) (f 22) (f 23) (f 24) (f 25) (f 26) (f 27) (f 28) (f 29) (f 30) (f 31) (f 32) (f 33)

theorem F41_b110100 (t0 t1 t2 t3 t4 t5 t6 t7 t8 t9 t10 t11 t12 t13 t14 t15 t16 t17 t18 t19 t20 t21 t22 t23 t24 t25 t26 t27 t28 t29 t30 t31 t32 t33 : V) (h : Heap) (n : Nat) (Q : X → St → Prop) : Wp CC (subC [1, 1, 0, 1, 0, 0] (bodyOf Go.Proofs.Tryz.f41)) ⟨mkTm [t0, t1, t2, t3, t4, t5, t6, t7, t8, t9, t10, t11, t12, t13, t14, t15, t16, t17, t18, t19, t20, t21, t22, t23, t24, t25, t26, t27, t28, t29, t30, t31, t32, t33], h, n, []⟩ Q = (
oK (lenV CC h 22 t0) fun v14 =>
oK (binop CC .lss 3 false t6 v14) fun v15 =>
oK (asBool v15) fun b16 => bif b16 then (
CallK CC 75 [t0, t6] h n fun v17 h18 n19 =>
oK (binop CC .eql 3 false v17 t5) fun v20 =>
oK (asBool v20) fun b21 => bif b21 then (
Q .ret ⟨mkTm [t0, t1, t2, t3, t6, t5, t6, t7, t8, t9, t10, t11, t12, t13, t14, t15, t16, t17, t18, t19, t20, t21, t6, t0, v14, v15, t26, t27, t0, t6, v17, t5, v20, t6], h18, n19, []⟩) else (
oK (binop CC .add 3 true t6 (.s (.int .i64 1))) fun v22 =>
Q .normal ⟨mkTm [t0, t1, t2, t3, t4, t5, v22, t7, t8, t9, t10, t11, t12, t13, t14, t15, t16, t17, t18, t19, t20, t21, t6, t0, v14, v15, t6, v22, t0, t6, v17, t5, v20, t33], h18, n19, []⟩)) else (
Q (.exit 0) ⟨mkTm [t0, t1, t2, t3, t4, t5, t6, t7, t8, t9, t10, t11, t12, t13, t14, t15, t16, t17, t18, t19, t20, t21, t6, t0, v14, v15, t26, t27, t28, t29, t30, t31, t32, t33], h, n, []⟩)) := Wp.eq_of (by kernel_rfl)

theorem F41_r110100_0 (t0 t1 t2 t3 t4 t5 t6 t7 t8 t9 t10 t11 t12 t13 t14 t15 t16 t17 t18 t19 t20 t21 t22 t23 t24 t25 t26 t27 t28 t29 t30 t31 t32 t33 : V) (h : Heap) (n : Nat) (K : V → Heap → Nat → Prop) : resume CC none [.blk 0, .sq (subC [1, 1, 1] (bodyOf Go.Proofs.Tryz.f41))] (retW CC Go.Proofs.Tryz.f41 K) (.exit 0) ⟨mkTm [t0, t1, t2, t3, t4, t5, t6, t7, t8, t9, t10, t11, t12, t13, t14, t15, t16, t17, t18, t19, t20, t21, t22, t23, t24, t25, t26, t27, t28, t29, t30, t31, t32, t33], h, n, []⟩ = (
K (.s (.int .i64 (-1))) h n) := by kernel_rfl

/-! F42 lockgate/lockgateref06.Exit -/
theorem F42 : CC.F.get 42 = some Go.Proofs.Tryz.f42 := by kernel_rfl
theorem F42_eq (t0 : V) (h : Heap) (n : Nat) (K : V → Heap → Nat → Prop) : Wp CC (bodyOf Go.Proofs.Tryz.f42) ⟨initTm Go.Proofs.Tryz.f42 [t0], h, n, []⟩ (retW CC Go.Proofs.Tryz.f42 K) = (
oK (V.cells t0) fun c1 =>
let h2 := h.set n (.cells (.lst c1.toList) 5); let n3 := n + 1;
oK (rFA CC 54 0 (.ptr n 0)) fun v4 =>
oK (normO (rLoad CC 3 h2 v4)) fun v5 =>
oK (binop CC .rem 3 true v5 (.s (.int .i64 8))) fun v6 =>
oK (binop CC .eql 3 true v6 (.s (.int .i64 5))) fun v7 =>
oK (bif (rWant true v7) then rFA CC 54 0 (.ptr n 0) else some undefV) fun v8 =>
oK (bif (rWant true v7) then normO (rLoad CC 3 h2 v8) else some undefV) fun v9 =>
oK (bif (rWant true v7) then binop CC .quo 3 true v9 (.s (.int .i64 16)) else some undefV) fun v10 =>
oK (bif (rWant true v7) then binop CC .eql 3 true v10 (.s (.int .i64 9)) else some undefV) fun v11 =>
oK (rPick v7 v11 (.s (.bool false))) fun v12 =>
K v12 h2 n3) := Wp.eq_of (by kernel_rfl)
theorem F42_call {t0 : V} {h : Heap} {n : Nat} {K : V → Heap → Nat → Prop} (H : (∀ b o, h.get b = some o → b < n) → Wp CC (bodyOf Go.Proofs.Tryz.f42) ⟨initTm Go.Proofs.Tryz.f42 [t0], h, n, []⟩ (retW CC Go.Proofs.Tryz.f42 K)) : CallK CC 42 [t0] h n K := by
  have := @callK_of CC CCok 42 Go.Proofs.Tryz.f42 (bodyOf Go.Proofs.Tryz.f42) [t0] h n K F42
  refine this ?_ ?_ ?_
  · kernel_rfl
  · kernel_rfl
  · exact H

/-! F43 lockgate/lockgateref06.Ja -/
theorem F43 : CC.F.get 43 = some Go.Proofs.Tryz.f43 := by kernel_rfl
theorem F43_eq (t0 : V) (h : Heap) (n : Nat) (K : V → Heap → Nat → Prop) : Wp CC (bodyOf Go.Proofs.Tryz.f43) ⟨initTm Go.Proofs.Tryz.f43 [t0], h, n, []⟩ (retW CC Go.Proofs.Tryz.f43 K) = (
oK (V.cells t0) fun c1 =>
let h2 := h.set n (.cells (.lst c1.toList) 5); let n3 := n + 1;
oK (rFA CC 54 0 (.ptr n 0)) fun v4 =>
oK (normO (rLoad CC 3 h2 v4)) fun v5 =>
oK (binop CC .rem 3 true v5 (.s (.int .i64 8))) fun v6 =>
oK (binop CC .eql 3 true v6 (.s (.int .i64 5))) fun v7 =>
oK (bif (rWant true v7) then rFA CC 54 0 (.ptr n 0) else some undefV) fun v8 =>
oK (bif (rWant true v7) then normO (rLoad CC 3 h2 v8) else some undefV) fun v9 =>
oK (bif (rWant true v7) then binop CC .quo 3 true v9 (.s (.int .i64 16)) else some undefV) fun v10 =>
oK (bif (rWant true v7) then binop CC .eql 3 true v10 (.s (.int .i64 0)) else some undefV) fun v11 =>
oK (rPick v7 v11 (.s (.bool false))) fun v12 =>
K v12 h2 n3) := Wp.eq_of (by kernel_rfl)
theorem F43_call {t0 : V} {h : Heap} {n : Nat} {K : V → Heap → Nat → Prop} (H : (∀ b o, h.get b = some o → b < n) → Wp CC (bodyOf Go.Proofs.Tryz.f43) ⟨initTm Go.Proofs.Tryz.f43 [t0], h, n, []⟩ (retW CC Go.Proofs.Tryz.f43 K)) : CallK CC 43 [t0] h n K := by
  have := @callK_of CC CCok 43 Go.Proofs.Tryz.f43 (bodyOf Go.Proofs.Tryz.f43) [t0] h n K F43
  refine this ?_ ?_ ?_
  · kernel_rfl
  · kernel_rfl
  · exact H

/-! F74 lockgate/lockgateref06.Op -/
theorem F74 : CC.F.get 74 = some Go.Proofs.Tryz.f74 := by kernel_rfl
theorem F74_eq (t0 : V) (h : Heap) (n : Nat) (K : V → Heap → Nat → Prop) : Wp CC (bodyOf Go.Proofs.Tryz.f74) ⟨initTm Go.Proofs.Tryz.f74 [t0], h, n, []⟩ (retW CC Go.Proofs.Tryz.f74 K) = (
oK (V.cells t0) fun c1 =>
let h2 := h.set n (.cells (.lst c1.toList) 5); let n3 := n + 1;
oK (rFA CC 54 0 (.ptr n 0)) fun v4 =>
oK (normO (rLoad CC 3 h2 v4)) fun v5 =>
oK (binop CC .rem 3 true v5 (.s (.int .i64 8))) fun v6 =>
oK (binop CC .eql 3 true v6 (.s (.int .i64 5))) fun v7 =>
oK (bif (rWant false v7) then rFA CC 54 0 (.ptr n 0) else some undefV) fun v8 =>
oK (bif (rWant false v7) then normO (rLoad CC 3 h2 v8) else some undefV) fun v9 =>
oK (bif (rWant false v7) then binop CC .rem 3 true v9 (.s (.int .i64 8)) else some undefV) fun v10 =>
oK (bif (rWant false v7) then binop CC .eql 3 true v10 (.s (.int .i64 6)) else some undefV) fun v11 =>
oK (rPick v7 (.s (.bool true)) v11) fun v12 =>
oK (asBool v12) fun b13 => bif b13 then (
oK (rFA CC 54 0 (.ptr n 0)) fun v14 =>
oK (normO (rLoad CC 3 h2 v14)) fun v15 =>
oK (binop CC .quo 3 true v15 (.s (.int .i64 16))) fun v16 =>
K v16 h2 n3) else (
K (.s (.int .i64 (-1))) h2 n3)) := Wp.eq_of (by kernel_rfl)
theorem F74_call {t0 : V} {h : Heap} {n : Nat} {K : V → Heap → Nat → Prop} (H : (∀ b o, h.get b = some o → b < n) → Wp CC (bodyOf Go.Proofs.Tryz.f74) ⟨initTm Go.Proofs.Tryz.f74 [t0], h, n, []⟩ (retW CC Go.Proofs.Tryz.f74 K)) : CallK CC 74 [t0] h n K := by
  have := @callK_of CC CCok 74 Go.Proofs.Tryz.f74 (bodyOf Go.Proofs.Tryz.f74) [t0] h n K F74
  refine this ?_ ?_ ?_
  · kernel_rfl
  · kernel_rfl
  · exact H

/-! F75 lockgate/lockgateref06.Slot -/
theorem F75 : CC.F.get 75 = some Go.Proofs.Tryz.f75 := by kernel_rfl
theorem F75_eq (t0 t1 : V) (h : Heap) (n : Nat) (K : V → Heap → Nat → Prop) : Wp CC (bodyOf Go.Proofs.Tryz.f75) ⟨initTm Go.Proofs.Tryz.f75 [t0, t1], h, n, []⟩ (retW CC Go.Proofs.Tryz.f75 K) = (
LoopK CC none (subC [1, 1, 0, 1, 0, 0] (bodyOf Go.Proofs.Tryz.f75)) ⟨mkTm [t0, t1, undefV, undefV, (.s (.int .i64 0)), (.s (.int .i64 0)), (.s (.int .i64 0)), undefV, undefV, undefV, undefV, undefV, undefV, undefV, undefV, undefV, undefV, undefV, undefV, undefV], h, n, []⟩ (resume CC none [.blk 0, .sq (subC [1, 1, 1] (bodyOf Go.Proofs.Tryz.f75))] (retW CC Go.Proofs.Tryz.f75 K))) := Wp.eq_of (by kernel_rfl)
theorem F75_call {t0 t1 : V} {h : Heap} {n : Nat} {K : V → Heap → Nat → Prop} (H : (∀ b o, h.get b = some o → b < n) → Wp CC (bodyOf Go.Proofs.Tryz.f75) ⟨initTm Go.Proofs.Tryz.f75 [t0, t1], h, n, []⟩ (retW CC Go.Proofs.Tryz.f75 K)) : CallK CC 75 [t0, t1] h n K := by
  have := @callK_of CC CCok 75 Go.Proofs.Tryz.f75 (bodyOf Go.Proofs.Tryz.f75) [t0, t1] h n K F75
  refine this ?_ ?_ ?_
  · kernel_rfl
  · kernel_rfl
  · exact H

def F75_L110100 (t0 t1 t5 t6 : V) (h : Heap) (n : Nat) (s : St) : Prop := ∃ f : Nat → V, s = ⟨mkTm [t0, t1, (f 2), (f 3), (f 4), t5, t6, (f 7), (f 8), (f 9), (f 10), (f 11), (f 12), (f 13), (f 14), (f 15), (f 16), (f 17), (f 18), (f 19)], h, n, []⟩
theorem F75_L110100_of {t0 t1 t5 t6 : V} {t2 t3 t4 t7 t8 t9 t10 t11 t12 t13 t14 t15 t16 t17 t18 t19 : V} {h : Heap} {n : Nat} : F75_L110100 t0 t1 t5 t6 h n ⟨mkTm [t0, t1, t2, t3, t4, t5, t6, t7, t8, t9, t10, t11, t12, t13, t14, t15, t16, t17, t18, t19], h, n, []⟩ :=
  ⟨fun i => ([t0, t1, t2, t3, t4, t5, t6, t7, t8, t9, t10, t11, t12, t13, t14, t15, t16, t17, t18, t19] : List V).getD i undefV, by kernel_rfl⟩
theorem F75_L110100_elim {t0 t1 t5 t6 : V} {h : Heap} {n : Nat} {s : St} {P : St → Prop} (hs : F75_L110100 t0 t1 t5 t6 h n s) (H : ∀ t2 t3 t4 t7 t8 t9 t10 t11 t12 t13 t14 t15 t16 t17 t18 t19 : V, P ⟨mkTm [t0, t1, t2, t3, t4, t5, t6, t7, t8, t9, t10, t11, t12, t13, t14, t15, t16, t17, t18, t19], h, n, []⟩) : P s := by
  obtain ⟨f, rfl⟩ := hs
  exact H (f 2) (f 3) (f 4) (f 7) (f 8) (f 9) (f 10) (f 11) (f 12) (f 13) (f 14) (f 15) (f 16) (f 17) (f 18) (f 19)

theorem F75_b110100 (t0 t1 t2 t3 t4 t5 t6 t7 t8 t9 t10 t11 t12 t13 t14 t15 t16 t17 t18 t19 : V) (h : Heap) (n : Nat) (Q : X → St → Prop) : Wp CC (subC [1, 1, 0, 1, 0, 0] (bodyOf Go.Proofs.Tryz.f75)) ⟨mkTm [t0, t1, t2, t3, t4, t5, t6, t7, t8, t9, t10, t11, t12, t13, t14, t15, t16, t17, t18, t19], h, n, []⟩ Q = (
oK (binop CC .lss 3 false t6 t1) fun v1 =>
oK (asBool v1) fun b2 => bif b2 then (
oK (indexAddr CC 22 t0 t6) fun v3 =>
oK (normO (rLoad CC 54 h v3)) fun v4 =>
CallK CC 76 [v4] h n fun v5 h6 n7 =>
oK (binop CC .add 3 false t5 v5) fun v8 =>
oK (binop CC .add 3 true t6 (.s (.int .i64 1))) fun v9 =>
Q .normal ⟨mkTm [t0, t1, t2, t3, t4, v8, v9, t6, t1, v1, t6, v9, t5, t0, t6, v3, v4, v5, v8, t19], h6, n7, []⟩) else (
Q (.exit 0) ⟨mkTm [t0, t1, t2, t3, t4, t5, t6, t6, t1, v1, t10, t11, t12, t13, t14, t15, t16, t17, t18, t19], h, n, []⟩)) := Wp.eq_of (by kernel_rfl)

theorem F75_r110100_0 (t0 t1 t2 t3 t4 t5 t6 t7 t8 t9 t10 t11 t12 t13 t14 t15 t16 t17 t18 t19 : V) (h : Heap) (n : Nat) (K : V → Heap → Nat → Prop) : resume CC none [.blk 0, .sq (subC [1, 1, 1] (bodyOf Go.Proofs.Tryz.f75))] (retW CC Go.Proofs.Tryz.f75 K) (.exit 0) ⟨mkTm [t0, t1, t2, t3, t4, t5, t6, t7, t8, t9, t10, t11, t12, t13, t14, t15, t16, t17, t18, t19], h, n, []⟩ = (
K t5 h n) := by kernel_rfl

/-! F76 lockgate/lockgateref02.Size -/
theorem F76 : CC.F.get 76 = some Go.Proofs.Tryz.f76 := by kernel_rfl
theorem F76_eq (t0 : V) (h : Heap) (n : Nat) (K : V → Heap → Nat → Prop) : Wp CC (bodyOf Go.Proofs.Tryz.f76) ⟨initTm Go.Proofs.Tryz.f76 [t0], h, n, []⟩ (retW CC Go.Proofs.Tryz.f76 K) = (
oK (V.cells t0) fun c1 =>
let h2 := h.set n (.cells (.lst c1.toList) 5); let n3 := n + 1;
oK (rFA CC 54 0 (.ptr n 0)) fun v4 =>
oK (normO (rLoad CC 3 h2 v4)) fun v5 =>
oK (binop CC .eql 3 true v5 (.s (.int .i64 24))) fun v6 =>
oK (asBool v6) fun b7 => bif b7 then (
K (.s (.int .i64 2)) h2 n3) else (
K (.s (.int .i64 1)) h2 n3)) := Wp.eq_of (by kernel_rfl)
theorem F76_call {t0 : V} {h : Heap} {n : Nat} {K : V → Heap → Nat → Prop} (H : (∀ b o, h.get b = some o → b < n) → Wp CC (bodyOf Go.Proofs.Tryz.f76) ⟨initTm Go.Proofs.Tryz.f76 [t0], h, n, []⟩ (retW CC Go.Proofs.Tryz.f76 K)) : CallK CC 76 [t0] h n K := by
  have := @callK_of CC CCok 76 Go.Proofs.Tryz.f76 (bodyOf Go.Proofs.Tryz.f76) [t0] h n K F76
  refine this ?_ ?_ ?_
  · kernel_rfl
  · kernel_rfl
  · exact H

end Go.Ev
