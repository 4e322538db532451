import Derived.Test.YtkcdhdilifolfaaGreatRI
namespace Go.Ev
set_option linter.unusedVariables false
/-! F84 bytes.Clone -/
theorem F84 : CC.F.get 84 = some Go.Proofs.Tryz.f84 := by kernel_rfl
theorem F84_eq (t0 : V) (h : Heap) (n : Nat) (K : V → Heap → Nat → Prop) : Wp CC (bodyOf Go.Proofs.Tryz.f84) ⟨initTm Go.Proofs.Tryz.f84 [t0], h, n, []⟩ (retW CC Go.Proofs.Tryz.f84 K) = (
oK (binop CC .eql 23 true t0 (.s (.slice none 0 0))) fun v1 =>
oK (asBool v1) fun b2 => bif b2 then (
K (.s (.slice none 0 0)) h n) else (
fillK 1 ((zr CC 5).rep 0) [] fun c3 =>
let h4 := h.set n (.cells (.lst c3) 1); let n5 := n + 1;
appendK CC h4 n5 23 23 (.slice n 0 0 0 false) t0 fun v6 h7 n8 =>
K v6 h7 n8)) := Wp.eq_of (by kernel_rfl)
theorem F84_call {t0 : V} {h : Heap} {n : Nat} {K : V → Heap → Nat → Prop} (H : (∀ b o, h.get b = some o → b < n) → Wp CC (bodyOf Go.Proofs.Tryz.f84) ⟨initTm Go.Proofs.Tryz.f84 [t0], h, n, []⟩ (retW CC Go.Proofs.Tryz.f84 K)) : CallK CC 84 [t0] h n K := by
  have := @callK_of CC CCok 84 Go.Proofs.Tryz.f84 (bodyOf Go.Proofs.Tryz.f84) [t0] h n K F84
  refine this ?_ ?_ ?_
  · kernel_rfl
  · kernel_rfl
  · exact H

/-! F85 (*lockgate/cells.Cells).part -/
theorem F85 : CC.F.get 85 = some Go.Proofs.Tryz.f85 := by kernel_rfl
theorem F85_eq (t0 t1 t2 t3 : V) (h : Heap) (n : Nat) (K : V → Heap → Nat → Prop) : Wp CC (bodyOf Go.Proofs.Tryz.f85) ⟨initTm Go.Proofs.Tryz.f85 [t0, t1, t2, t3], h, n, []⟩ (retW CC Go.Proofs.Tryz.f85 K) = (
oK (rNil t0) fun v1 =>
oK (rFA CC 117 0 v1) fun v2 =>
oK (normO (rLoad CC 115 h v2)) fun v3 =>
oK (lookup CC h 115 v3 t1 true) fun v4 =>
oK (rExt v4 0) fun v5 =>
oK (rExt v4 1) fun v6 =>
oK (rUn CC .not v6) fun v7 =>
let k8 := fun (v9 : V) (h10 : Heap) (n11 : Nat) => (
oK (bif (rWant false v7) then some t3 else some undefV) fun v12 =>
let k13 := fun (v14 : V) (h15 : Heap) (n16 : Nat) => (
oK (bif (rWant false v7) then rUn CC .not v14 else some undefV) fun v17 =>
oK (rPick v7 (.s (.bool true)) v17) fun v18 =>
oK (bif (rWant false v18) then some t2 else some undefV) fun v19 =>
oK (bif (rWant false v18) then binop CC .lss 3 true v19 (.s (.int .i64 0)) else some undefV) fun v20 =>
oK (rPick v18 (.s (.bool true)) v20) fun v21 =>
oK (bif (rWant false v21) then some t2 else some undefV) fun v22 =>
oK (bif (rWant false v21) then some v5 else some undefV) fun v23 =>
oK (bif (rWant false v21) then rNil v23 else some undefV) fun v24 =>
oK (bif (rWant false v21) then rFA CC 179 0 v24 else some undefV) fun v25 =>
oK (bif (rWant false v21) then normO (rLoad CC 23 h15 v25) else some undefV) fun v26 =>
oK (bif (rWant false v21) then lenV CC h15 23 v26 else some undefV) fun v27 =>
oK (bif (rWant false v21) then binop CC .gtr 3 false v22 v27 else some undefV) fun v28 =>
oK (rPick v21 (.s (.bool true)) v28) fun v29 =>
oK (bif (rWant false v29) then some t3 else some undefV) fun v30 =>
oK (bif (rWant false v29) then some v5 else some undefV) fun v31 =>
oK (bif (rWant false v29) then rNil v31 else some undefV) fun v32 =>
oK (bif (rWant false v29) then rFA CC 179 0 v32 else some undefV) fun v33 =>
oK (bif (rWant false v29) then normO (rLoad CC 23 h15 v33) else some undefV) fun v34 =>
oK (bif (rWant false v29) then lenV CC h15 23 v34 else some undefV) fun v35 =>
oK (bif (rWant false v29) then some t2 else some undefV) fun v36 =>
oK (bif (rWant false v29) then binop CC .sub 3 false v35 v36 else some undefV) fun v37 =>
oK (bif (rWant false v29) then binop CC .gtr 3 false v30 v37 else some undefV) fun v38 =>
oK (rPick v29 (.s (.bool true)) v38) fun v39 =>
oK (asBool v39) fun b40 => bif b40 then (
K (.tup [(.s (.pointer none)), (.s (.slice none 0 0)), (.s (.bool false))]) h15 n16) else (
oK (rNil v5) fun v41 =>
oK (rFA CC 179 0 v41) fun v42 =>
oK (normO (rLoad CC 23 h15 v42)) fun v43 =>
oK (binop CC .add 3 false t2 t3) fun v44 =>
oK (sliceOp CC 23 v43 (some t2) (some v44) none) fun v45 =>
K (.tup [v5, v45, (.s (.bool true))]) h15 (n16 + 13)));
bif (rWant false v7) then (CallK CC 114 [v9, v12] h10 n11 fun v46 h47 n48 =>
k13 v46 h47 n48) else k13 undefV h10 n11);
bif (rWant false v7) then (fillK 1 ((zr CC 3).rep 4) [(0, (.s (.int .i64 1))), (1, (.s (.int .i64 2))), (2, (.s (.int .i64 4))), (3, (.s (.int .i64 8)))] fun c49 =>
let h50 := h.set n (.cells (.lst c49) 1); let n51 := n + 1;
k8 (.slice n 0 4 4 false) h50 n51) else k8 undefV h n) := Wp.eq_of (by kernel_rfl)
theorem F85_call {t0 t1 t2 t3 : V} {h : Heap} {n : Nat} {K : V → Heap → Nat → Prop} (H : (∀ b o, h.get b = some o → b < n) → Wp CC (bodyOf Go.Proofs.Tryz.f85) ⟨initTm Go.Proofs.Tryz.f85 [t0, t1, t2, t3], h, n, []⟩ (retW CC Go.Proofs.Tryz.f85 K)) : CallK CC 85 [t0, t1, t2, t3] h n K := by
  have := @callK_of CC CCok 85 Go.Proofs.Tryz.f85 (bodyOf Go.Proofs.Tryz.f85) [t0, t1, t2, t3] h n K F85
  refine this ?_ ?_ ?_
  · kernel_rfl
  · kernel_rfl
  · exact H

/-! F86 (*lockgate/cells.Cells).gone -/
theorem F86 : CC.F.get 86 = some Go.Proofs.Tryz.f86 := by kernel_rfl
theorem F86_eq (t0 : V) (h : Heap) (n : Nat) (K : V → Heap → Nat → Prop) : Wp CC (bodyOf Go.Proofs.Tryz.f86) ⟨initTm Go.Proofs.Tryz.f86 [t0], h, n, []⟩ (retW CC Go.Proofs.Tryz.f86 K) = (
LoopK CC none (subC [1, 1, 0, 1, 0, 0] (bodyOf Go.Proofs.Tryz.f86)) ⟨mkTm [t0, undefV, (.s (.slice none 0 0)), (.s (.slice none 0 0)), (.s (.int .i64 1)), undefV, undefV, undefV, undefV, undefV, undefV, undefV, undefV, undefV, undefV, undefV, undefV, undefV, undefV, undefV, undefV, undefV, undefV, undefV, undefV, undefV, undefV, undefV, undefV, undefV, undefV, undefV, undefV, undefV, undefV, undefV], h, n, []⟩ (resume CC none [.blk 0, .sq (subC [1, 1, 1] (bodyOf Go.Proofs.Tryz.f86))] (retW CC Go.Proofs.Tryz.f86 K))) := Wp.eq_of (by kernel_rfl)
theorem F86_call {t0 : V} {h : Heap} {n : Nat} {K : V → Heap → Nat → Prop} (H : (∀ b o, h.get b = some o → b < n) → Wp CC (bodyOf Go.Proofs.Tryz.f86) ⟨initTm Go.Proofs.Tryz.f86 [t0], h, n, []⟩ (retW CC Go.Proofs.Tryz.f86 K)) : CallK CC 86 [t0] h n K := by
  have := @callK_of CC CCok 86 Go.Proofs.Tryz.f86 (bodyOf Go.Proofs.Tryz.f86) [t0] h n K F86
  refine this ?_ ?_ ?_
  · kernel_rfl
  · kernel_rfl
  · exact H

def F86_L110100 (t0 t3 t4 : V) (h : Heap) (n : Nat) (s : St) : Prop := ∃ f : Nat → V, s = ⟨mkTm [t0, (f 1), (f 2), t3, t4, (f 5), (f 6), (f 7), (f 8), (f 9), (f 10), (f 11), (f 12), (f 13), (f 14), (f 15), (f 16), (f 17), (f 18), (f 19), (f 20), (f 21), (f 22), (f 23), (f 24), (f 25), (f 26), (f 27), (f 28), (f 29), (f 30), (f 31), (f 32), (f 33), (f 34), (f 35)], h, n, []⟩
theorem F86_L110100_of {t0 t3 t4 : V} {t1 t2 t5 t6 t7 t8 t9 t10 t11 t12 t13 t14 t15 t16 t17 t18 t19 t20 t21 t22 t23 t24 t25 t26 t27 t28 t29 t30 t31 t32 t33 t34 t35 : V} {h : Heap} {n : Nat} : F86_L110100 t0 t3 t4 h n ⟨mkTm [t0, t1, t2, t3, t4, t5, t6, t7, t8, t9, t10, t11, t12, t13, t14, t15, t16, t17, t18, t19, t20, t21, t22, t23, t24, t25, t26, t27, t28, t29, t30, t31, t32, t33, t34, t35], h, n, []⟩ :=
  ⟨fun i => ([t0, t1, t2, t3, t4, t5, t6, t7, t8, t9, t10, t11, t12, t13, t14, t15, t16, t17, t18, t19, t20, t21, t22, t23, t24, t25, t26, t27, t28, t29, t30, t31, t32, t33, t34, t35] : List V).getD i undefV, by kernel_rfl⟩
theorem F86_L110100_elim {t0 t3 t4 : V} {h : Heap} {n : Nat} {s : St} {P : St → Prop} (hs : F86_L110100 t0 t3 t4 h n s) (H : ∀ t1 t2 t5 t6 t7 t8 t9 t10 t11 t12 t13 t14 t15 t16 t17 t18 t19 t20 t21 t22 t23 t24 t25 t26 t27 t28 t29 t30 t31 t32 t33 t34 t35 : V, P ⟨mkTm [t0, t1, t2, t3, t4, t5, t6, t7, t8, t9, t10, t11, t12, t13, t14, t15, t16, t17, t18, t19, t20, t21, t22, t23, t24, t25, t26, t27, t28, t29, t30, t31, t32, t33, t34, t35], h, n, []⟩) : P s := by
  obtain ⟨f, rfl⟩ := hs
  exact H (f 1) (f 2) (f 5) (f 6) (f 7) (f 8) (f 9) (f 10) (f 11) (f 12) (f 13) (f 14) (f 15) (f 16) (f 17) (f 18) (f 19) (f 20) (f 21) (f 22) (f 23) (f 24) (f 25) (f 26) (f 27) (f 28) (f 29) (f 30) (f 31) (f 32) (f 33) (f 34) (f 35)

theorem F86_b110100 (t0 t1 t2 t3 t4 t5 t6 t7 t8 t9 t10 t11 t12 t13 t14 t15 t16 t17 t18 t19 t20 t21 t22 t23 t24 t25 t26 t27 t28 t29 t30 t31 t32 t33 t34 t35 : V) (h : Heap) (n : Nat) (Q : X → St → Prop) : Wp CC (subC [1, 1, 0, 1, 0, 0] (bodyOf Go.Proofs.Tryz.f86)) ⟨mkTm [t0, t1, t2, t3, t4, t5, t6, t7, t8, t9, t10, t11, t12, t13, t14, t15, t16, t17, t18, t19, t20, t21, t22, t23, t24, t25, t26, t27, t28, t29, t30, t31, t32, t33, t34, t35], h, n, []⟩ Q = (
oK (rNil t0) fun v1 =>
oK (rFA CC 117 1 v1) fun v2 =>
oK (normO (rLoad CC 3 h v2)) fun v3 =>
oK (binop CC .leq 3 false t4 v3) fun v4 =>
oK (asBool v4) fun b5 => bif b5 then (
oK (rNil t0) fun v6 =>
oK (rFA CC 117 0 v6) fun v7 =>
oK (normO (rLoad CC 115 h v7)) fun v8 =>
oK (lookup CC h 115 v8 t4 true) fun v9 =>
oK (rExt v9 0) fun v10 =>
oK (rExt v9 1) fun v11 =>
oK (bif (rWant true v11) then some v10 else some undefV) fun v12 =>
oK (bif (rWant true v11) then rNil v12 else some undefV) fun v13 =>
oK (bif (rWant true v11) then rFA CC 179 3 v13 else some undefV) fun v14 =>
oK (bif (rWant true v11) then normO (rLoad CC 4 h v14) else some undefV) fun v15 =>
oK (rPick v11 v15 (.s (.bool false))) fun v16 =>
oK (asBool v16) fun b17 => bif b17 then (
fillK 1 ((zr CC 3).rep 1) [(0, t4)] fun c18 =>
let h19 := h.set n (.cells (.lst c18) 1); let n20 := n + 1;
appendK CC h19 n20 122 122 t3 (.slice n 0 1 1 false) fun v21 h22 n23 =>
oK (binop CC .add 3 true t4 (.s (.int .i64 1))) fun v24 =>
Q .normal ⟨mkTm [t0, t1, t2, v21, v24, v10, v11, t4, t0, v1, v2, v3, v4, t4, v24, v9, t0, v6, v7, v8, t4, v9, v10, v11, v11, v11, v12, v13, v14, v15, v16, t3, t4, (.slice n 0 1 1 false), v21, t35], h22, n23, []⟩) else (
oK (binop CC .add 3 true t4 (.s (.int .i64 1))) fun v25 =>
Q .normal ⟨mkTm [t0, t1, t2, t3, v25, v10, v11, t4, t0, v1, v2, v3, v4, t4, v25, v9, t0, v6, v7, v8, t4, v9, v10, v11, v11, v11, v12, v13, v14, v15, v16, t31, t32, t33, t34, t35], h, n, []⟩)) else (
Q (.exit 0) ⟨mkTm [t0, t1, t2, t3, t4, t5, t6, t4, t0, v1, v2, v3, v4, t13, t14, t15, t16, t17, t18, t19, t20, t21, t22, t23, t24, t25, t26, t27, t28, t29, t30, t31, t32, t33, t34, t35], h, n, []⟩)) := Wp.eq_of (by kernel_rfl)

theorem F86_r110100_0 (t0 t1 t2 t3 t4 t5 t6 t7 t8 t9 t10 t11 t12 t13 t14 t15 t16 t17 t18 t19 t20 t21 t22 t23 t24 t25 t26 t27 t28 t29 t30 t31 t32 t33 t34 t35 : V) (h : Heap) (n : Nat) (K : V → Heap → Nat → Prop) : resume CC none [.blk 0, .sq (subC [1, 1, 1] (bodyOf Go.Proofs.Tryz.f86))] (retW CC Go.Proofs.Tryz.f86 K) (.exit 0) ⟨mkTm [t0, t1, t2, t3, t4, t5, t6, t7, t8, t9, t10, t11, t12, t13, t14, t15, t16, t17, t18, t19, t20, t21, t22, t23, t24, t25, t26, t27, t28, t29, t30, t31, t32, t33, t34, t35], h, n, []⟩ = (
K t3 h n) := by kernel_rfl

/-! F106 lockgate/phase.New -/
theorem F106 : CC.F.get 106 = some Go.Proofs.Tryz.f106 := by kernel_rfl
theorem F106_eq (h : Heap) (n : Nat) (K : V → Heap → Nat → Prop) : Wp CC (bodyOf Go.Proofs.Tryz.f106) ⟨initTm Go.Proofs.Tryz.f106 ([] : List V), h, n, []⟩ (retW CC Go.Proofs.Tryz.f106 K) = (
let h1 := h.set n (.cells (.lst (zr CC 177).toList) 3); let n2 := n + 1;
oK (normO (build CC 177 [])) fun v3 =>
oK (asPtr (.ptr n 0)) fun p4 => oK (store CC h1 177 p4.1 p4.2 v3) fun h5 =>
oK (resultsOf CC (mkTm [(.ptr n 0), v3]) h5 [.cell 0 177]) fun vs => K (oneOf vs) h5 n2) := Wp.eq_of (by kernel_rfl)
theorem F106_call {h : Heap} {n : Nat} {K : V → Heap → Nat → Prop} (H : (∀ b o, h.get b = some o → b < n) → Wp CC (bodyOf Go.Proofs.Tryz.f106) ⟨initTm Go.Proofs.Tryz.f106 ([] : List V), h, n, []⟩ (retW CC Go.Proofs.Tryz.f106 K)) : CallK CC 106 [] h n K := by
  have := @callK_of CC CCok 106 Go.Proofs.Tryz.f106 (bodyOf Go.Proofs.Tryz.f106) [] h n K F106
  refine this ?_ ?_ ?_
  · kernel_rfl
  · kernel_rfl
  · exact H

/-! F107 (*lockgate/lru.Lru).at -/
theorem F107 : CC.F.get 107 = some Go.Proofs.Tryz.f107 := by kernel_rfl
theorem F107_eq (t0 t1 : V) (h : Heap) (n : Nat) (K : V → Heap → Nat → Prop) : Wp CC (bodyOf Go.Proofs.Tryz.f107) ⟨initTm Go.Proofs.Tryz.f107 [t0, t1], h, n, []⟩ (retW CC Go.Proofs.Tryz.f107 K) = (
oK (V.cells t1) fun c1 =>
let h2 := h.set n (.cells (.lst c1.toList) 1); let n3 := n + 1;
oK (rNil t0) fun v4 =>
oK (rFA CC 171 2 v4) fun v5 =>
oK (normO (rLoad CC 169 h2 v5)) fun v6 =>
CallK CC 132 [v6, (.func (.func 133) [] [(.ptr n 0)])] h2 n3 fun v7 h8 n9 =>
K v7 h8 n9) := Wp.eq_of (by kernel_rfl)
theorem F107_call {t0 t1 : V} {h : Heap} {n : Nat} {K : V → Heap → Nat → Prop} (H : (∀ b o, h.get b = some o → b < n) → Wp CC (bodyOf Go.Proofs.Tryz.f107) ⟨initTm Go.Proofs.Tryz.f107 [t0, t1], h, n, []⟩ (retW CC Go.Proofs.Tryz.f107 K)) : CallK CC 107 [t0, t1] h n K := by
  have := @callK_of CC CCok 107 Go.Proofs.Tryz.f107 (bodyOf Go.Proofs.Tryz.f107) [t0, t1] h n K F107
  refine this ?_ ?_ ?_
  · kernel_rfl
  · kernel_rfl
  · exact H

/-! F108 (lockgate/phase.Beat).Write -/
theorem F108 : CC.F.get 108 = some Go.Proofs.Tryz.f108 := by kernel_rfl
theorem F108_eq (t0 t1 : V) (h : Heap) (n : Nat) (K : V → Heap → Nat → Prop) : Wp CC (bodyOf Go.Proofs.Tryz.f108) ⟨initTm Go.Proofs.Tryz.f108 [t0, t1], h, n, []⟩ (retW CC Go.Proofs.Tryz.f108 K) = (
oK (V.cells t0) fun c1 =>
let h2 := h.set n (.cells (.lst c1.toList) 3); let n3 := n + 1;
let h4 := h2.set n3 (.cells (.lst (zr CC 177).toList) 3); let n5 := n3 + 1;
oK (rFA CC 177 0 (.ptr n 0)) fun v6 =>
oK (normO (rLoad CC 175 h4 v6)) fun v7 =>
oK (rFA CC 177 1 (.ptr n 0)) fun v8 =>
oK (normO (rLoad CC 3 h4 v8)) fun v9 =>
oK (binop CC .add 3 true v9 (.s (.int .i64 1))) fun v10 =>
CallK CC 134 [t1] h4 (n5 + 11) fun v11 h12 n13 =>
(normO (rLoad CC 3 h12 v8) = some v9 ∧ normO (rLoad CC 175 h12 v6) = some v7 ∧ True) ∧
oK (binop CC .add 175 false v7 v11) fun v14 =>
oK (normO (build CC 177 [(0, v14), (1, v10), (2, t1)])) fun v15 =>
oK (asPtr (.ptr n3 0)) fun p16 => oK (store CC h12 177 p16.1 p16.2 v15) fun h17 =>
(True ∧ True ∧ True) ∧
oK (resultsOf CC (mkTm [t0, t1, (.ptr n 0), undefV, (.ptr n3 0), v6, v7, t1, v11, v14, v8, v9, v10, t1, v15]) h17 [.cell 4 177]) fun vs => K (oneOf vs) h17 n13) := Wp.eq_of (by kernel_rfl)
theorem F108_call {t0 t1 : V} {h : Heap} {n : Nat} {K : V → Heap → Nat → Prop} (H : (∀ b o, h.get b = some o → b < n) → Wp CC (bodyOf Go.Proofs.Tryz.f108) ⟨initTm Go.Proofs.Tryz.f108 [t0, t1], h, n, []⟩ (retW CC Go.Proofs.Tryz.f108 K)) : CallK CC 108 [t0, t1] h n K := by
  have := @callK_of CC CCok 108 Go.Proofs.Tryz.f108 (bodyOf Go.Proofs.Tryz.f108) [t0, t1] h n K F108
  refine this ?_ ?_ ?_
  · kernel_rfl
  · kernel_rfl
  · exact H

/-! F109 (*lockgate/hash.Hash).place -/
theorem F109 : CC.F.get 109 = some Go.Proofs.Tryz.f109 := by kernel_rfl
theorem F109_eq (t0 t1 : V) (h : Heap) (n : Nat) (K : V → Heap → Nat → Prop) : Wp CC (bodyOf Go.Proofs.Tryz.f109) ⟨initTm Go.Proofs.Tryz.f109 [t0, t1], h, n, []⟩ (retW CC Go.Proofs.Tryz.f109 K) = (
oK (V.cells t0) fun c1 =>
let h2 := h.set n (.cells (.lst c1.toList) 1); let n3 := n + 1;
oK (V.cells t1) fun c4 =>
let h5 := h2.set n3 (.cells (.lst c4.toList) 1); let n6 := n3 + 1;
let h7 := h5.set n6 (.cells (.lst (zr CC 3).toList) 1); let n8 := n6 + 1;
oK (normO (rLoad CC 23 h7 (.ptr n3 0))) fun v9 =>
oK (lenV CC h7 23 v9) fun v10 =>
oK (normO (rLoad CC 127 h7 (.ptr n 0))) fun v11 =>
oK (rNil v11) fun v12 =>
oK (rFA CC 168 0 v12) fun v13 =>
oK (normO (rLoad CC 3 h7 v13)) fun v14 =>
oK (binop CC .neq 3 false v10 v14) fun v15 =>
oK (asBool v15) fun b16 => bif b16 then (
oK (asPtr (.ptr n6 0)) fun p17 => oK (store CC h7 3 p17.1 p17.2 (.s (.int .i64 (-1)))) fun h18 =>
oK (resultsOf CC (mkTm [t0, t1, (.ptr n 0), (.ptr n3 0), (.ptr n6 0), undefV, v9, v10, v11, v12, v13, v14, v15, undefV, undefV, undefV, undefV, undefV, undefV, undefV, undefV, undefV, undefV, undefV, undefV, undefV, undefV, undefV, undefV, undefV, undefV, undefV, undefV, undefV, undefV, undefV, undefV, undefV, undefV, undefV, undefV, undefV, undefV]) h18 [.cell 4 3]) fun vs => K (oneOf vs) h18 (n8 + 7)) else (
oK (normO (rLoad CC 127 h7 (.ptr n 0))) fun v19 =>
oK (normO (rLoad CC 23 h7 (.ptr n3 0))) fun v20 =>
CallK CC 110 [v19, v20] h7 (n8 + 7) fun v21 h22 n23 =>
CodeK CC none (subC [1, 1, 0, 1, 0] (bodyOf Go.Proofs.Tryz.f109)) ⟨mkTm [t0, t1, (.ptr n 0), (.ptr n3 0), (.ptr n6 0), undefV, v9, v10, v11, v12, v13, v14, v15, v19, v20, v21, undefV, undefV, undefV, undefV, undefV, undefV, undefV, undefV, undefV, undefV, undefV, undefV, undefV, undefV, undefV, undefV, undefV, undefV, undefV, undefV, undefV, undefV, undefV, undefV, undefV, undefV, undefV], h22, n23, []⟩ (resume CC none [.blk 0, .sq (subC [1, 1, 1] (bodyOf Go.Proofs.Tryz.f109))] (retW CC Go.Proofs.Tryz.f109 K)))) := Wp.eq_of (by kernel_rfl)
theorem F109_call {t0 t1 : V} {h : Heap} {n : Nat} {K : V → Heap → Nat → Prop} (H : (∀ b o, h.get b = some o → b < n) → Wp CC (bodyOf Go.Proofs.Tryz.f109) ⟨initTm Go.Proofs.Tryz.f109 [t0, t1], h, n, []⟩ (retW CC Go.Proofs.Tryz.f109 K)) : CallK CC 109 [t0, t1] h n K := by
  have := @callK_of CC CCok 109 Go.Proofs.Tryz.f109 (bodyOf Go.Proofs.Tryz.f109) [t0, t1] h n K F109
  refine this ?_ ?_ ?_
  · kernel_rfl
  · kernel_rfl
  · exact H

theorem F109_r11010 (t0 t1 t2 t3 t4 t5 t6 t7 t8 t9 t10 t11 t12 t13 t14 t15 t16 t17 t18 t19 t20 t21 t22 t23 t24 t25 t26 t27 t28 t29 t30 t31 t32 t33 t34 t35 t36 t37 t38 t39 t40 t41 t42 : V) (h : Heap) (n : Nat) (d : Nat) (K : V → Heap → Nat → Prop) : resume CC none [.blk 0, .sq (subC [1, 1, 1] (bodyOf Go.Proofs.Tryz.f109))] (retW CC Go.Proofs.Tryz.f109 K) .normal ⟨mkTm [t0, t1, t2, t3, t4, t5, t6, t7, t8, t9, t10, t11, t12, t13, t14, t15, t16, t17, t18, t19, t20, t21, t22, t23, t24, t25, t26, t27, t28, t29, t30, t31, t32, t33, t34, t35, t36, t37, t38, t39, t40, t41, t42], h, n, [d]⟩ = (
oK (asPtr t4) fun p24 => oK (store CC h 3 p24.1 p24.2 (.s (.int .i64 (-1)))) fun h25 =>
oK (dropDefs [d] h25) fun h26 => oK (resultsOf CC (mkTm [t0, t1, t2, t3, t4, t5, t6, t7, t8, t9, t10, t11, t12, t13, t14, t15, t16, t17, t18, t19, t20, t21, t22, t23, t24, t25, t26, t27, t28, t29, t30, t31, t32, t33, t34, t35, t36, t37, t38, t39, t40, t41, t42]) h26 [.cell 4 3]) fun vs => K (oneOf vs) h26 n) := by kernel_rfl

theorem F109_r11010_ret (t0 t1 t2 t3 t4 t5 t6 t7 t8 t9 t10 t11 t12 t13 t14 t15 t16 t17 t18 t19 t20 t21 t22 t23 t24 t25 t26 t27 t28 t29 t30 t31 t32 t33 t34 t35 t36 t37 t38 t39 t40 t41 t42 : V) (h : Heap) (n : Nat) (d : Nat) (K : V → Heap → Nat → Prop) : resume CC none [.blk 0, .sq (subC [1, 1, 1] (bodyOf Go.Proofs.Tryz.f109))] (retW CC Go.Proofs.Tryz.f109 K) .ret ⟨mkTm [t0, t1, t2, t3, t4, t5, t6, t7, t8, t9, t10, t11, t12, t13, t14, t15, t16, t17, t18, t19, t20, t21, t22, t23, t24, t25, t26, t27, t28, t29, t30, t31, t32, t33, t34, t35, t36, t37, t38, t39, t40, t41, t42], h, n, [d]⟩ = (
oK (dropDefs [d] h) fun h27 => oK (resultsOf CC (mkTm [t0, t1, t2, t3, t4, t5, t6, t7, t8, t9, t10, t11, t12, t13, t14, t15, t16, t17, t18, t19, t20, t21, t22, t23, t24, t25, t26, t27, t28, t29, t30, t31, t32, t33, t34, t35, t36, t37, t38, t39, t40, t41, t42]) h27 [.cell 4 3]) fun vs => K (oneOf vs) h27 n) := by kernel_rfl

theorem F109_r11010_0 (t0 t1 t2 t3 t4 t5 t6 t7 t8 t9 t10 t11 t12 t13 t14 t15 t16 t17 t18 t19 t20 t21 t22 t23 t24 t25 t26 t27 t28 t29 t30 t31 t32 t33 t34 t35 t36 t37 t38 t39 t40 t41 t42 : V) (h : Heap) (n : Nat) (d : Nat) (K : V → Heap → Nat → Prop) : resume CC none [.blk 0, .sq (subC [1, 1, 1] (bodyOf Go.Proofs.Tryz.f109))] (retW CC Go.Proofs.Tryz.f109 K) (.exit 0) ⟨mkTm [t0, t1, t2, t3, t4, t5, t6, t7, t8, t9, t10, t11, t12, t13, t14, t15, t16, t17, t18, t19, t20, t21, t22, t23, t24, t25, t26, t27, t28, t29, t30, t31, t32, t33, t34, t35, t36, t37, t38, t39, t40, t41, t42], h, n, [d]⟩ = (
oK (asPtr t4) fun p28 => oK (store CC h 3 p28.1 p28.2 (.s (.int .i64 (-1)))) fun h29 =>
oK (dropDefs [d] h29) fun h30 => oK (resultsOf CC (mkTm [t0, t1, t2, t3, t4, t5, t6, t7, t8, t9, t10, t11, t12, t13, t14, t15, t16, t17, t18, t19, t20, t21, t22, t23, t24, t25, t26, t27, t28, t29, t30, t31, t32, t33, t34, t35, t36, t37, t38, t39, t40, t41, t42]) h30 [.cell 4 3]) fun vs => K (oneOf vs) h30 n) := by kernel_rfl

theorem F109_f11010 : (subC [1, 1, 0, 1, 0] (bodyOf Go.Proofs.Tryz.f109)) = .rangeFunc (.tmp 15) #[16] (subC [1, 1, 0, 1, 0, 0] (bodyOf Go.Proofs.Tryz.f109)) (subC [1, 1, 0, 1, 0, 1] (bodyOf Go.Proofs.Tryz.f109)) := by kernel_rfl
theorem F109_g110100 (t0 t1 t2 t3 t4 t5 t6 t7 t8 t9 t10 t11 t12 t13 t14 t15 t16 t17 t18 t19 t20 t21 t22 t23 t24 t25 t26 t27 t28 t29 t30 t31 t32 t33 t34 t35 t36 t37 t38 t39 t40 t41 t42 : V) (l : Nat) (h : Heap) (n : Nat) (Q : X → St → Prop) : wpC CC (some l) (subC [1, 1, 0, 1, 0, 0] (bodyOf Go.Proofs.Tryz.f109)) ⟨mkTm [t0, t1, t2, t3, t4, t5, t6, t7, t8, t9, t10, t11, t12, t13, t14, t15, t16, t17, t18, t19, t20, t21, t22, t23, t24, t25, t26, t27, t28, t29, t30, t31, t32, t33, t34, t35, t36, t37, t38, t39, t40, t41, t42], h, n, []⟩ Q = (
Q .normal ⟨mkTm [t0, t1, t2, t3, t4, t16, t6, t7, t8, t9, t10, t11, t12, t13, t14, t15, t16, t17, t18, t19, t20, t21, t22, t23, t24, t25, t26, t27, t28, t29, t30, t31, t32, t33, t34, t35, t36, t37, t38, t39, t40, t41, t42], h, n, []⟩) := by kernel_rfl

theorem F109_g110101 (t0 t1 t2 t3 t4 t5 t6 t7 t8 t9 t10 t11 t12 t13 t14 t15 t16 t17 t18 t19 t20 t21 t22 t23 t24 t25 t26 t27 t28 t29 t30 t31 t32 t33 t34 t35 t36 t37 t38 t39 t40 t41 t42 : V) (l : Nat) (h : Heap) (n : Nat) (Q : X → St → Prop) : wpC CC (some l) (subC [1, 1, 0, 1, 0, 1] (bodyOf Go.Proofs.Tryz.f109)) ⟨mkTm [t0, t1, t2, t3, t4, t5, t6, t7, t8, t9, t10, t11, t12, t13, t14, t15, t16, t17, t18, t19, t20, t21, t22, t23, t24, t25, t26, t27, t28, t29, t30, t31, t32, t33, t34, t35, t36, t37, t38, t39, t40, t41, t42], h, n, []⟩ Q = (
oK (normO (rLoad CC 127 h t2)) fun v31 =>
oK (rNil v31) fun v32 =>
oK (rFA CC 168 4 v32) fun v33 =>
oK (normO (rLoad CC 23 h v33)) fun v34 =>
oK (indexAddr CC 23 v34 t5) fun v35 =>
oK (normO (rLoad CC 5 h v35)) fun v36 =>
oK (binop CC .eql 5 true v36 (.s (.int .u8 0))) fun v37 =>
oK (asBool v37) fun b38 => bif b38 then (
oK (asPtr t4) fun p39 => oK (store CC h 3 p39.1 p39.2 (.s (.int .i64 (-1)))) fun h40 =>
Q .ret ⟨mkTm [t0, t1, t2, t3, t4, t5, t6, t7, t8, t9, t10, t11, t12, t13, t14, t15, t16, v37, v31, v32, v33, v34, t5, v35, v36, v37, t26, t27, t28, t29, t30, t31, t32, t33, t34, t35, t36, t37, t38, t39, t40, t41, t42], h40, n, []⟩) else (
oK (normO (rLoad CC 127 h t2)) fun v41 =>
oK (rNil v41) fun v42 =>
oK (rFA CC 168 4 v42) fun v43 =>
oK (normO (rLoad CC 23 h v43)) fun v44 =>
oK (indexAddr CC 23 v44 t5) fun v45 =>
oK (normO (rLoad CC 5 h v45)) fun v46 =>
oK (binop CC .eql 5 true v46 (.s (.int .u8 1))) fun v47 =>
oK ((bif (rWant true v47) then normO (rLoad CC 127 h t2) else some undefV)) fun v48 =>
oK (bif (rWant true v47) then some t5 else some undefV) fun v49 =>
oK ((bif (rWant true v47) then normO (rLoad CC 23 h t3) else some undefV)) fun v50 =>
let k51 := fun (v52 : V) (h53 : Heap) (n54 : Nat) => (
((bif (rWant true v47) then normO (rLoad CC 23 h53 t3) else some undefV) = some v50 ∧ True ∧ True ∧ True ∧ True ∧ True) ∧
let k55 := fun (v56 : V) (h57 : Heap) (n58 : Nat) => (
(True ∧ True ∧ True ∧ True ∧ True ∧ True) ∧
oK (rPick v47 v56 (.s (.bool false))) fun v59 =>
oK (asBool v59) fun b60 => bif b60 then (
oK (asPtr t4) fun p61 => oK (store CC h57 3 p61.1 p61.2 t5) fun h62 =>
Q .ret ⟨mkTm [t0, t1, t2, t3, t4, t5, t6, t7, t8, t9, t10, t11, t12, t13, t14, t15, t16, v37, v31, v32, v33, v34, t5, v35, v36, v37, v59, v41, v42, v43, v44, t5, v45, v46, v47, v47, v48, v49, v52, v50, v56, v59, t5], h62, n58, []⟩) else (
Q .normal ⟨mkTm [t0, t1, t2, t3, t4, t5, t6, t7, t8, t9, t10, t11, t12, t13, t14, t15, t16, v37, v31, v32, v33, v34, t5, v35, v36, v37, v59, v41, v42, v43, v44, t5, v45, v46, v47, v47, v48, v49, v52, v50, v56, v59, t42], h57, n58, []⟩));
bif (rWant true v47) then (CallK CC 135 [v52, v50] h53 n54 fun v63 h64 n65 =>
k55 v63 h64 n65) else k55 undefV h53 n54);
bif (rWant true v47) then (CallK CC 111 [v48, v49] h (n + 16) fun v66 h67 n68 =>
k51 v66 h67 n68) else k51 undefV h (n + 16))) := by kernel_rfl

theorem F109_R11010 {t0 t1 t2 t3 t4 t5 t6 t7 t8 t9 t10 t11 t12 t13 t14 t15 t16 t17 t18 t19 t20 t21 t22 t23 t24 t25 t26 t27 t28 t29 t30 t31 t32 t33 t34 t35 t36 t37 t38 t39 t40 t41 t42 : V} (x : V) {l : Nat} {h : Heap} {n : Nat} {pend : Option Code} {K : V → Heap → Nat → Prop} (hl : h.get l = some (.loop .ready pend (mkTm [t0, t1, t2, t3, t4, t5, t6, t7, t8, t9, t10, t11, t12, t13, t14, t15, t16, t17, t18, t19, t20, t21, t22, t23, t24, t25, t26, t27, t28, t29, t30, t31, t32, t33, t34, t35, t36, t37, t38, t39, t40, t41, t42]) [16] (subC [1, 1, 0, 1, 0, 0] (bodyOf Go.Proofs.Tryz.f109)) (subC [1, 1, 0, 1, 0, 1] (bodyOf Go.Proofs.Tryz.f109)))) (H : wpC CC (some l) (subC [1, 1, 0, 1, 0, 1] (bodyOf Go.Proofs.Tryz.f109)) ⟨mkTm [t0, t1, t2, t3, t4, x, t6, t7, t8, t9, t10, t11, t12, t13, t14, t15, x, t17, t18, t19, t20, t21, t22, t23, t24, t25, t26, t27, t28, t29, t30, t31, t32, t33, t34, t35, t36, t37, t38, t39, t40, t41, t42], h.set l (.loop .busy pend (mkTm [t0, t1, t2, t3, t4, t5, t6, t7, t8, t9, t10, t11, t12, t13, t14, t15, t16, t17, t18, t19, t20, t21, t22, t23, t24, t25, t26, t27, t28, t29, t30, t31, t32, t33, t34, t35, t36, t37, t38, t39, t40, t41, t42]) [16] (subC [1, 1, 0, 1, 0, 0] (bodyOf Go.Proofs.Tryz.f109)) (subC [1, 1, 0, 1, 0, 1] (bodyOf Go.Proofs.Tryz.f109))), n, []⟩ fun x s2 => oK (endRound x l s2.h s2.n) fun r => K r.1 r.2.1 r.2.2) : RoundK CC l [x] h n K :=
  roundK hl (tm1 := mkTm [t0, t1, t2, t3, t4, t5, t6, t7, t8, t9, t10, t11, t12, t13, t14, t15, x, t17, t18, t19, t20, t21, t22, t23, t24, t25, t26, t27, t28, t29, t30, t31, t32, t33, t34, t35, t36, t37, t38, t39, t40, t41, t42]) (by kernel_rfl) (wpC_sound CCok (some l) _ _ _ (by
    rw [F109_g110100]
    refine ⟨rfl, ?_⟩
    simp only [setBusy, hl, oK_some]
    exact wpC_sound CCok (some l) _ _ _ H))

theorem F109_E11010 {t0 t1 t2 t3 t4 t5 t6 t7 t8 t9 t10 t11 t12 t13 t14 t15 t16 t17 t18 t19 t20 t21 t22 t23 t24 t25 t26 t27 t28 t29 t30 t31 t32 t33 t34 t35 t36 t37 t38 t39 t40 t41 t42 : V} {h : Heap} {n : Nat} {Q : X → St → Prop} {g : FuncId} {first caps : List V} (hf : t15 = .func (.func g) first caps) (hc : CallK CC g (first ++ [.yield (n + 1)] ++ caps) ((h.set n .defd).set (n + 1) (.loop .ready none (mkTm [t0, t1, t2, t3, t4, t5, t6, t7, t8, t9, t10, t11, t12, t13, t14, t15, t16, t17, t18, t19, t20, t21, t22, t23, t24, t25, t26, t27, t28, t29, t30, t31, t32, t33, t34, t35, t36, t37, t38, t39, t40, t41, t42]) [16] (subC [1, 1, 0, 1, 0, 0] (bodyOf Go.Proofs.Tryz.f109)) (subC [1, 1, 0, 1, 0, 1] (bodyOf Go.Proofs.Tryz.f109)))) (n + 2) fun _ h' n' => oK (endLoop (n + 1) h') fun e => Q e.1 ⟨mkTm [t0, t1, t2, t3, t4, t5, t6, t7, t8, t9, t10, t11, t12, t13, t14, t15, t16, t17, t18, t19, t20, t21, t22, t23, t24, t25, t26, t27, t28, t29, t30, t31, t32, t33, t34, t35, t36, t37, t38, t39, t40, t41, t42], e.2, n', [n]⟩) : CodeK CC none (subC [1, 1, 0, 1, 0] (bodyOf Go.Proofs.Tryz.f109)) ⟨mkTm [t0, t1, t2, t3, t4, t5, t6, t7, t8, t9, t10, t11, t12, t13, t14, t15, t16, t17, t18, t19, t20, t21, t22, t23, t24, t25, t26, t27, t28, t29, t30, t31, t32, t33, t34, t35, t36, t37, t38, t39, t40, t41, t42], h, n, []⟩ Q := by
  rw [F109_f11010]
  refine rangeFuncK (q := (n + 1, ⟨mkTm [t0, t1, t2, t3, t4, t5, t6, t7, t8, t9, t10, t11, t12, t13, t14, t15, t16, t17, t18, t19, t20, t21, t22, t23, t24, t25, t26, t27, t28, t29, t30, t31, t32, t33, t34, t35, t36, t37, t38, t39, t40, t41, t42], (h.set n .defd).set (n + 1) (.loop .ready none (mkTm [t0, t1, t2, t3, t4, t5, t6, t7, t8, t9, t10, t11, t12, t13, t14, t15, t16, t17, t18, t19, t20, t21, t22, t23, t24, t25, t26, t27, t28, t29, t30, t31, t32, t33, t34, t35, t36, t37, t38, t39, t40, t41, t42]) [16] (subC [1, 1, 0, 1, 0, 0] (bodyOf Go.Proofs.Tryz.f109)) (subC [1, 1, 0, 1, 0, 1] (bodyOf Go.Proofs.Tryz.f109))), n + 2, [n]⟩)) ?_ (by rfl) hc
  rw [← hf]
  exact (by kernel_rfl : evalT CC (mkTm [t0, t1, t2, t3, t4, t5, t6, t7, t8, t9, t10, t11, t12, t13, t14, t15, t16, t17, t18, t19, t20, t21, t22, t23, t24, t25, t26, t27, t28, t29, t30, t31, t32, t33, t34, t35, t36, t37, t38, t39, t40, t41, t42]) (.tmp 15) = some t15)

/-! F110 (*lockgate/hash.Hash).way -/
theorem F110 : CC.F.get 110 = some Go.Proofs.Tryz.f110 := by kernel_rfl
theorem F110_eq (t0 t1 : V) (h : Heap) (n : Nat) (K : V → Heap → Nat → Prop) : Wp CC (bodyOf Go.Proofs.Tryz.f110) ⟨initTm Go.Proofs.Tryz.f110 [t0, t1], h, n, []⟩ (retW CC Go.Proofs.Tryz.f110 K) = (
oK (V.cells t0) fun c1 =>
let h2 := h.set n (.cells (.lst c1.toList) 1); let n3 := n + 1;
oK (V.cells t1) fun c4 =>
let h5 := h2.set n3 (.cells (.lst c4.toList) 1); let n6 := n3 + 1;
K (.func (.func 136) [] [(.ptr n3 0), (.ptr n 0)]) h5 n6) := Wp.eq_of (by kernel_rfl)
theorem F110_call {t0 t1 : V} {h : Heap} {n : Nat} {K : V → Heap → Nat → Prop} (H : (∀ b o, h.get b = some o → b < n) → Wp CC (bodyOf Go.Proofs.Tryz.f110) ⟨initTm Go.Proofs.Tryz.f110 [t0, t1], h, n, []⟩ (retW CC Go.Proofs.Tryz.f110 K)) : CallK CC 110 [t0, t1] h n K := by
  have := @callK_of CC CCok 110 Go.Proofs.Tryz.f110 (bodyOf Go.Proofs.Tryz.f110) [t0, t1] h n K F110
  refine this ?_ ?_ ?_
  · kernel_rfl
  · kernel_rfl
  · exact H

/-! F111 (*lockgate/hash.Hash).at -/
theorem F111 : CC.F.get 111 = some Go.Proofs.Tryz.f111 := by kernel_rfl
theorem F111_eq (t0 t1 : V) (h : Heap) (n : Nat) (K : V → Heap → Nat → Prop) : Wp CC (bodyOf Go.Proofs.Tryz.f111) ⟨initTm Go.Proofs.Tryz.f111 [t0, t1], h, n, []⟩ (retW CC Go.Proofs.Tryz.f111 K) = (
oK (rNil t0) fun v1 =>
oK (rFA CC 168 3 v1) fun v2 =>
oK (normO (rLoad CC 23 h v2)) fun v3 =>
oK (rNil t0) fun v4 =>
oK (rFA CC 168 0 v4) fun v5 =>
oK (normO (rLoad CC 3 h v5)) fun v6 =>
oK (binop CC .mul 3 false t1 v6) fun v7 =>
oK (binop CC .add 3 true t1 (.s (.int .i64 1))) fun v8 =>
oK (rNil t0) fun v9 =>
oK (rFA CC 168 0 v9) fun v10 =>
oK (normO (rLoad CC 3 h v10)) fun v11 =>
oK (binop CC .mul 3 false v8 v11) fun v12 =>
oK (binop CC .add 3 true t1 (.s (.int .i64 1))) fun v13 =>
oK (rNil t0) fun v14 =>
oK (rFA CC 168 0 v14) fun v15 =>
oK (normO (rLoad CC 3 h v15)) fun v16 =>
oK (binop CC .mul 3 false v13 v16) fun v17 =>
oK (sliceOp CC 23 v3 (some v7) (some v12) (some v17)) fun v18 =>
K v18 h (n + 26)) := Wp.eq_of (by kernel_rfl)
theorem F111_call {t0 t1 : V} {h : Heap} {n : Nat} {K : V → Heap → Nat → Prop} (H : (∀ b o, h.get b = some o → b < n) → Wp CC (bodyOf Go.Proofs.Tryz.f111) ⟨initTm Go.Proofs.Tryz.f111 [t0, t1], h, n, []⟩ (retW CC Go.Proofs.Tryz.f111 K)) : CallK CC 111 [t0, t1] h n K := by
  have := @callK_of CC CCok 111 Go.Proofs.Tryz.f111 (bodyOf Go.Proofs.Tryz.f111) [t0, t1] h n K F111
  refine this ?_ ?_ ?_
  · kernel_rfl
  · kernel_rfl
  · exact H

/-! F112 (*lockgate/lru.Lru).out -/
theorem F112 : CC.F.get 112 = some Go.Proofs.Tryz.f112 := by kernel_rfl
theorem F112_eq (t0 t1 : V) (h : Heap) (n : Nat) (K : V → Heap → Nat → Prop) : Wp CC (bodyOf Go.Proofs.Tryz.f112) ⟨initTm Go.Proofs.Tryz.f112 [t0, t1], h, n, []⟩ (retW CC Go.Proofs.Tryz.f112 K) = (
let h1 := h.set n (.cells (.lst (zr CC 209).toList) 2); let n2 := n + 1;
oK (rNil t0) fun v3 =>
oK (rFA CC 171 2 v3) fun v4 =>
oK (normO (rLoad CC 169 h1 v4)) fun v5 =>
oK (indexAddr CC 169 v5 t1) fun v6 =>
oK (normO (rLoad CC 209 h1 v6)) fun v7 =>
let h8 := h1.set n2 (.cells (.lst (zr CC 209).toList) 2); let n9 := n2 + 1;
oK (asPtr (.ptr n2 0)) fun p10 => oK (store CC h8 209 p10.1 p10.2 v7) fun h11 =>
oK (rNil t0) fun v12 =>
oK (rFA CC 171 2 v12) fun v13 =>
oK (normO (rLoad CC 169 h11 v13)) fun v14 =>
oK (sliceOp CC 169 v14 none (some t1) (some t1)) fun v15 =>
oK (rNil t0) fun v16 =>
oK (rFA CC 171 2 v16) fun v17 =>
oK (normO (rLoad CC 169 h11 v17)) fun v18 =>
oK (binop CC .add 3 true t1 (.s (.int .i64 1))) fun v19 =>
oK (sliceOp CC 169 v18 (some v19) none none) fun v20 =>
appendK CC h11 (n9 + 19) 169 169 v15 v20 fun v21 h22 n23 =>
(True ∧ True ∧ True) ∧
oK (rNil t0) fun v24 =>
oK (rFA CC 171 2 v24) fun v25 =>
oK (asPtr v25) fun p26 => oK (store CC h22 169 p26.1 p26.2 v21) fun h27 =>
(True ∧ True ∧ True) ∧
oK (normO (rLoad CC 209 h27 (.ptr n2 0))) fun v28 =>
oK (asPtr (.ptr n 0)) fun p29 => oK (store CC h27 209 p29.1 p29.2 v28) fun h30 =>
oK (resultsOf CC (mkTm [t0, t1, undefV, undefV, (.ptr n 0), (.ptr n2 0), t0, v3, v4, v5, t1, v6, v7, t0, t0, v12, v13, v14, t1, t1, v15, t0, v16, v17, v18, t1, v19, v20, v21, v24, v25, v28]) h30 [.cell 4 209]) fun vs => K (oneOf vs) h30 n23) := Wp.eq_of (by kernel_rfl)
theorem F112_call {t0 t1 : V} {h : Heap} {n : Nat} {K : V → Heap → Nat → Prop} (H : (∀ b o, h.get b = some o → b < n) → Wp CC (bodyOf Go.Proofs.Tryz.f112) ⟨initTm Go.Proofs.Tryz.f112 [t0, t1], h, n, []⟩ (retW CC Go.Proofs.Tryz.f112 K)) : CallK CC 112 [t0, t1] h n K := by
  have := @callK_of CC CCok 112 Go.Proofs.Tryz.f112 (bodyOf Go.Proofs.Tryz.f112) [t0, t1] h n K F112
  refine this ?_ ?_ ?_
  · kernel_rfl
  · kernel_rfl
  · exact H

/-! F113 (*lockgate/lru.Lru).first -/
theorem F113 : CC.F.get 113 = some Go.Proofs.Tryz.f113 := by kernel_rfl
theorem F113_eq (t0 t1 : V) (h : Heap) (n : Nat) (K : V → Heap → Nat → Prop) : Wp CC (bodyOf Go.Proofs.Tryz.f113) ⟨initTm Go.Proofs.Tryz.f113 [t0, t1], h, n, []⟩ (retW CC Go.Proofs.Tryz.f113 K) = (
oK (V.cells t1) fun c1 =>
let h2 := h.set n (.cells (.lst c1.toList) 2); let n3 := n + 1;
oK (normO (rLoad CC 209 h2 (.ptr n 0))) fun v4 =>
oK (fillA 2 ((zr CC 209).rep 1) [(0, v4)]) fun c5 =>
oK (rNil t0) fun v6 =>
oK (rFA CC 171 2 v6) fun v7 =>
oK (normO (rLoad CC 169 h2 v7)) fun v8 =>
appendK CC (h2.set (n3 + 2) (.cells c5 2)) (n3 + 11) 169 169 (.slice (n3 + 2) 0 1 1 false) v8 fun v9 h10 n11 =>
(True ∧ True ∧ True) ∧
oK (rNil t0) fun v12 =>
oK (rFA CC 171 2 v12) fun v13 =>
oK (asPtr v13) fun p14 => oK (store CC h10 169 p14.1 p14.2 v9) fun h15 =>
(True ∧ True ∧ True) ∧
K (.tup []) h15 n11) := Wp.eq_of (by kernel_rfl)
theorem F113_call {t0 t1 : V} {h : Heap} {n : Nat} {K : V → Heap → Nat → Prop} (H : (∀ b o, h.get b = some o → b < n) → Wp CC (bodyOf Go.Proofs.Tryz.f113) ⟨initTm Go.Proofs.Tryz.f113 [t0, t1], h, n, []⟩ (retW CC Go.Proofs.Tryz.f113 K)) : CallK CC 113 [t0, t1] h n K := by
  have := @callK_of CC CCok 113 Go.Proofs.Tryz.f113 (bodyOf Go.Proofs.Tryz.f113) [t0, t1] h n K F113
  refine this ?_ ?_ ?_
  · kernel_rfl
  · kernel_rfl
  · exact H

/-! F114 slices.Contains[[]int,int] -/
theorem F114 : CC.F.get 114 = some Go.Proofs.Tryz.f114 := by kernel_rfl
theorem F114_eq (t0 t1 : V) (h : Heap) (n : Nat) (K : V → Heap → Nat → Prop) : Wp CC (bodyOf Go.Proofs.Tryz.f114) ⟨initTm Go.Proofs.Tryz.f114 [t0, t1], h, n, []⟩ (retW CC Go.Proofs.Tryz.f114 K) = (
CallK CC 138 [t0, t1] h n fun v1 h2 n3 =>
oK (binop CC .geq 3 true v1 (.s (.int .i64 0))) fun v4 =>
K v4 h2 n3) := Wp.eq_of (by kernel_rfl)
theorem F114_call {t0 t1 : V} {h : Heap} {n : Nat} {K : V → Heap → Nat → Prop} (H : (∀ b o, h.get b = some o → b < n) → Wp CC (bodyOf Go.Proofs.Tryz.f114) ⟨initTm Go.Proofs.Tryz.f114 [t0, t1], h, n, []⟩ (retW CC Go.Proofs.Tryz.f114 K)) : CallK CC 114 [t0, t1] h n K := by
  have := @callK_of CC CCok 114 Go.Proofs.Tryz.f114 (bodyOf Go.Proofs.Tryz.f114) [t0, t1] h n K F114
  refine this ?_ ?_ ?_
  · kernel_rfl
  · kernel_rfl
  · exact H

/-! F132 slices.IndexFunc[[]lockgate/lru.row,lockgate/lru.row] -/
theorem F132 : CC.F.get 132 = some Go.Proofs.Tryz.f132 := by kernel_rfl
theorem F132_eq (t0 t1 : V) (h : Heap) (n : Nat) (K : V → Heap → Nat → Prop) : Wp CC (bodyOf Go.Proofs.Tryz.f132) ⟨initTm Go.Proofs.Tryz.f132 [t0, t1], h, n, []⟩ (retW CC Go.Proofs.Tryz.f132 K) = (
oK (lenV CC h 169 t0) fun v1 =>
LoopK CC none (subC [1, 0, 1, 0, 0] (bodyOf Go.Proofs.Tryz.f132)) ⟨mkTm [t0, t1, undefV, undefV, (.s (.int .i64 0)), undefV, t0, v1, (.s (.int .i64 0)), undefV, undefV, undefV, undefV, undefV, undefV, undefV, undefV, undefV, undefV], h, n, []⟩ (resume CC none [.blk 0, .sq (subC [1, 1] (bodyOf Go.Proofs.Tryz.f132))] (retW CC Go.Proofs.Tryz.f132 K))) := Wp.eq_of (by kernel_rfl)
theorem F132_call {t0 t1 : V} {h : Heap} {n : Nat} {K : V → Heap → Nat → Prop} (H : (∀ b o, h.get b = some o → b < n) → Wp CC (bodyOf Go.Proofs.Tryz.f132) ⟨initTm Go.Proofs.Tryz.f132 [t0, t1], h, n, []⟩ (retW CC Go.Proofs.Tryz.f132 K)) : CallK CC 132 [t0, t1] h n K := by
  have := @callK_of CC CCok 132 Go.Proofs.Tryz.f132 (bodyOf Go.Proofs.Tryz.f132) [t0, t1] h n K F132
  refine this ?_ ?_ ?_
  · kernel_rfl
  · kernel_rfl
  · exact H

def F132_L10100 (t0 t1 t7 t8 : V) (h : Heap) (n : Nat) (s : St) : Prop := ∃ f : Nat → V, s = ⟨mkTm [t0, t1, (f 2), (f 3), (f 4), (f 5), (f 6), t7, t8, (f 9), (f 10), (f 11), (f 12), (f 13), (f 14), (f 15), (f 16), (f 17), (f 18)], h, n, []⟩
theorem F132_L10100_of {t0 t1 t7 t8 : V} {t2 t3 t4 t5 t6 t9 t10 t11 t12 t13 t14 t15 t16 t17 t18 : V} {h : Heap} {n : Nat} : F132_L10100 t0 t1 t7 t8 h n ⟨mkTm [t0, t1, t2, t3, t4, t5, t6, t7, t8, t9, t10, t11, t12, t13, t14, t15, t16, t17, t18], h, n, []⟩ :=
  ⟨fun i => ([t0, t1, t2, t3, t4, t5, t6, t7, t8, t9, t10, t11, t12, t13, t14, t15, t16, t17, t18] : List V).getD i undefV, by kernel_rfl⟩
theorem F132_L10100_elim {t0 t1 t7 t8 : V} {h : Heap} {n : Nat} {s : St} {P : St → Prop} (hs : F132_L10100 t0 t1 t7 t8 h n s) (H : ∀ t2 t3 t4 t5 t6 t9 t10 t11 t12 t13 t14 t15 t16 t17 t18 : V, P ⟨mkTm [t0, t1, t2, t3, t4, t5, t6, t7, t8, t9, t10, t11, t12, t13, t14, t15, t16, t17, t18], h, n, []⟩) : P s := by
  obtain ⟨f, rfl⟩ := hs
  exact H (f 2) (f 3) (f 4) (f 5) (f 6) (f 9) (f 10) (f 11) (f 12) (f 13) (f 14) (f 15) (f 16) (f 17) (f 18)

theorem F132_b10100 (t0 t1 t2 t3 t4 t5 t6 t7 t8 t9 t10 t11 t12 t13 t14 t15 t16 t17 t18 : V) (h : Heap) (n : Nat) (Q : X → St → Prop) : Wp CC (subC [1, 0, 1, 0, 0] (bodyOf Go.Proofs.Tryz.f132)) ⟨mkTm [t0, t1, t2, t3, t4, t5, t6, t7, t8, t9, t10, t11, t12, t13, t14, t15, t16, t17, t18], h, n, []⟩ Q = (
oK (binop CC .lss 3 false t8 t7) fun v2 =>
oK (asBool v2) fun b3 => bif b3 then (
oK (indexAddr CC 169 t0 t8) fun v4 =>
oK (normO (rLoad CC 209 h v4)) fun v5 =>
callV CC t1 [v5] h n fun v6 h7 n8 =>
oK (asBool v6) fun b9 => bif b9 then (
Q .ret ⟨mkTm [t0, t1, t2, t3, t8, t8, t6, t7, t8, v2, t8, t1, t0, t8, v4, v5, v6, t8, t18], h7, n8, []⟩) else (
oK (binop CC .add 3 true t8 (.s (.int .i64 1))) fun v10 =>
Q .normal ⟨mkTm [t0, t1, t2, t3, t4, t8, t6, t7, v10, v2, t8, t1, t0, t8, v4, v5, v6, t17, v10], h7, n8, []⟩)) else (
Q (.exit 0) ⟨mkTm [t0, t1, t2, t3, t4, t5, t6, t7, t8, v2, t10, t11, t12, t13, t14, t15, t16, t17, t18], h, n, []⟩)) := Wp.eq_of (by kernel_rfl)

theorem F132_r10100_0 (t0 t1 t2 t3 t4 t5 t6 t7 t8 t9 t10 t11 t12 t13 t14 t15 t16 t17 t18 : V) (h : Heap) (n : Nat) (K : V → Heap → Nat → Prop) : resume CC none [.blk 0, .sq (subC [1, 1] (bodyOf Go.Proofs.Tryz.f132))] (retW CC Go.Proofs.Tryz.f132 K) (.exit 0) ⟨mkTm [t0, t1, t2, t3, t4, t5, t6, t7, t8, t9, t10, t11, t12, t13, t14, t15, t16, t17, t18], h, n, []⟩ = (
K (.s (.int .i64 (-1))) h n) := by kernel_rfl

/-! F133 (*lockgate/lru.Lru).at$1 -/
theorem F133 : CC.F.get 133 = some Go.Proofs.Tryz.f133 := by kernel_rfl
theorem F133_eq (t0 t1 : V) (h : Heap) (n : Nat) (K : V → Heap → Nat → Prop) : Wp CC (bodyOf Go.Proofs.Tryz.f133) ⟨initTm Go.Proofs.Tryz.f133 [t0, t1], h, n, []⟩ (retW CC Go.Proofs.Tryz.f133 K) = (
oK (V.cells t0) fun c1 =>
let h2 := h.set n (.cells (.lst c1.toList) 2); let n3 := n + 1;
oK (rFA CC 209 0 (.ptr n 0)) fun v4 =>
oK (normO (rLoad CC 9 h2 v4)) fun v5 =>
oK (normO (rLoad CC 23 h2 t1)) fun v6 =>
oK (convert CC h2 23 9 v6) fun v7 =>
oK (binop CC .eql 9 false v5 v7) fun v8 =>
K v8 h2 n3) := Wp.eq_of (by kernel_rfl)
theorem F133_call {t0 t1 : V} {h : Heap} {n : Nat} {K : V → Heap → Nat → Prop} (H : (∀ b o, h.get b = some o → b < n) → Wp CC (bodyOf Go.Proofs.Tryz.f133) ⟨initTm Go.Proofs.Tryz.f133 [t0, t1], h, n, []⟩ (retW CC Go.Proofs.Tryz.f133 K)) : CallK CC 133 [t0, t1] h n K := by
  have := @callK_of CC CCok 133 Go.Proofs.Tryz.f133 (bodyOf Go.Proofs.Tryz.f133) [t0, t1] h n K F133
  refine this ?_ ?_ ?_
  · kernel_rfl
  · kernel_rfl
  · exact H

/-! F134 lockgate/phase.arrow -/
theorem F134 : CC.F.get 134 = some Go.Proofs.Tryz.f134 := by kernel_rfl
theorem F134_eq (t0 : V) (h : Heap) (n : Nat) (K : V → Heap → Nat → Prop) : Wp CC (bodyOf Go.Proofs.Tryz.f134) ⟨initTm Go.Proofs.Tryz.f134 [t0], h, n, []⟩ (retW CC Go.Proofs.Tryz.f134 K) = (
oK (binop CC .and 3 true t0 (.s (.int .i64 3))) fun v1 =>
LoopK CC none (subC [1, 1, 0, 1, 0, 0] (bodyOf Go.Proofs.Tryz.f134)) ⟨mkTm [t0, undefV, (.s (.complex .f64 0 0)), (.s (.complex .f64 4607182418800017408 0)), t0, v1, (.s (.int .i64 0)), undefV, undefV, undefV, undefV, undefV], h, n, []⟩ (resume CC none [.blk 0, .sq (subC [1, 1, 1] (bodyOf Go.Proofs.Tryz.f134))] (retW CC Go.Proofs.Tryz.f134 K))) := Wp.eq_of (by kernel_rfl)
theorem F134_call {t0 : V} {h : Heap} {n : Nat} {K : V → Heap → Nat → Prop} (H : (∀ b o, h.get b = some o → b < n) → Wp CC (bodyOf Go.Proofs.Tryz.f134) ⟨initTm Go.Proofs.Tryz.f134 [t0], h, n, []⟩ (retW CC Go.Proofs.Tryz.f134 K)) : CallK CC 134 [t0] h n K := by
  have := @callK_of CC CCok 134 Go.Proofs.Tryz.f134 (bodyOf Go.Proofs.Tryz.f134) [t0] h n K F134
  refine this ?_ ?_ ?_
  · kernel_rfl
  · kernel_rfl
  · exact H

def F134_L110100 (t3 t5 t6 : V) (h : Heap) (n : Nat) (s : St) : Prop := ∃ f : Nat → V, s = ⟨mkTm [(f 0), (f 1), (f 2), t3, (f 4), t5, t6, (f 7), (f 8), (f 9), (f 10), (f 11)], h, n, []⟩
theorem F134_L110100_of {t3 t5 t6 : V} {t0 t1 t2 t4 t7 t8 t9 t10 t11 : V} {h : Heap} {n : Nat} : F134_L110100 t3 t5 t6 h n ⟨mkTm [t0, t1, t2, t3, t4, t5, t6, t7, t8, t9, t10, t11], h, n, []⟩ :=
  ⟨fun i => ([t0, t1, t2, t3, t4, t5, t6, t7, t8, t9, t10, t11] : List V).getD i undefV, by kernel_rfl⟩
theorem F134_L110100_elim {t3 t5 t6 : V} {h : Heap} {n : Nat} {s : St} {P : St → Prop} (hs : F134_L110100 t3 t5 t6 h n s) (H : ∀ t0 t1 t2 t4 t7 t8 t9 t10 t11 : V, P ⟨mkTm [t0, t1, t2, t3, t4, t5, t6, t7, t8, t9, t10, t11], h, n, []⟩) : P s := by
  obtain ⟨f, rfl⟩ := hs
  exact H (f 0) (f 1) (f 2) (f 4) (f 7) (f 8) (f 9) (f 10) (f 11)

theorem F134_b110100 (t0 t1 t2 t3 t4 t5 t6 t7 t8 t9 t10 t11 : V) (h : Heap) (n : Nat) (Q : X → St → Prop) : Wp CC (subC [1, 1, 0, 1, 0, 0] (bodyOf Go.Proofs.Tryz.f134)) ⟨mkTm [t0, t1, t2, t3, t4, t5, t6, t7, t8, t9, t10, t11], h, n, []⟩ Q = (
oK (binop CC .lss 3 false t6 t5) fun v2 =>
oK (asBool v2) fun b3 => bif b3 then (
oK (binop CC .mul 175 true t3 (.s (.complex .f64 0 4607182418800017408))) fun v4 =>
oK (binop CC .add 3 true t6 (.s (.int .i64 1))) fun v5 =>
Q .normal ⟨mkTm [t0, t1, t2, v4, t4, t5, v5, v2, t3, v4, v5, t11], h, n, []⟩) else (
Q (.exit 0) ⟨mkTm [t0, t1, t2, t3, t4, t5, t6, v2, t8, t9, t10, t11], h, n, []⟩)) := Wp.eq_of (by kernel_rfl)

theorem F134_r110100_0 (t0 t1 t2 t3 t4 t5 t6 t7 t8 t9 t10 t11 : V) (h : Heap) (n : Nat) (K : V → Heap → Nat → Prop) : resume CC none [.blk 0, .sq (subC [1, 1, 1] (bodyOf Go.Proofs.Tryz.f134))] (retW CC Go.Proofs.Tryz.f134 K) (.exit 0) ⟨mkTm [t0, t1, t2, t3, t4, t5, t6, t7, t8, t9, t10, t11], h, n, []⟩ = (
K t3 h n) := by kernel_rfl

/-! F135 bytes.Equal -/
theorem F135 : CC.F.get 135 = some Go.Proofs.Tryz.f135 := by kernel_rfl
theorem F135_eq (t0 t1 : V) (h : Heap) (n : Nat) (K : V → Heap → Nat → Prop) : Wp CC (bodyOf Go.Proofs.Tryz.f135) ⟨initTm Go.Proofs.Tryz.f135 [t0, t1], h, n, []⟩ (retW CC Go.Proofs.Tryz.f135 K) = (
oK (convert CC h 23 9 t0) fun v1 =>
oK (convert CC h 23 9 t1) fun v2 =>
oK (binop CC .eql 9 false v1 v2) fun v3 =>
K v3 h n) := Wp.eq_of (by kernel_rfl)
theorem F135_call {t0 t1 : V} {h : Heap} {n : Nat} {K : V → Heap → Nat → Prop} (H : (∀ b o, h.get b = some o → b < n) → Wp CC (bodyOf Go.Proofs.Tryz.f135) ⟨initTm Go.Proofs.Tryz.f135 [t0, t1], h, n, []⟩ (retW CC Go.Proofs.Tryz.f135 K)) : CallK CC 135 [t0, t1] h n K := by
  have := @callK_of CC CCok 135 Go.Proofs.Tryz.f135 (bodyOf Go.Proofs.Tryz.f135) [t0, t1] h n K F135
  refine this ?_ ?_ ?_
  · kernel_rfl
  · kernel_rfl
  · exact H

/-! F136 (*lockgate/hash.Hash).way$1 -/
theorem F136 : CC.F.get 136 = some Go.Proofs.Tryz.f136 := by kernel_rfl
theorem F136_eq (t0 t1 t2 : V) (h : Heap) (n : Nat) (K : V → Heap → Nat → Prop) : Wp CC (bodyOf Go.Proofs.Tryz.f136) ⟨initTm Go.Proofs.Tryz.f136 [t0, t1, t2], h, n, []⟩ (retW CC Go.Proofs.Tryz.f136 K) = (
oK (normO (rLoad CC 23 h t1)) fun v1 =>
oK (normO (rLoad CC 127 h t2)) fun v2 =>
oK (rNil v2) fun v3 =>
oK (rFA CC 168 4 v3) fun v4 =>
oK (normO (rLoad CC 23 h v4)) fun v5 =>
oK (lenV CC h 23 v5) fun v6 =>
oK (convert CC .leaf 3 73 v6) fun v7 =>
CallK CC 137 [v1] h (n + 11) fun v8 h9 n10 =>
(lenV CC h9 23 v5 = some v6 ∧ normO (rLoad CC 23 h9 v4) = some v5 ∧ normO (rLoad CC 127 h9 t2) = some v2 ∧ True ∧ True) ∧
oK (binop CC .rem 73 false v8 v7) fun v11 =>
oK (convert CC .leaf 73 3 v11) fun v12 =>
oK (normO (rLoad CC 127 h9 t2)) fun v13 =>
oK (rNil v13) fun v14 =>
oK (rFA CC 168 4 v14) fun v15 =>
oK (normO (rLoad CC 23 h9 v15)) fun v16 =>
oK (lenV CC h9 23 v16) fun v17 =>
LoopK CC none (subC [1, 1, 0, 0] (bodyOf Go.Proofs.Tryz.f136)) ⟨mkTm [t0, t1, t2, undefV, v12, undefV, v1, v8, v2, v3, v4, v5, v6, v7, v11, v12, v13, v14, v15, v16, v17, (.s (.int .i64 0)), undefV, undefV, undefV, undefV, undefV, undefV, undefV, undefV, undefV, undefV, undefV, undefV, undefV, undefV, undefV], h9, n10, []⟩ (resume CC none [.blk 0] (retW CC Go.Proofs.Tryz.f136 K))) := Wp.eq_of (by kernel_rfl)
theorem F136_call {t0 t1 t2 : V} {h : Heap} {n : Nat} {K : V → Heap → Nat → Prop} (H : (∀ b o, h.get b = some o → b < n) → Wp CC (bodyOf Go.Proofs.Tryz.f136) ⟨initTm Go.Proofs.Tryz.f136 [t0, t1, t2], h, n, []⟩ (retW CC Go.Proofs.Tryz.f136 K)) : CallK CC 136 [t0, t1, t2] h n K := by
  have := @callK_of CC CCok 136 Go.Proofs.Tryz.f136 (bodyOf Go.Proofs.Tryz.f136) [t0, t1, t2] h n K F136
  refine this ?_ ?_ ?_
  · kernel_rfl
  · kernel_rfl
  · exact H

def F136_L1100 (t0 t2 t4 t20 t21 : V) (h : Heap) (n : Nat) (s : St) : Prop := ∃ f : Nat → V, s = ⟨mkTm [t0, (f 1), t2, (f 3), t4, (f 5), (f 6), (f 7), (f 8), (f 9), (f 10), (f 11), (f 12), (f 13), (f 14), (f 15), (f 16), (f 17), (f 18), (f 19), t20, t21, (f 22), (f 23), (f 24), (f 25), (f 26), (f 27), (f 28), (f 29), (f 30), (f 31), (f 32), (f 33), (f 34), (f 35), (f 36)], h, n, []⟩
theorem F136_L1100_of {t0 t2 t4 t20 t21 : V} {t1 t3 t5 t6 t7 t8 t9 t10 t11 t12 t13 t14 t15 t16 t17 t18 t19 t22 t23 t24 t25 t26 t27 t28 t29 t30 t31 t32 t33 t34 t35 t36 : V} {h : Heap} {n : Nat} : F136_L1100 t0 t2 t4 t20 t21 h n ⟨mkTm [t0, t1, t2, t3, t4, t5, t6, t7, t8, t9, t10, t11, t12, t13, t14, t15, t16, t17, t18, t19, t20, t21, t22, t23, t24, t25, t26, t27, t28, t29, t30, t31, t32, t33, t34, t35, t36], h, n, []⟩ :=
  ⟨fun i => ([t0, t1, t2, t3, t4, t5, t6, t7, t8, t9, t10, t11, t12, t13, t14, t15, t16, t17, t18, t19, t20, t21, t22, t23, t24, t25, t26, t27, t28, t29, t30, t31, t32, t33, t34, t35, t36] : List V).getD i undefV, by kernel_rfl⟩
theorem F136_L1100_elim {t0 t2 t4 t20 t21 : V} {h : Heap} {n : Nat} {s : St} {P : St → Prop} (hs : F136_L1100 t0 t2 t4 t20 t21 h n s) (H : ∀ t1 t3 t5 t6 t7 t8 t9 t10 t11 t12 t13 t14 t15 t16 t17 t18 t19 t22 t23 t24 t25 t26 t27 t28 t29 t30 t31 t32 t33 t34 t35 t36 : V, P ⟨mkTm [t0, t1, t2, t3, t4, t5, t6, t7, t8, t9, t10, t11, t12, t13, t14, t15, t16, t17, t18, t19, t20, t21, t22, t23, t24, t25, t26, t27, t28, t29, t30, t31, t32, t33, t34, t35, t36], h, n, []⟩) : P s := by
  obtain ⟨f, rfl⟩ := hs
  exact H (f 1) (f 3) (f 5) (f 6) (f 7) (f 8) (f 9) (f 10) (f 11) (f 12) (f 13) (f 14) (f 15) (f 16) (f 17) (f 18) (f 19) (f 22) (f 23) (f 24) (f 25) (f 26) (f 27) (f 28) (f 29) (f 30) (f 31) (f 32) (f 33) (f 34) (f 35) (f 36)

theorem F136_b1100 (t0 t1 t2 t3 t4 t5 t6 t7 t8 t9 t10 t11 t12 t13 t14 t15 t16 t17 t18 t19 t20 t21 t22 t23 t24 t25 t26 t27 t28 t29 t30 t31 t32 t33 t34 t35 t36 : V) (h : Heap) (n : Nat) (Q : X → St → Prop) : Wp CC (subC [1, 1, 0, 0] (bodyOf Go.Proofs.Tryz.f136)) ⟨mkTm [t0, t1, t2, t3, t4, t5, t6, t7, t8, t9, t10, t11, t12, t13, t14, t15, t16, t17, t18, t19, t20, t21, t22, t23, t24, t25, t26, t27, t28, t29, t30, t31, t32, t33, t34, t35, t36], h, n, []⟩ Q = (
oK (binop CC .lss 3 false t21 t20) fun v18 =>
oK (asBool v18) fun b19 => bif b19 then (
oK (binop CC .add 3 false t4 t21) fun v20 =>
oK (normO (rLoad CC 127 h t2)) fun v21 =>
oK (rNil v21) fun v22 =>
oK (rFA CC 168 4 v22) fun v23 =>
oK (normO (rLoad CC 23 h v23)) fun v24 =>
oK (lenV CC h 23 v24) fun v25 =>
oK (binop CC .rem 3 false v20 v25) fun v26 =>
callV CC t0 [v26] h n fun v27 h28 n29 =>
oK (rUn CC .not v27) fun v30 =>
oK (asBool v30) fun b31 => bif b31 then (
Q .ret ⟨mkTm [t0, t1, t2, t3, t4, t21, t6, t7, t8, t9, t10, t11, t12, t13, t14, t15, t16, t17, t18, t19, t20, t21, v18, t21, t0, t4, t21, v20, v21, v22, v23, v24, v25, v26, v27, v30, t36], h28, n29, []⟩) else (
oK (binop CC .add 3 true t21 (.s (.int .i64 1))) fun v32 =>
Q .normal ⟨mkTm [t0, t1, t2, t3, t4, t21, t6, t7, t8, t9, t10, t11, t12, t13, t14, t15, t16, t17, t18, t19, t20, v32, v18, t21, t0, t4, t21, v20, v21, v22, v23, v24, v25, v26, v27, v30, v32], h28, n29, []⟩)) else (
Q (.exit 0) ⟨mkTm [t0, t1, t2, t3, t4, t5, t6, t7, t8, t9, t10, t11, t12, t13, t14, t15, t16, t17, t18, t19, t20, t21, v18, t23, t24, t25, t26, t27, t28, t29, t30, t31, t32, t33, t34, t35, t36], h, n, []⟩)) := Wp.eq_of (by kernel_rfl)

theorem F136_r1100_0 (t0 t1 t2 t3 t4 t5 t6 t7 t8 t9 t10 t11 t12 t13 t14 t15 t16 t17 t18 t19 t20 t21 t22 t23 t24 t25 t26 t27 t28 t29 t30 t31 t32 t33 t34 t35 t36 : V) (h : Heap) (n : Nat) (K : V → Heap → Nat → Prop) : resume CC none [.blk 0] (retW CC Go.Proofs.Tryz.f136 K) (.exit 0) ⟨mkTm [t0, t1, t2, t3, t4, t5, t6, t7, t8, t9, t10, t11, t12, t13, t14, t15, t16, t17, t18, t19, t20, t21, t22, t23, t24, t25, t26, t27, t28, t29, t30, t31, t32, t33, t34, t35, t36], h, n, []⟩ = (
K (.tup []) h n) := by kernel_rfl

/-! F137 lockgate/hash.Sum -/
theorem F137 : CC.F.get 137 = some Go.Proofs.Tryz.f137 := by kernel_rfl
theorem F137_eq (t0 : V) (h : Heap) (n : Nat) (K : V → Heap → Nat → Prop) : Wp CC (bodyOf Go.Proofs.Tryz.f137) ⟨initTm Go.Proofs.Tryz.f137 [t0], h, n, []⟩ (retW CC Go.Proofs.Tryz.f137 K) = (
oK (lenV CC h 23 t0) fun v1 =>
LoopK CC none (subC [1, 1, 0, 1, 0, 0] (bodyOf Go.Proofs.Tryz.f137)) ⟨mkTm [t0, undefV, (.s (.int .u32 0)), (.s (.int .u32 2166136261)), undefV, undefV, t0, v1, (.s (.int .i64 0)), undefV, undefV, undefV, undefV, undefV, undefV, undefV, undefV, undefV, undefV], h, n, []⟩ (resume CC none [.blk 0, .sq (subC [1, 1, 1] (bodyOf Go.Proofs.Tryz.f137))] (retW CC Go.Proofs.Tryz.f137 K))) := Wp.eq_of (by kernel_rfl)
theorem F137_call {t0 : V} {h : Heap} {n : Nat} {K : V → Heap → Nat → Prop} (H : (∀ b o, h.get b = some o → b < n) → Wp CC (bodyOf Go.Proofs.Tryz.f137) ⟨initTm Go.Proofs.Tryz.f137 [t0], h, n, []⟩ (retW CC Go.Proofs.Tryz.f137 K)) : CallK CC 137 [t0] h n K := by
  have := @callK_of CC CCok 137 Go.Proofs.Tryz.f137 (bodyOf Go.Proofs.Tryz.f137) [t0] h n K F137
  refine this ?_ ?_ ?_
  · kernel_rfl
  · kernel_rfl
  · exact H

def F137_L110100 (t3 t6 t7 t8 : V) (h : Heap) (n : Nat) (s : St) : Prop := ∃ f : Nat → V, s = ⟨mkTm [(f 0), (f 1), (f 2), t3, (f 4), (f 5), t6, t7, t8, (f 9), (f 10), (f 11), (f 12), (f 13), (f 14), (f 15), (f 16), (f 17), (f 18)], h, n, []⟩
theorem F137_L110100_of {t3 t6 t7 t8 : V} {t0 t1 t2 t4 t5 t9 t10 t11 t12 t13 t14 t15 t16 t17 t18 : V} {h : Heap} {n : Nat} : F137_L110100 t3 t6 t7 t8 h n ⟨mkTm [t0, t1, t2, t3, t4, t5, t6, t7, t8, t9, t10, t11, t12, t13, t14, t15, t16, t17, t18], h, n, []⟩ :=
  ⟨fun i => ([t0, t1, t2, t3, t4, t5, t6, t7, t8, t9, t10, t11, t12, t13, t14, t15, t16, t17, t18] : List V).getD i undefV, by kernel_rfl⟩
theorem F137_L110100_elim {t3 t6 t7 t8 : V} {h : Heap} {n : Nat} {s : St} {P : St → Prop} (hs : F137_L110100 t3 t6 t7 t8 h n s) (H : ∀ t0 t1 t2 t4 t5 t9 t10 t11 t12 t13 t14 t15 t16 t17 t18 : V, P ⟨mkTm [t0, t1, t2, t3, t4, t5, t6, t7, t8, t9, t10, t11, t12, t13, t14, t15, t16, t17, t18], h, n, []⟩) : P s := by
  obtain ⟨f, rfl⟩ := hs
  exact H (f 0) (f 1) (f 2) (f 4) (f 5) (f 9) (f 10) (f 11) (f 12) (f 13) (f 14) (f 15) (f 16) (f 17) (f 18)

theorem F137_b110100 (t0 t1 t2 t3 t4 t5 t6 t7 t8 t9 t10 t11 t12 t13 t14 t15 t16 t17 t18 : V) (h : Heap) (n : Nat) (Q : X → St → Prop) : Wp CC (subC [1, 1, 0, 1, 0, 0] (bodyOf Go.Proofs.Tryz.f137)) ⟨mkTm [t0, t1, t2, t3, t4, t5, t6, t7, t8, t9, t10, t11, t12, t13, t14, t15, t16, t17, t18], h, n, []⟩ Q = (
oK (binop CC .lss 3 false t8 t7) fun v2 =>
oK (asBool v2) fun b3 => bif b3 then (
oK (indexAddr CC 23 t6 t8) fun v4 =>
oK (normO (rLoad CC 5 h v4)) fun v5 =>
oK (convert CC h 5 73 v5) fun v6 =>
oK (binop CC .xor 73 false t3 v6) fun v7 =>
oK (binop CC .mul 73 true v7 (.s (.int .u32 16777619))) fun v8 =>
oK (binop CC .add 3 true t8 (.s (.int .i64 1))) fun v9 =>
Q .normal ⟨mkTm [t0, t1, t2, v8, t4, v5, t6, t7, v9, v2, v4, v5, t3, v5, v6, v7, v8, v9, t18], h, n, []⟩) else (
Q (.exit 0) ⟨mkTm [t0, t1, t2, t3, t4, t5, t6, t7, t8, v2, t10, t11, t12, t13, t14, t15, t16, t17, t18], h, n, []⟩)) := Wp.eq_of (by kernel_rfl)

theorem F137_r110100_0 (t0 t1 t2 t3 t4 t5 t6 t7 t8 t9 t10 t11 t12 t13 t14 t15 t16 t17 t18 : V) (h : Heap) (n : Nat) (K : V → Heap → Nat → Prop) : resume CC none [.blk 0, .sq (subC [1, 1, 1] (bodyOf Go.Proofs.Tryz.f137))] (retW CC Go.Proofs.Tryz.f137 K) (.exit 0) ⟨mkTm [t0, t1, t2, t3, t4, t5, t6, t7, t8, t9, t10, t11, t12, t13, t14, t15, t16, t17, t18], h, n, []⟩ = (
K t3 h n) := by kernel_rfl

/-! F138 slices.Index[[]int,int] -/
theorem F138 : CC.F.get 138 = some Go.Proofs.Tryz.f138 := by kernel_rfl
theorem F138_eq (t0 t1 : V) (h : Heap) (n : Nat) (K : V → Heap → Nat → Prop) : Wp CC (bodyOf Go.Proofs.Tryz.f138) ⟨initTm Go.Proofs.Tryz.f138 [t0, t1], h, n, []⟩ (retW CC Go.Proofs.Tryz.f138 K) = (
oK (lenV CC h 122 t0) fun v1 =>
LoopK CC none (subC [1, 0, 1, 0, 0] (bodyOf Go.Proofs.Tryz.f138)) ⟨mkTm [t0, t1, undefV, undefV, (.s (.int .i64 0)), undefV, t0, v1, (.s (.int .i64 0)), undefV, undefV, undefV, undefV, undefV, undefV, undefV, undefV, undefV, undefV], h, n, []⟩ (resume CC none [.blk 0, .sq (subC [1, 1] (bodyOf Go.Proofs.Tryz.f138))] (retW CC Go.Proofs.Tryz.f138 K))) := Wp.eq_of (by kernel_rfl)
theorem F138_call {t0 t1 : V} {h : Heap} {n : Nat} {K : V → Heap → Nat → Prop} (H : (∀ b o, h.get b = some o → b < n) → Wp CC (bodyOf Go.Proofs.Tryz.f138) ⟨initTm Go.Proofs.Tryz.f138 [t0, t1], h, n, []⟩ (retW CC Go.Proofs.Tryz.f138 K)) : CallK CC 138 [t0, t1] h n K := by
  have := @callK_of CC CCok 138 Go.Proofs.Tryz.f138 (bodyOf Go.Proofs.Tryz.f138) [t0, t1] h n K F138
  refine this ?_ ?_ ?_
  · kernel_rfl
  · kernel_rfl
  · exact H

def F138_L10100 (t0 t1 t7 t8 : V) (h : Heap) (n : Nat) (s : St) : Prop := ∃ f : Nat → V, s = ⟨mkTm [t0, t1, (f 2), (f 3), (f 4), (f 5), (f 6), t7, t8, (f 9), (f 10), (f 11), (f 12), (f 13), (f 14), (f 15), (f 16), (f 17), (f 18)], h, n, []⟩
theorem F138_L10100_of {t0 t1 t7 t8 : V} {t2 t3 t4 t5 t6 t9 t10 t11 t12 t13 t14 t15 t16 t17 t18 : V} {h : Heap} {n : Nat} : F138_L10100 t0 t1 t7 t8 h n ⟨mkTm [t0, t1, t2, t3, t4, t5, t6, t7, t8, t9, t10, t11, t12, t13, t14, t15, t16, t17, t18], h, n, []⟩ :=
  ⟨fun i => ([t0, t1, t2, t3, t4, t5, t6, t7, t8, t9, t10, t11, t12, t13, t14, t15, t16, t17, t18] : List V).getD i undefV, by kernel_rfl⟩
theorem F138_L10100_elim {t0 t1 t7 t8 : V} {h : Heap} {n : Nat} {s : St} {P : St → Prop} (hs : F138_L10100 t0 t1 t7 t8 h n s) (H : ∀ t2 t3 t4 t5 t6 t9 t10 t11 t12 t13 t14 t15 t16 t17 t18 : V, P ⟨mkTm [t0, t1, t2, t3, t4, t5, t6, t7, t8, t9, t10, t11, t12, t13, t14, t15, t16, t17, t18], h, n, []⟩) : P s := by
  obtain ⟨f, rfl⟩ := hs
  exact H (f 2) (f 3) (f 4) (f 5) (f 6) (f 9) (f 10) (f 11) (f 12) (f 13) (f 14) (f 15) (f 16) (f 17) (f 18)

theorem F138_b10100 (t0 t1 t2 t3 t4 t5 t6 t7 t8 t9 t10 t11 t12 t13 t14 t15 t16 t17 t18 : V) (h : Heap) (n : Nat) (Q : X → St → Prop) : Wp CC (subC [1, 0, 1, 0, 0] (bodyOf Go.Proofs.Tryz.f138)) ⟨mkTm [t0, t1, t2, t3, t4, t5, t6, t7, t8, t9, t10, t11, t12, t13, t14, t15, t16, t17, t18], h, n, []⟩ Q = (
oK (binop CC .lss 3 false t8 t7) fun v2 =>
oK (asBool v2) fun b3 => bif b3 then (
oK (indexAddr CC 122 t0 t8) fun v4 =>
oK (normO (rLoad CC 3 h v4)) fun v5 =>
oK (binop CC .eql 3 false t1 v5) fun v6 =>
oK (asBool v6) fun b7 => bif b7 then (
Q .ret ⟨mkTm [t0, t1, t2, t3, t8, t8, t6, t7, t8, v2, t8, t1, t0, t8, v4, v5, v6, t8, t18], h, n, []⟩) else (
oK (binop CC .add 3 true t8 (.s (.int .i64 1))) fun v8 =>
Q .normal ⟨mkTm [t0, t1, t2, t3, t4, t8, t6, t7, v8, v2, t8, t1, t0, t8, v4, v5, v6, t17, v8], h, n, []⟩)) else (
Q (.exit 0) ⟨mkTm [t0, t1, t2, t3, t4, t5, t6, t7, t8, v2, t10, t11, t12, t13, t14, t15, t16, t17, t18], h, n, []⟩)) := Wp.eq_of (by kernel_rfl)

theorem F138_r10100_0 (t0 t1 t2 t3 t4 t5 t6 t7 t8 t9 t10 t11 t12 t13 t14 t15 t16 t17 t18 : V) (h : Heap) (n : Nat) (K : V → Heap → Nat → Prop) : resume CC none [.blk 0, .sq (subC [1, 1] (bodyOf Go.Proofs.Tryz.f138))] (retW CC Go.Proofs.Tryz.f138 K) (.exit 0) ⟨mkTm [t0, t1, t2, t3, t4, t5, t6, t7, t8, t9, t10, t11, t12, t13, t14, t15, t16, t17, t18], h, n, []⟩ = (
K (.s (.int .i64 (-1))) h n) := by kernel_rfl

/-! F166 (*lockgate/hash.Hash).Del -/
theorem F166 : CC.F.get 166 = some Go.Proofs.Tryz.f166 := by kernel_rfl
theorem F166_eq (t0 t1 : V) (h : Heap) (n : Nat) (K : V → Heap → Nat → Prop) : Wp CC (bodyOf Go.Proofs.Tryz.f166) ⟨initTm Go.Proofs.Tryz.f166 [t0, t1], h, n, []⟩ (retW CC Go.Proofs.Tryz.f166 K) = (
CallK CC 109 [t0, t1] h n fun v1 h2 n3 =>
oK (binop CC .lss 3 true v1 (.s (.int .i64 0))) fun v4 =>
oK (asBool v4) fun b5 => bif b5 then (
K (.tup [(.s (.int .i64 0)), (.s (.bool false))]) h2 n3) else (
oK (rNil t0) fun v6 =>
oK (rFA CC 168 4 v6) fun v7 =>
oK (normO (rLoad CC 23 h2 v7)) fun v8 =>
oK (indexAddr CC 23 v8 v1) fun v9 =>
oK (asPtr v9) fun p10 => oK (store CC h2 5 p10.1 p10.2 (.s (.int .u8 2))) fun h11 =>
oK (rNil t0) fun v12 =>
oK (rFA CC 168 2 v12) fun v13 =>
oK (normO (rLoad CC 3 h11 v13)) fun v14 =>
oK (binop CC .sub 3 true v14 (.s (.int .i64 1))) fun v15 =>
oK (rNil t0) fun v16 =>
oK (rFA CC 168 2 v16) fun v17 =>
oK (asPtr v17) fun p18 => oK (store CC h11 3 p18.1 p18.2 v15) fun h19 =>
oK (rNil t0) fun v20 =>
oK (rFA CC 168 5 v20) fun v21 =>
oK (normO (rLoad CC 122 h19 v21)) fun v22 =>
oK (indexAddr CC 122 v22 v1) fun v23 =>
oK (normO (rLoad CC 3 h19 v23)) fun v24 =>
K (.tup [v24, (.s (.bool true))]) h19 n3)) := Wp.eq_of (by kernel_rfl)
theorem F166_call {t0 t1 : V} {h : Heap} {n : Nat} {K : V → Heap → Nat → Prop} (H : (∀ b o, h.get b = some o → b < n) → Wp CC (bodyOf Go.Proofs.Tryz.f166) ⟨initTm Go.Proofs.Tryz.f166 [t0, t1], h, n, []⟩ (retW CC Go.Proofs.Tryz.f166 K)) : CallK CC 166 [t0, t1] h n K := by
  have := @callK_of CC CCok 166 Go.Proofs.Tryz.f166 (bodyOf Go.Proofs.Tryz.f166) [t0, t1] h n K F166
  refine this ?_ ?_ ?_
  · kernel_rfl
  · kernel_rfl
  · exact H

/-! F167 (*lockgate/hash.Hash).Find -/
theorem F167 : CC.F.get 167 = some Go.Proofs.Tryz.f167 := by kernel_rfl
theorem F167_eq (t0 t1 : V) (h : Heap) (n : Nat) (K : V → Heap → Nat → Prop) : Wp CC (bodyOf Go.Proofs.Tryz.f167) ⟨initTm Go.Proofs.Tryz.f167 [t0, t1], h, n, []⟩ (retW CC Go.Proofs.Tryz.f167 K) = (
CallK CC 109 [t0, t1] h n fun v1 h2 n3 =>
oK (binop CC .lss 3 true v1 (.s (.int .i64 0))) fun v4 =>
oK (asBool v4) fun b5 => bif b5 then (
K (.tup [(.s (.int .i64 0)), (.s (.bool false))]) h2 n3) else (
oK (rNil t0) fun v6 =>
oK (rFA CC 168 5 v6) fun v7 =>
oK (normO (rLoad CC 122 h2 v7)) fun v8 =>
oK (indexAddr CC 122 v8 v1) fun v9 =>
oK (normO (rLoad CC 3 h2 v9)) fun v10 =>
K (.tup [v10, (.s (.bool true))]) h2 n3)) := Wp.eq_of (by kernel_rfl)
theorem F167_call {t0 t1 : V} {h : Heap} {n : Nat} {K : V → Heap → Nat → Prop} (H : (∀ b o, h.get b = some o → b < n) → Wp CC (bodyOf Go.Proofs.Tryz.f167) ⟨initTm Go.Proofs.Tryz.f167 [t0, t1], h, n, []⟩ (retW CC Go.Proofs.Tryz.f167 K)) : CallK CC 167 [t0, t1] h n K := by
  have := @callK_of CC CCok 167 Go.Proofs.Tryz.f167 (bodyOf Go.Proofs.Tryz.f167) [t0, t1] h n K F167
  refine this ?_ ?_ ?_
  · kernel_rfl
  · kernel_rfl
  · exact H

/-! F168 (*lockgate/lru.Lru).Del -/
theorem F168 : CC.F.get 168 = some Go.Proofs.Tryz.f168 := by kernel_rfl
theorem F168_eq (t0 t1 : V) (h : Heap) (n : Nat) (K : V → Heap → Nat → Prop) : Wp CC (bodyOf Go.Proofs.Tryz.f168) ⟨initTm Go.Proofs.Tryz.f168 [t0, t1], h, n, []⟩ (retW CC Go.Proofs.Tryz.f168 K) = (
CallK CC 107 [t0, t1] h n fun v1 h2 n3 =>
oK (binop CC .lss 3 true v1 (.s (.int .i64 0))) fun v4 =>
oK (asBool v4) fun b5 => bif b5 then (
K (.tup [(.s (.int .i64 0)), (.s (.bool false))]) h2 n3) else (
CallK CC 112 [t0, v1] h2 n3 fun v6 h7 n8 =>
oK (rF CC 209 1 v6) fun v9 =>
K (.tup [v9, (.s (.bool true))]) h7 n8)) := Wp.eq_of (by kernel_rfl)
theorem F168_call {t0 t1 : V} {h : Heap} {n : Nat} {K : V → Heap → Nat → Prop} (H : (∀ b o, h.get b = some o → b < n) → Wp CC (bodyOf Go.Proofs.Tryz.f168) ⟨initTm Go.Proofs.Tryz.f168 [t0, t1], h, n, []⟩ (retW CC Go.Proofs.Tryz.f168 K)) : CallK CC 168 [t0, t1] h n K := by
  have := @callK_of CC CCok 168 Go.Proofs.Tryz.f168 (bodyOf Go.Proofs.Tryz.f168) [t0, t1] h n K F168
  refine this ?_ ?_ ?_
  · kernel_rfl
  · kernel_rfl
  · exact H

/-! F169 (*lockgate/lru.Lru).Find -/
theorem F169 : CC.F.get 169 = some Go.Proofs.Tryz.f169 := by kernel_rfl
theorem F169_eq (t0 t1 : V) (h : Heap) (n : Nat) (K : V → Heap → Nat → Prop) : Wp CC (bodyOf Go.Proofs.Tryz.f169) ⟨initTm Go.Proofs.Tryz.f169 [t0, t1], h, n, []⟩ (retW CC Go.Proofs.Tryz.f169 K) = (
CallK CC 107 [t0, t1] h n fun v1 h2 n3 =>
oK (binop CC .lss 3 true v1 (.s (.int .i64 0))) fun v4 =>
oK (asBool v4) fun b5 => bif b5 then (
K (.tup [(.s (.int .i64 0)), (.s (.bool false))]) h2 n3) else (
CallK CC 112 [t0, v1] h2 n3 fun v6 h7 n8 =>
CallK CC 113 [t0, v6] h7 n8 fun v9 h10 n11 =>
oK (rNil t0) fun v12 =>
oK (rFA CC 171 2 v12) fun v13 =>
oK (normO (rLoad CC 169 h10 v13)) fun v14 =>
oK (indexAddr CC 169 v14 (.s (.int .i64 0))) fun v15 =>
oK (rFA CC 209 1 v15) fun v16 =>
oK (normO (rLoad CC 3 h10 v16)) fun v17 =>
K (.tup [v17, (.s (.bool true))]) h10 n11)) := Wp.eq_of (by kernel_rfl)
theorem F169_call {t0 t1 : V} {h : Heap} {n : Nat} {K : V → Heap → Nat → Prop} (H : (∀ b o, h.get b = some o → b < n) → Wp CC (bodyOf Go.Proofs.Tryz.f169) ⟨initTm Go.Proofs.Tryz.f169 [t0, t1], h, n, []⟩ (retW CC Go.Proofs.Tryz.f169 K)) : CallK CC 169 [t0, t1] h n K := by
  have := @callK_of CC CCok 169 Go.Proofs.Tryz.f169 (bodyOf Go.Proofs.Tryz.f169) [t0, t1] h n K F169
  refine this ?_ ?_ ?_
  · kernel_rfl
  · kernel_rfl
  · exact H

end Go.Ev
