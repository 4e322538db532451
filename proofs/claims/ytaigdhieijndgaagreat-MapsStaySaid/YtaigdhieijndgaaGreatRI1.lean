import Derived.Test.YtaigdhieijndgaaGreatRI0
namespace Go.Ev
open Proofs
set_option linter.unusedVariables false
set_option autoImplicit true
theorem F159:CC.F.get 159=some Tryz.f159:=by kernel_rfl
theorem F159_eq {K:Ko}:Wp CC (bodyOf Tryz.f159) ⟨initTm Tryz.f159 [t0,t1,t2,t3,t4],h,n,[]⟩ (retW CC Tryz.f159 K)=(
LoopK CC none (subC [1,1,0,0] (bodyOf Tryz.f159)) ⟨mkTm (t0::t1::t2::t3::t4::un 5 ((.s (.bool true))::(.s (.bool true))::un 136 [])),h,n,[]⟩ (resume CC none [.blk 0] (retW CC Tryz.f159 K))):=Wp.eq_of (by kernel_rfl)
theorem F159_call {K:Ko} (H:HCall CC Tryz.f159 [t0,t1,t2,t3,t4] h n K):CallK CC 159 [t0,t1,t2,t3,t4] h n K:=callK_by CCok F159 (by kernel_rfl) (by kernel_rfl) H
def F159_L1100 (t0 t1 t2 t3 t4 t10 t11:V) (h:Heap) (n:Nat) (s:St):Prop:=∃ f:Nat→V,s=⟨mkTm (t0::t1::t2::t3::t4::tl f 5 5 (t10::t11::tl f 12 136 [])),h,n,[]⟩
theorem F159_L1100_of {t0 t1 t2 t3 t4 t10 t11:V} {h:Heap} {n:Nat}:F159_L1100 t0 t1 t2 t3 t4 t10 t11 h n ⟨mkTm [t0,t1,t2,t3,t4,t5,t6,t7,t8,t9,t10,t11,t12,t13,t14,t15,t16,t17,t18,t19,t20,t21,t22,t23,t24,t25,t26,t27,t28,t29,t30,t31,t32,t33,t34,t35,t36,t37,t38,t39,t40,t41,t42,t43,t44,t45,t46,t47,t48,t49,t50,t51,t52,t53,t54,t55,t56,t57,t58,t59,t60,t61,t62,t63,t64,t65,t66,t67,t68,t69,t70,t71,t72,t73,t74,t75,t76,t77,t78,t79,t80,t81,t82,t83,t84,t85,t86,t87,t88,t89,t90,t91,t92,t93,t94,t95,t96,t97,t98,t99,t100,t101,t102,t103,t104,t105,t106,t107,t108,t109,t110,t111,t112,t113,t114,t115,t116,t117,t118,t119,t120,t121,t122,t123,t124,t125,t126,t127,t128,t129,t130,t131,t132,t133,t134,t135,t136,t137,t138,t139,t140,t141,t142,t143,t144,t145,t146,t147],h,n,[]⟩:=
 ex_of (by kernel_rfl)
theorem F159_b1100 (f:Nat→V) (t0 t1 t2 t3 t4 t10 t11:V) (h:Heap) (n:Nat) (Q:X→St→Prop):Wp CC (subC [1,1,0,0] (bodyOf Tryz.f159)) ⟨mkTm (t0::t1::t2::t3::t4::tl f 5 5 (t10::t11::tl f 12 136 [])),h,n,[]⟩ Q=(
oK (binop CC .sub 3 false t2 t1) fun v1=>
oK (binop CC .leq 3 true v1 (.s (.int .i64 12))) fun v2=>
oK (asBool v2) fun b3=>bif b3 then (
CallK CC 198 [t0,t1,t2,t4] h n fun v4 h5 n6=>
Q .ret ⟨mkTm (t0::t1::t2::t3::t4::tl f 5 5 (t10::t11::v1::tl f 13 8 (t2::t1::v1::v1::v2::t0::t1::t2::t4::v4::tl f 31 117 []))),h5,n6,[]⟩) else (
oK (binop CC .eql 3 true t3 (.s (.int .i64 0))) fun v7=>
oK (asBool v7) fun b8=>bif b8 then (
CallK CC 199 [t0,t1,t2,t4] h n fun v9 h10 n11=>
Q .ret ⟨mkTm (t0::t1::t2::t3::t4::tl f 5 5 (t10::t11::v1::tl f 13 8 (t2::t1::v1::v1::v2::tl f 26 5 (t3::v7::t0::t1::t2::t4::v9::tl f 38 110 [])))),h10,n11,[]⟩) else (
oK (rUn CC .not t10) fun v12=>
oK (asBool v12) fun b13=>bif b13 then (
CallK CC 200 [t0,t1,t2,t4] h n fun v14 h15 n16=>
oK (binop CC .sub 3 true t3 (.s (.int .i64 1))) fun v17=>
CallK CC 201 [t0,t1,t2,t4] h15 n16 fun v18 h19 n20=>
oK (rExt v18 0) fun v21=>
oK (rExt v18 1) fun v22=>
oK (binop CC .eql 293 true v22 (.s (.int .i64 2))) fun v23=>
oK (asBool v23) fun b24=>bif b24 then (
CallK CC 202 [t0,t1,t2,t4] h19 n20 fun v25 h26 n27=>
oK (binop CC .sub 3 true t2 (.s (.int .i64 1))) fun v28=>
oK (binop CC .sub 3 false v21 t1) fun v29=>
oK (binop CC .sub 3 false v28 v29) fun v30=>
oK (bif (rWant true t10) then some t11 else some undefV) fun v31=>
oK (rPick t10 v31 (.s (.bool false))) fun v32=>
oK (bif (rWant true v32) then some (.s (.int .i64 1)) else some undefV) fun v33=>
oK (bif (rWant true v32) then binop CC .eql 293 true v33 (.s (.int .i64 1)) else some undefV) fun v34=>
oK (rPick v32 v34 (.s (.bool false))) fun v35=>
oK (asBool v35) fun b36=>bif b36 then (
CallK CC 203 [t0,t1,t2,t4] h26 n27 fun v37 h38 n39=>
oK (asBool v37) fun b40=>bif b40 then (
Q .ret ⟨mkTm (t0::t1::t2::v17::t4::tl f 5 5 (t10::t11::v1::v30::(.s (.int .i64 1))::tl f 15 6 (t2::t1::v1::v1::v2::tl f 26 5 (t3::v7::tl f 33 5 (t10::v12::t0::t1::t2::t4::v14::t3::v17::v18::t0::t1::t2::t4::v18::v21::v22::v22::v23::t0::t1::t2::t4::v25::t2::v28::v21::t1::v29::v30::t10::t10::v31::v32::v32::v33::v34::v35::t0::t1::t2::t4::v37::tl f 81 67 []))))),h38,n39,[]⟩) else (
oK (binop CC .gtr 3 true t1 (.s (.int .i64 0))) fun v41=>
oK (bif (rWant true v41) then some t4 else some undefV) fun v42=>
oK (bif (rWant true v41) then some t0 else some undefV) fun v43=>
oK (bif (rWant true v41) then some t1 else some undefV) fun v44=>
oK (bif (rWant true v41) then binop CC .sub 3 true v44 (.s (.int .i64 1)) else some undefV) fun v45=>
oK (bif (rWant true v41) then indexAddr CC 128 v43 v45 else some undefV) fun v46=>
oK ((bif (rWant true v41) then normO (rLoad CC 30 h38 v46) else some undefV)) fun v47=>
oK (bif (rWant true v41) then some t0 else some undefV) fun v48=>
oK (bif (rWant true v41) then some v30 else some undefV) fun v49=>
oK (bif (rWant true v41) then indexAddr CC 128 v48 v49 else some undefV) fun v50=>
oK ((bif (rWant true v41) then normO (rLoad CC 30 h38 v50) else some undefV)) fun v51=>
let k52:=fun (v53:V) (h54:Heap) (n55:Nat)=>(
(True∧True∧True) ∧
oK (bif (rWant true v41) then binop CC .lss 3 true v53 (.s (.int .i64 0)) else some undefV) fun v56=>
oK (bif (rWant true v41) then rUn CC .not v56 else some undefV) fun v57=>
oK (rPick v41 v57 (.s (.bool false))) fun v58=>
oK (asBool v58) fun b59=>bif b59 then (
CallK CC 204 [t0,t1,t2,v30,t4] h54 n55 fun v60 h61 n62=>
Q .normal ⟨mkTm (t0::v60::t2::v17::t4::tl f 5 5 (t10::t11::v1::v30::(.s (.int .i64 1))::v60::tl f 16 5 (t2::t1::v1::v1::v2::tl f 26 5 (t3::v7::tl f 33 5 (t10::v12::t0::t1::t2::t4::v14::t3::v17::v18::t0::t1::t2::t4::v18::v21::v22::v22::v23::t0::t1::t2::t4::v25::t2::v28::v21::t1::v29::v30::t10::t10::v31::v32::v32::v33::v34::v35::t0::t1::t2::t4::v37::t1::v41::v41::v42::v43::v44::v45::v46::v47::v48::v49::v50::v51::v53::v56::v57::v58::t0::t1::t2::v30::t4::v60::v60::tl f 105 43 []))))),h61,n62,[]⟩) else (
CallK CC 205 [t0,t1,t2,v30,t4] h54 n55 fun v63 h64 n65=>
oK (rExt v63 0) fun v66=>
oK (rExt v63 1) fun v67=>
oK (binop CC .sub 3 false v66 t1) fun v68=>
oK (binop CC .sub 3 false t2 v66) fun v69=>
oK (binop CC .quo 3 true v1 (.s (.int .i64 8))) fun v70=>
oK (binop CC .lss 3 false v68 v69) fun v71=>
oK (asBool v71) fun b72=>bif b72 then (
oK (binop CC .geq 3 false v68 v70) fun v73=>
CallK CC 159 [t0,t1,v66,v17,t4] h64 n65 fun v74 h75 n76=>
oK (binop CC .add 3 true v66 (.s (.int .i64 1))) fun v77=>
Q .normal ⟨mkTm (t0::v77::t2::v17::t4::tl f 5 5 (v73::v67::v1::v30::(.s (.int .i64 1))::(f 15)::v66::v67::v68::v69::v70::t2::t1::v1::v1::v2::tl f 26 5 (t3::v7::tl f 33 5 (t10::v12::t0::t1::t2::t4::v14::t3::v17::v18::t0::t1::t2::t4::v18::v21::v22::v22::v23::t0::t1::t2::t4::v25::t2::v28::v21::t1::v29::v30::t10::t10::v31::v32::v32::v33::v34::v35::t0::t1::t2::t4::v37::t1::v41::v41::v42::v43::v44::v45::v46::v47::v48::v49::v50::v51::v53::v56::v57::v58::tl f 98 7 (v63::t0::t1::t2::v30::t4::v63::v66::v67::v67::v66::t1::v68::t2::v66::v69::v1::v70::v68::v69::v71::v68::v70::v73::t0::t1::v66::v17::t4::v74::v66::v77::tl f 137 11 []))))),h75,n76,[]⟩) else (
oK (binop CC .geq 3 false v69 v70) fun v78=>
oK (binop CC .add 3 true v66 (.s (.int .i64 1))) fun v79=>
CallK CC 159 [t0,v79,t2,v17,t4] h64 n65 fun v80 h81 n82=>
Q .normal ⟨mkTm (t0::t1::v66::v17::t4::tl f 5 5 (v78::v67::v1::v30::(.s (.int .i64 1))::(f 15)::v66::v67::v68::v69::v70::t2::t1::v1::v1::v2::tl f 26 5 (t3::v7::tl f 33 5 (t10::v12::t0::t1::t2::t4::v14::t3::v17::v18::t0::t1::t2::t4::v18::v21::v22::v22::v23::t0::t1::t2::t4::v25::t2::v28::v21::t1::v29::v30::t10::t10::v31::v32::v32::v33::v34::v35::t0::t1::t2::t4::v37::t1::v41::v41::v42::v43::v44::v45::v46::v47::v48::v49::v50::v51::v53::v56::v57::v58::tl f 98 7 (v63::t0::t1::t2::v30::t4::v63::v66::v67::v67::v66::t1::v68::t2::v66::v69::v1::v70::v68::v69::v71::tl f 126 11 (v69::v70::v78::t0::v66::v79::t2::v17::t4::v80::v66::[])))))),h81,n82,[]⟩)));
bif (rWant true v41) then (callV CC v42 [v47,v51] h38 (n39+17) fun v83 h84 n85=>
k52 v83 h84 n85) else k52 undefV h38 (n39+17))) else (
oK (binop CC .gtr 3 true t1 (.s (.int .i64 0))) fun v86=>
oK (bif (rWant true v86) then some t4 else some undefV) fun v87=>
oK (bif (rWant true v86) then some t0 else some undefV) fun v88=>
oK (bif (rWant true v86) then some t1 else some undefV) fun v89=>
oK (bif (rWant true v86) then binop CC .sub 3 true v89 (.s (.int .i64 1)) else some undefV) fun v90=>
oK (bif (rWant true v86) then indexAddr CC 128 v88 v90 else some undefV) fun v91=>
oK ((bif (rWant true v86) then normO (rLoad CC 30 h26 v91) else some undefV)) fun v92=>
oK (bif (rWant true v86) then some t0 else some undefV) fun v93=>
oK (bif (rWant true v86) then some v30 else some undefV) fun v94=>
oK (bif (rWant true v86) then indexAddr CC 128 v93 v94 else some undefV) fun v95=>
oK ((bif (rWant true v86) then normO (rLoad CC 30 h26 v95) else some undefV)) fun v96=>
let k97:=fun (v98:V) (h99:Heap) (n100:Nat)=>(
(True∧True∧True) ∧
oK (bif (rWant true v86) then binop CC .lss 3 true v98 (.s (.int .i64 0)) else some undefV) fun v101=>
oK (bif (rWant true v86) then rUn CC .not v101 else some undefV) fun v102=>
oK (rPick v86 v102 (.s (.bool false))) fun v103=>
oK (asBool v103) fun b104=>bif b104 then (
CallK CC 204 [t0,t1,t2,v30,t4] h99 n100 fun v105 h106 n107=>
Q .normal ⟨mkTm (t0::v105::t2::v17::t4::tl f 5 5 (t10::t11::v1::v30::(.s (.int .i64 1))::v105::tl f 16 5 (t2::t1::v1::v1::v2::tl f 26 5 (t3::v7::tl f 33 5 (t10::v12::t0::t1::t2::t4::v14::t3::v17::v18::t0::t1::t2::t4::v18::v21::v22::v22::v23::t0::t1::t2::t4::v25::t2::v28::v21::t1::v29::v30::t10::t10::v31::v32::v32::v33::v34::v35::tl f 76 5 (t1::v86::v86::v87::v88::v89::v90::v91::v92::v93::v94::v95::v96::v98::v101::v102::v103::t0::t1::t2::v30::t4::v105::v105::tl f 105 43 [])))))),h106,n107,[]⟩) else (
CallK CC 205 [t0,t1,t2,v30,t4] h99 n100 fun v108 h109 n110=>
oK (rExt v108 0) fun v111=>
oK (rExt v108 1) fun v112=>
oK (binop CC .sub 3 false v111 t1) fun v113=>
oK (binop CC .sub 3 false t2 v111) fun v114=>
oK (binop CC .quo 3 true v1 (.s (.int .i64 8))) fun v115=>
oK (binop CC .lss 3 false v113 v114) fun v116=>
oK (asBool v116) fun b117=>bif b117 then (
oK (binop CC .geq 3 false v113 v115) fun v118=>
CallK CC 159 [t0,t1,v111,v17,t4] h109 n110 fun v119 h120 n121=>
oK (binop CC .add 3 true v111 (.s (.int .i64 1))) fun v122=>
Q .normal ⟨mkTm (t0::v122::t2::v17::t4::tl f 5 5 (v118::v112::v1::v30::(.s (.int .i64 1))::(f 15)::v111::v112::v113::v114::v115::t2::t1::v1::v1::v2::tl f 26 5 (t3::v7::tl f 33 5 (t10::v12::t0::t1::t2::t4::v14::t3::v17::v18::t0::t1::t2::t4::v18::v21::v22::v22::v23::t0::t1::t2::t4::v25::t2::v28::v21::t1::v29::v30::t10::t10::v31::v32::v32::v33::v34::v35::tl f 76 5 (t1::v86::v86::v87::v88::v89::v90::v91::v92::v93::v94::v95::v96::v98::v101::v102::v103::tl f 98 7 (v108::t0::t1::t2::v30::t4::v108::v111::v112::v112::v111::t1::v113::t2::v111::v114::v1::v115::v113::v114::v116::v113::v115::v118::t0::t1::v111::v17::t4::v119::v111::v122::tl f 137 11 [])))))),h120,n121,[]⟩) else (
oK (binop CC .geq 3 false v114 v115) fun v123=>
oK (binop CC .add 3 true v111 (.s (.int .i64 1))) fun v124=>
CallK CC 159 [t0,v124,t2,v17,t4] h109 n110 fun v125 h126 n127=>
Q .normal ⟨mkTm (t0::t1::v111::v17::t4::tl f 5 5 (v123::v112::v1::v30::(.s (.int .i64 1))::(f 15)::v111::v112::v113::v114::v115::t2::t1::v1::v1::v2::tl f 26 5 (t3::v7::tl f 33 5 (t10::v12::t0::t1::t2::t4::v14::t3::v17::v18::t0::t1::t2::t4::v18::v21::v22::v22::v23::t0::t1::t2::t4::v25::t2::v28::v21::t1::v29::v30::t10::t10::v31::v32::v32::v33::v34::v35::tl f 76 5 (t1::v86::v86::v87::v88::v89::v90::v91::v92::v93::v94::v95::v96::v98::v101::v102::v103::tl f 98 7 (v108::t0::t1::t2::v30::t4::v108::v111::v112::v112::v111::t1::v113::t2::v111::v114::v1::v115::v113::v114::v116::tl f 126 11 (v114::v115::v123::t0::v111::v124::t2::v17::t4::v125::v111::[]))))))),h126,n127,[]⟩)));
bif (rWant true v86) then (callV CC v87 [v92,v96] h26 (n27+17) fun v128 h129 n130=>
k97 v128 h129 n130) else k97 undefV h26 (n27+17))) else (
oK (bif (rWant true t10) then some t11 else some undefV) fun v131=>
oK (rPick t10 v131 (.s (.bool false))) fun v132=>
oK (bif (rWant true v132) then some v22 else some undefV) fun v133=>
oK (bif (rWant true v132) then binop CC .eql 293 true v133 (.s (.int .i64 1)) else some undefV) fun v134=>
oK (rPick v132 v134 (.s (.bool false))) fun v135=>
oK (asBool v135) fun b136=>bif b136 then (
CallK CC 203 [t0,t1,t2,t4] h19 n20 fun v137 h138 n139=>
oK (asBool v137) fun b140=>bif b140 then (
Q .ret ⟨mkTm (t0::t1::t2::v17::t4::tl f 5 5 (t10::t11::v1::v21::v22::tl f 15 6 (t2::t1::v1::v1::v2::tl f 26 5 (t3::v7::tl f 33 5 (t10::v12::t0::t1::t2::t4::v14::t3::v17::v18::t0::t1::t2::t4::v18::v21::v22::v22::v23::tl f 57 11 (t10::t10::v131::v132::v132::v133::v134::v135::t0::t1::t2::t4::v137::tl f 81 67 [])))))),h138,n139,[]⟩) else (
oK (binop CC .gtr 3 true t1 (.s (.int .i64 0))) fun v141=>
oK (bif (rWant true v141) then some t4 else some undefV) fun v142=>
oK (bif (rWant true v141) then some t0 else some undefV) fun v143=>
oK (bif (rWant true v141) then some t1 else some undefV) fun v144=>
oK (bif (rWant true v141) then binop CC .sub 3 true v144 (.s (.int .i64 1)) else some undefV) fun v145=>
oK (bif (rWant true v141) then indexAddr CC 128 v143 v145 else some undefV) fun v146=>
oK ((bif (rWant true v141) then normO (rLoad CC 30 h138 v146) else some undefV)) fun v147=>
oK (bif (rWant true v141) then some t0 else some undefV) fun v148=>
oK (bif (rWant true v141) then some v21 else some undefV) fun v149=>
oK (bif (rWant true v141) then indexAddr CC 128 v148 v149 else some undefV) fun v150=>
oK ((bif (rWant true v141) then normO (rLoad CC 30 h138 v150) else some undefV)) fun v151=>
let k152:=fun (v153:V) (h154:Heap) (n155:Nat)=>(
(True∧True∧True) ∧
oK (bif (rWant true v141) then binop CC .lss 3 true v153 (.s (.int .i64 0)) else some undefV) fun v156=>
oK (bif (rWant true v141) then rUn CC .not v156 else some undefV) fun v157=>
oK (rPick v141 v157 (.s (.bool false))) fun v158=>
oK (asBool v158) fun b159=>bif b159 then (
CallK CC 204 [t0,t1,t2,v21,t4] h154 n155 fun v160 h161 n162=>
Q .normal ⟨mkTm (t0::v160::t2::v17::t4::tl f 5 5 (t10::t11::v1::v21::v22::v160::tl f 16 5 (t2::t1::v1::v1::v2::tl f 26 5 (t3::v7::tl f 33 5 (t10::v12::t0::t1::t2::t4::v14::t3::v17::v18::t0::t1::t2::t4::v18::v21::v22::v22::v23::tl f 57 11 (t10::t10::v131::v132::v132::v133::v134::v135::t0::t1::t2::t4::v137::t1::v141::v141::v142::v143::v144::v145::v146::v147::v148::v149::v150::v151::v153::v156::v157::v158::t0::t1::t2::v21::t4::v160::v160::tl f 105 43 [])))))),h161,n162,[]⟩) else (
CallK CC 205 [t0,t1,t2,v21,t4] h154 n155 fun v163 h164 n165=>
oK (rExt v163 0) fun v166=>
oK (rExt v163 1) fun v167=>
oK (binop CC .sub 3 false v166 t1) fun v168=>
oK (binop CC .sub 3 false t2 v166) fun v169=>
oK (binop CC .quo 3 true v1 (.s (.int .i64 8))) fun v170=>
oK (binop CC .lss 3 false v168 v169) fun v171=>
oK (asBool v171) fun b172=>bif b172 then (
oK (binop CC .geq 3 false v168 v170) fun v173=>
CallK CC 159 [t0,t1,v166,v17,t4] h164 n165 fun v174 h175 n176=>
oK (binop CC .add 3 true v166 (.s (.int .i64 1))) fun v177=>
Q .normal ⟨mkTm (t0::v177::t2::v17::t4::tl f 5 5 (v173::v167::v1::v21::v22::(f 15)::v166::v167::v168::v169::v170::t2::t1::v1::v1::v2::tl f 26 5 (t3::v7::tl f 33 5 (t10::v12::t0::t1::t2::t4::v14::t3::v17::v18::t0::t1::t2::t4::v18::v21::v22::v22::v23::tl f 57 11 (t10::t10::v131::v132::v132::v133::v134::v135::t0::t1::t2::t4::v137::t1::v141::v141::v142::v143::v144::v145::v146::v147::v148::v149::v150::v151::v153::v156::v157::v158::tl f 98 7 (v163::t0::t1::t2::v21::t4::v163::v166::v167::v167::v166::t1::v168::t2::v166::v169::v1::v170::v168::v169::v171::v168::v170::v173::t0::t1::v166::v17::t4::v174::v166::v177::tl f 137 11 [])))))),h175,n176,[]⟩) else (
oK (binop CC .geq 3 false v169 v170) fun v178=>
oK (binop CC .add 3 true v166 (.s (.int .i64 1))) fun v179=>
CallK CC 159 [t0,v179,t2,v17,t4] h164 n165 fun v180 h181 n182=>
Q .normal ⟨mkTm (t0::t1::v166::v17::t4::tl f 5 5 (v178::v167::v1::v21::v22::(f 15)::v166::v167::v168::v169::v170::t2::t1::v1::v1::v2::tl f 26 5 (t3::v7::tl f 33 5 (t10::v12::t0::t1::t2::t4::v14::t3::v17::v18::t0::t1::t2::t4::v18::v21::v22::v22::v23::tl f 57 11 (t10::t10::v131::v132::v132::v133::v134::v135::t0::t1::t2::t4::v137::t1::v141::v141::v142::v143::v144::v145::v146::v147::v148::v149::v150::v151::v153::v156::v157::v158::tl f 98 7 (v163::t0::t1::t2::v21::t4::v163::v166::v167::v167::v166::t1::v168::t2::v166::v169::v1::v170::v168::v169::v171::tl f 126 11 (v169::v170::v178::t0::v166::v179::t2::v17::t4::v180::v166::[]))))))),h181,n182,[]⟩)));
bif (rWant true v141) then (callV CC v142 [v147,v151] h138 (n139+17) fun v183 h184 n185=>
k152 v183 h184 n185) else k152 undefV h138 (n139+17))) else (
oK (binop CC .gtr 3 true t1 (.s (.int .i64 0))) fun v186=>
oK (bif (rWant true v186) then some t4 else some undefV) fun v187=>
oK (bif (rWant true v186) then some t0 else some undefV) fun v188=>
oK (bif (rWant true v186) then some t1 else some undefV) fun v189=>
oK (bif (rWant true v186) then binop CC .sub 3 true v189 (.s (.int .i64 1)) else some undefV) fun v190=>
oK (bif (rWant true v186) then indexAddr CC 128 v188 v190 else some undefV) fun v191=>
oK ((bif (rWant true v186) then normO (rLoad CC 30 h19 v191) else some undefV)) fun v192=>
oK (bif (rWant true v186) then some t0 else some undefV) fun v193=>
oK (bif (rWant true v186) then some v21 else some undefV) fun v194=>
oK (bif (rWant true v186) then indexAddr CC 128 v193 v194 else some undefV) fun v195=>
oK ((bif (rWant true v186) then normO (rLoad CC 30 h19 v195) else some undefV)) fun v196=>
let k197:=fun (v198:V) (h199:Heap) (n200:Nat)=>(
(True∧True∧True) ∧
oK (bif (rWant true v186) then binop CC .lss 3 true v198 (.s (.int .i64 0)) else some undefV) fun v201=>
oK (bif (rWant true v186) then rUn CC .not v201 else some undefV) fun v202=>
oK (rPick v186 v202 (.s (.bool false))) fun v203=>
oK (asBool v203) fun b204=>bif b204 then (
CallK CC 204 [t0,t1,t2,v21,t4] h199 n200 fun v205 h206 n207=>
Q .normal ⟨mkTm (t0::v205::t2::v17::t4::tl f 5 5 (t10::t11::v1::v21::v22::v205::tl f 16 5 (t2::t1::v1::v1::v2::tl f 26 5 (t3::v7::tl f 33 5 (t10::v12::t0::t1::t2::t4::v14::t3::v17::v18::t0::t1::t2::t4::v18::v21::v22::v22::v23::tl f 57 11 (t10::t10::v131::v132::v132::v133::v134::v135::tl f 76 5 (t1::v186::v186::v187::v188::v189::v190::v191::v192::v193::v194::v195::v196::v198::v201::v202::v203::t0::t1::t2::v21::t4::v205::v205::tl f 105 43 []))))))),h206,n207,[]⟩) else (
CallK CC 205 [t0,t1,t2,v21,t4] h199 n200 fun v208 h209 n210=>
oK (rExt v208 0) fun v211=>
oK (rExt v208 1) fun v212=>
oK (binop CC .sub 3 false v211 t1) fun v213=>
oK (binop CC .sub 3 false t2 v211) fun v214=>
oK (binop CC .quo 3 true v1 (.s (.int .i64 8))) fun v215=>
oK (binop CC .lss 3 false v213 v214) fun v216=>
oK (asBool v216) fun b217=>bif b217 then (
oK (binop CC .geq 3 false v213 v215) fun v218=>
CallK CC 159 [t0,t1,v211,v17,t4] h209 n210 fun v219 h220 n221=>
oK (binop CC .add 3 true v211 (.s (.int .i64 1))) fun v222=>
Q .normal ⟨mkTm (t0::v222::t2::v17::t4::tl f 5 5 (v218::v212::v1::v21::v22::(f 15)::v211::v212::v213::v214::v215::t2::t1::v1::v1::v2::tl f 26 5 (t3::v7::tl f 33 5 (t10::v12::t0::t1::t2::t4::v14::t3::v17::v18::t0::t1::t2::t4::v18::v21::v22::v22::v23::tl f 57 11 (t10::t10::v131::v132::v132::v133::v134::v135::tl f 76 5 (t1::v186::v186::v187::v188::v189::v190::v191::v192::v193::v194::v195::v196::v198::v201::v202::v203::tl f 98 7 (v208::t0::t1::t2::v21::t4::v208::v211::v212::v212::v211::t1::v213::t2::v211::v214::v1::v215::v213::v214::v216::v213::v215::v218::t0::t1::v211::v17::t4::v219::v211::v222::tl f 137 11 []))))))),h220,n221,[]⟩) else (
oK (binop CC .geq 3 false v214 v215) fun v223=>
oK (binop CC .add 3 true v211 (.s (.int .i64 1))) fun v224=>
CallK CC 159 [t0,v224,t2,v17,t4] h209 n210 fun v225 h226 n227=>
Q .normal ⟨mkTm (t0::t1::v211::v17::t4::tl f 5 5 (v223::v212::v1::v21::v22::(f 15)::v211::v212::v213::v214::v215::t2::t1::v1::v1::v2::tl f 26 5 (t3::v7::tl f 33 5 (t10::v12::t0::t1::t2::t4::v14::t3::v17::v18::t0::t1::t2::t4::v18::v21::v22::v22::v23::tl f 57 11 (t10::t10::v131::v132::v132::v133::v134::v135::tl f 76 5 (t1::v186::v186::v187::v188::v189::v190::v191::v192::v193::v194::v195::v196::v198::v201::v202::v203::tl f 98 7 (v208::t0::t1::t2::v21::t4::v208::v211::v212::v212::v211::t1::v213::t2::v211::v214::v1::v215::v213::v214::v216::tl f 126 11 (v214::v215::v223::t0::v211::v224::t2::v17::t4::v225::v211::[])))))))),h226,n227,[]⟩)));
bif (rWant true v186) then (callV CC v187 [v192,v196] h19 (n20+17) fun v228 h229 n230=>
k197 v228 h229 n230) else k197 undefV h19 (n20+17)))) else (
CallK CC 201 [t0,t1,t2,t4] h n fun v231 h232 n233=>
oK (rExt v231 0) fun v234=>
oK (rExt v231 1) fun v235=>
oK (binop CC .eql 293 true v235 (.s (.int .i64 2))) fun v236=>
oK (asBool v236) fun b237=>bif b237 then (
CallK CC 202 [t0,t1,t2,t4] h232 n233 fun v238 h239 n240=>
oK (binop CC .sub 3 true t2 (.s (.int .i64 1))) fun v241=>
oK (binop CC .sub 3 false v234 t1) fun v242=>
oK (binop CC .sub 3 false v241 v242) fun v243=>
oK (bif (rWant true t10) then some t11 else some undefV) fun v244=>
oK (rPick t10 v244 (.s (.bool false))) fun v245=>
oK (bif (rWant true v245) then some (.s (.int .i64 1)) else some undefV) fun v246=>
oK (bif (rWant true v245) then binop CC .eql 293 true v246 (.s (.int .i64 1)) else some undefV) fun v247=>
oK (rPick v245 v247 (.s (.bool false))) fun v248=>
oK (asBool v248) fun b249=>bif b249 then (
CallK CC 203 [t0,t1,t2,t4] h239 n240 fun v250 h251 n252=>
oK (asBool v250) fun b253=>bif b253 then (
Q .ret ⟨mkTm (t0::t1::t2::t3::t4::tl f 5 5 (t10::t11::v1::v243::(.s (.int .i64 1))::tl f 15 6 (t2::t1::v1::v1::v2::tl f 26 5 (t3::v7::tl f 33 5 (t10::v12::tl f 40 7 (v231::t0::t1::t2::t4::v231::v234::v235::v235::v236::t0::t1::t2::t4::v238::t2::v241::v234::t1::v242::v243::t10::t10::v244::v245::v245::v246::v247::v248::t0::t1::t2::t4::v250::tl f 81 67 [])))))),h251,n252,[]⟩) else (
oK (binop CC .gtr 3 true t1 (.s (.int .i64 0))) fun v254=>
oK (bif (rWant true v254) then some t4 else some undefV) fun v255=>
oK (bif (rWant true v254) then some t0 else some undefV) fun v256=>
oK (bif (rWant true v254) then some t1 else some undefV) fun v257=>
oK (bif (rWant true v254) then binop CC .sub 3 true v257 (.s (.int .i64 1)) else some undefV) fun v258=>
oK (bif (rWant true v254) then indexAddr CC 128 v256 v258 else some undefV) fun v259=>
oK ((bif (rWant true v254) then normO (rLoad CC 30 h251 v259) else some undefV)) fun v260=>
oK (bif (rWant true v254) then some t0 else some undefV) fun v261=>
oK (bif (rWant true v254) then some v243 else some undefV) fun v262=>
oK (bif (rWant true v254) then indexAddr CC 128 v261 v262 else some undefV) fun v263=>
oK ((bif (rWant true v254) then normO (rLoad CC 30 h251 v263) else some undefV)) fun v264=>
let k265:=fun (v266:V) (h267:Heap) (n268:Nat)=>(
(True∧True∧True) ∧
oK (bif (rWant true v254) then binop CC .lss 3 true v266 (.s (.int .i64 0)) else some undefV) fun v269=>
oK (bif (rWant true v254) then rUn CC .not v269 else some undefV) fun v270=>
oK (rPick v254 v270 (.s (.bool false))) fun v271=>
oK (asBool v271) fun b272=>bif b272 then (
CallK CC 204 [t0,t1,t2,v243,t4] h267 n268 fun v273 h274 n275=>
Q .normal ⟨mkTm (t0::v273::t2::t3::t4::tl f 5 5 (t10::t11::v1::v243::(.s (.int .i64 1))::v273::tl f 16 5 (t2::t1::v1::v1::v2::tl f 26 5 (t3::v7::tl f 33 5 (t10::v12::tl f 40 7 (v231::t0::t1::t2::t4::v231::v234::v235::v235::v236::t0::t1::t2::t4::v238::t2::v241::v234::t1::v242::v243::t10::t10::v244::v245::v245::v246::v247::v248::t0::t1::t2::t4::v250::t1::v254::v254::v255::v256::v257::v258::v259::v260::v261::v262::v263::v264::v266::v269::v270::v271::t0::t1::t2::v243::t4::v273::v273::tl f 105 43 [])))))),h274,n275,[]⟩) else (
CallK CC 205 [t0,t1,t2,v243,t4] h267 n268 fun v276 h277 n278=>
oK (rExt v276 0) fun v279=>
oK (rExt v276 1) fun v280=>
oK (binop CC .sub 3 false v279 t1) fun v281=>
oK (binop CC .sub 3 false t2 v279) fun v282=>
oK (binop CC .quo 3 true v1 (.s (.int .i64 8))) fun v283=>
oK (binop CC .lss 3 false v281 v282) fun v284=>
oK (asBool v284) fun b285=>bif b285 then (
oK (binop CC .geq 3 false v281 v283) fun v286=>
CallK CC 159 [t0,t1,v279,t3,t4] h277 n278 fun v287 h288 n289=>
oK (binop CC .add 3 true v279 (.s (.int .i64 1))) fun v290=>
Q .normal ⟨mkTm (t0::v290::t2::t3::t4::tl f 5 5 (v286::v280::v1::v243::(.s (.int .i64 1))::(f 15)::v279::v280::v281::v282::v283::t2::t1::v1::v1::v2::tl f 26 5 (t3::v7::tl f 33 5 (t10::v12::tl f 40 7 (v231::t0::t1::t2::t4::v231::v234::v235::v235::v236::t0::t1::t2::t4::v238::t2::v241::v234::t1::v242::v243::t10::t10::v244::v245::v245::v246::v247::v248::t0::t1::t2::t4::v250::t1::v254::v254::v255::v256::v257::v258::v259::v260::v261::v262::v263::v264::v266::v269::v270::v271::tl f 98 7 (v276::t0::t1::t2::v243::t4::v276::v279::v280::v280::v279::t1::v281::t2::v279::v282::v1::v283::v281::v282::v284::v281::v283::v286::t0::t1::v279::t3::t4::v287::v279::v290::tl f 137 11 [])))))),h288,n289,[]⟩) else (
oK (binop CC .geq 3 false v282 v283) fun v291=>
oK (binop CC .add 3 true v279 (.s (.int .i64 1))) fun v292=>
CallK CC 159 [t0,v292,t2,t3,t4] h277 n278 fun v293 h294 n295=>
Q .normal ⟨mkTm (t0::t1::v279::t3::t4::tl f 5 5 (v291::v280::v1::v243::(.s (.int .i64 1))::(f 15)::v279::v280::v281::v282::v283::t2::t1::v1::v1::v2::tl f 26 5 (t3::v7::tl f 33 5 (t10::v12::tl f 40 7 (v231::t0::t1::t2::t4::v231::v234::v235::v235::v236::t0::t1::t2::t4::v238::t2::v241::v234::t1::v242::v243::t10::t10::v244::v245::v245::v246::v247::v248::t0::t1::t2::t4::v250::t1::v254::v254::v255::v256::v257::v258::v259::v260::v261::v262::v263::v264::v266::v269::v270::v271::tl f 98 7 (v276::t0::t1::t2::v243::t4::v276::v279::v280::v280::v279::t1::v281::t2::v279::v282::v1::v283::v281::v282::v284::tl f 126 11 (v282::v283::v291::t0::v279::v292::t2::t3::t4::v293::v279::[]))))))),h294,n295,[]⟩)));
bif (rWant true v254) then (callV CC v255 [v260,v264] h251 (n252+17) fun v296 h297 n298=>
k265 v296 h297 n298) else k265 undefV h251 (n252+17))) else (
oK (binop CC .gtr 3 true t1 (.s (.int .i64 0))) fun v299=>
oK (bif (rWant true v299) then some t4 else some undefV) fun v300=>
oK (bif (rWant true v299) then some t0 else some undefV) fun v301=>
oK (bif (rWant true v299) then some t1 else some undefV) fun v302=>
oK (bif (rWant true v299) then binop CC .sub 3 true v302 (.s (.int .i64 1)) else some undefV) fun v303=>
oK (bif (rWant true v299) then indexAddr CC 128 v301 v303 else some undefV) fun v304=>
oK ((bif (rWant true v299) then normO (rLoad CC 30 h239 v304) else some undefV)) fun v305=>
oK (bif (rWant true v299) then some t0 else some undefV) fun v306=>
oK (bif (rWant true v299) then some v243 else some undefV) fun v307=>
oK (bif (rWant true v299) then indexAddr CC 128 v306 v307 else some undefV) fun v308=>
oK ((bif (rWant true v299) then normO (rLoad CC 30 h239 v308) else some undefV)) fun v309=>
let k310:=fun (v311:V) (h312:Heap) (n313:Nat)=>(
(True∧True∧True) ∧
oK (bif (rWant true v299) then binop CC .lss 3 true v311 (.s (.int .i64 0)) else some undefV) fun v314=>
oK (bif (rWant true v299) then rUn CC .not v314 else some undefV) fun v315=>
oK (rPick v299 v315 (.s (.bool false))) fun v316=>
oK (asBool v316) fun b317=>bif b317 then (
CallK CC 204 [t0,t1,t2,v243,t4] h312 n313 fun v318 h319 n320=>
Q .normal ⟨mkTm (t0::v318::t2::t3::t4::tl f 5 5 (t10::t11::v1::v243::(.s (.int .i64 1))::v318::tl f 16 5 (t2::t1::v1::v1::v2::tl f 26 5 (t3::v7::tl f 33 5 (t10::v12::tl f 40 7 (v231::t0::t1::t2::t4::v231::v234::v235::v235::v236::t0::t1::t2::t4::v238::t2::v241::v234::t1::v242::v243::t10::t10::v244::v245::v245::v246::v247::v248::tl f 76 5 (t1::v299::v299::v300::v301::v302::v303::v304::v305::v306::v307::v308::v309::v311::v314::v315::v316::t0::t1::t2::v243::t4::v318::v318::tl f 105 43 []))))))),h319,n320,[]⟩) else (
CallK CC 205 [t0,t1,t2,v243,t4] h312 n313 fun v321 h322 n323=>
oK (rExt v321 0) fun v324=>
oK (rExt v321 1) fun v325=>
oK (binop CC .sub 3 false v324 t1) fun v326=>
oK (binop CC .sub 3 false t2 v324) fun v327=>
oK (binop CC .quo 3 true v1 (.s (.int .i64 8))) fun v328=>
oK (binop CC .lss 3 false v326 v327) fun v329=>
oK (asBool v329) fun b330=>bif b330 then (
oK (binop CC .geq 3 false v326 v328) fun v331=>
CallK CC 159 [t0,t1,v324,t3,t4] h322 n323 fun v332 h333 n334=>
oK (binop CC .add 3 true v324 (.s (.int .i64 1))) fun v335=>
Q .normal ⟨mkTm (t0::v335::t2::t3::t4::tl f 5 5 (v331::v325::v1::v243::(.s (.int .i64 1))::(f 15)::v324::v325::v326::v327::v328::t2::t1::v1::v1::v2::tl f 26 5 (t3::v7::tl f 33 5 (t10::v12::tl f 40 7 (v231::t0::t1::t2::t4::v231::v234::v235::v235::v236::t0::t1::t2::t4::v238::t2::v241::v234::t1::v242::v243::t10::t10::v244::v245::v245::v246::v247::v248::tl f 76 5 (t1::v299::v299::v300::v301::v302::v303::v304::v305::v306::v307::v308::v309::v311::v314::v315::v316::tl f 98 7 (v321::t0::t1::t2::v243::t4::v321::v324::v325::v325::v324::t1::v326::t2::v324::v327::v1::v328::v326::v327::v329::v326::v328::v331::t0::t1::v324::t3::t4::v332::v324::v335::tl f 137 11 []))))))),h333,n334,[]⟩) else (
oK (binop CC .geq 3 false v327 v328) fun v336=>
oK (binop CC .add 3 true v324 (.s (.int .i64 1))) fun v337=>
CallK CC 159 [t0,v337,t2,t3,t4] h322 n323 fun v338 h339 n340=>
Q .normal ⟨mkTm (t0::t1::v324::t3::t4::tl f 5 5 (v336::v325::v1::v243::(.s (.int .i64 1))::(f 15)::v324::v325::v326::v327::v328::t2::t1::v1::v1::v2::tl f 26 5 (t3::v7::tl f 33 5 (t10::v12::tl f 40 7 (v231::t0::t1::t2::t4::v231::v234::v235::v235::v236::t0::t1::t2::t4::v238::t2::v241::v234::t1::v242::v243::t10::t10::v244::v245::v245::v246::v247::v248::tl f 76 5 (t1::v299::v299::v300::v301::v302::v303::v304::v305::v306::v307::v308::v309::v311::v314::v315::v316::tl f 98 7 (v321::t0::t1::t2::v243::t4::v321::v324::v325::v325::v324::t1::v326::t2::v324::v327::v1::v328::v326::v327::v329::tl f 126 11 (v327::v328::v336::t0::v324::v337::t2::t3::t4::v338::v324::[])))))))),h339,n340,[]⟩)));
bif (rWant true v299) then (callV CC v300 [v305,v309] h239 (n240+17) fun v341 h342 n343=>
k310 v341 h342 n343) else k310 undefV h239 (n240+17))) else (
oK (bif (rWant true t10) then some t11 else some undefV) fun v344=>
oK (rPick t10 v344 (.s (.bool false))) fun v345=>
oK (bif (rWant true v345) then some v235 else some undefV) fun v346=>
oK (bif (rWant true v345) then binop CC .eql 293 true v346 (.s (.int .i64 1)) else some undefV) fun v347=>
oK (rPick v345 v347 (.s (.bool false))) fun v348=>
oK (asBool v348) fun b349=>bif b349 then (
CallK CC 203 [t0,t1,t2,t4] h232 n233 fun v350 h351 n352=>
oK (asBool v350) fun b353=>bif b353 then (
Q .ret ⟨mkTm (t0::t1::t2::t3::t4::tl f 5 5 (t10::t11::v1::v234::v235::tl f 15 6 (t2::t1::v1::v1::v2::tl f 26 5 (t3::v7::tl f 33 5 (t10::v12::tl f 40 7 (v231::t0::t1::t2::t4::v231::v234::v235::v235::v236::tl f 57 11 (t10::t10::v344::v345::v345::v346::v347::v348::t0::t1::t2::t4::v350::tl f 81 67 []))))))),h351,n352,[]⟩) else (
oK (binop CC .gtr 3 true t1 (.s (.int .i64 0))) fun v354=>
oK (bif (rWant true v354) then some t4 else some undefV) fun v355=>
oK (bif (rWant true v354) then some t0 else some undefV) fun v356=>
oK (bif (rWant true v354) then some t1 else some undefV) fun v357=>
oK (bif (rWant true v354) then binop CC .sub 3 true v357 (.s (.int .i64 1)) else some undefV) fun v358=>
oK (bif (rWant true v354) then indexAddr CC 128 v356 v358 else some undefV) fun v359=>
oK ((bif (rWant true v354) then normO (rLoad CC 30 h351 v359) else some undefV)) fun v360=>
oK (bif (rWant true v354) then some t0 else some undefV) fun v361=>
oK (bif (rWant true v354) then some v234 else some undefV) fun v362=>
oK (bif (rWant true v354) then indexAddr CC 128 v361 v362 else some undefV) fun v363=>
oK ((bif (rWant true v354) then normO (rLoad CC 30 h351 v363) else some undefV)) fun v364=>
let k365:=fun (v366:V) (h367:Heap) (n368:Nat)=>(
(True∧True∧True) ∧
oK (bif (rWant true v354) then binop CC .lss 3 true v366 (.s (.int .i64 0)) else some undefV) fun v369=>
oK (bif (rWant true v354) then rUn CC .not v369 else some undefV) fun v370=>
oK (rPick v354 v370 (.s (.bool false))) fun v371=>
oK (asBool v371) fun b372=>bif b372 then (
CallK CC 204 [t0,t1,t2,v234,t4] h367 n368 fun v373 h374 n375=>
Q .normal ⟨mkTm (t0::v373::t2::t3::t4::tl f 5 5 (t10::t11::v1::v234::v235::v373::tl f 16 5 (t2::t1::v1::v1::v2::tl f 26 5 (t3::v7::tl f 33 5 (t10::v12::tl f 40 7 (v231::t0::t1::t2::t4::v231::v234::v235::v235::v236::tl f 57 11 (t10::t10::v344::v345::v345::v346::v347::v348::t0::t1::t2::t4::v350::t1::v354::v354::v355::v356::v357::v358::v359::v360::v361::v362::v363::v364::v366::v369::v370::v371::t0::t1::t2::v234::t4::v373::v373::tl f 105 43 []))))))),h374,n375,[]⟩) else (
CallK CC 205 [t0,t1,t2,v234,t4] h367 n368 fun v376 h377 n378=>
oK (rExt v376 0) fun v379=>
oK (rExt v376 1) fun v380=>
oK (binop CC .sub 3 false v379 t1) fun v381=>
oK (binop CC .sub 3 false t2 v379) fun v382=>
oK (binop CC .quo 3 true v1 (.s (.int .i64 8))) fun v383=>
oK (binop CC .lss 3 false v381 v382) fun v384=>
oK (asBool v384) fun b385=>bif b385 then (
oK (binop CC .geq 3 false v381 v383) fun v386=>
CallK CC 159 [t0,t1,v379,t3,t4] h377 n378 fun v387 h388 n389=>
oK (binop CC .add 3 true v379 (.s (.int .i64 1))) fun v390=>
Q .normal ⟨mkTm (t0::v390::t2::t3::t4::tl f 5 5 (v386::v380::v1::v234::v235::(f 15)::v379::v380::v381::v382::v383::t2::t1::v1::v1::v2::tl f 26 5 (t3::v7::tl f 33 5 (t10::v12::tl f 40 7 (v231::t0::t1::t2::t4::v231::v234::v235::v235::v236::tl f 57 11 (t10::t10::v344::v345::v345::v346::v347::v348::t0::t1::t2::t4::v350::t1::v354::v354::v355::v356::v357::v358::v359::v360::v361::v362::v363::v364::v366::v369::v370::v371::tl f 98 7 (v376::t0::t1::t2::v234::t4::v376::v379::v380::v380::v379::t1::v381::t2::v379::v382::v1::v383::v381::v382::v384::v381::v383::v386::t0::t1::v379::t3::t4::v387::v379::v390::tl f 137 11 []))))))),h388,n389,[]⟩) else (
oK (binop CC .geq 3 false v382 v383) fun v391=>
oK (binop CC .add 3 true v379 (.s (.int .i64 1))) fun v392=>
CallK CC 159 [t0,v392,t2,t3,t4] h377 n378 fun v393 h394 n395=>
Q .normal ⟨mkTm (t0::t1::v379::t3::t4::tl f 5 5 (v391::v380::v1::v234::v235::(f 15)::v379::v380::v381::v382::v383::t2::t1::v1::v1::v2::tl f 26 5 (t3::v7::tl f 33 5 (t10::v12::tl f 40 7 (v231::t0::t1::t2::t4::v231::v234::v235::v235::v236::tl f 57 11 (t10::t10::v344::v345::v345::v346::v347::v348::t0::t1::t2::t4::v350::t1::v354::v354::v355::v356::v357::v358::v359::v360::v361::v362::v363::v364::v366::v369::v370::v371::tl f 98 7 (v376::t0::t1::t2::v234::t4::v376::v379::v380::v380::v379::t1::v381::t2::v379::v382::v1::v383::v381::v382::v384::tl f 126 11 (v382::v383::v391::t0::v379::v392::t2::t3::t4::v393::v379::[])))))))),h394,n395,[]⟩)));
bif (rWant true v354) then (callV CC v355 [v360,v364] h351 (n352+17) fun v396 h397 n398=>
k365 v396 h397 n398) else k365 undefV h351 (n352+17))) else (
oK (binop CC .gtr 3 true t1 (.s (.int .i64 0))) fun v399=>
oK (bif (rWant true v399) then some t4 else some undefV) fun v400=>
oK (bif (rWant true v399) then some t0 else some undefV) fun v401=>
oK (bif (rWant true v399) then some t1 else some undefV) fun v402=>
oK (bif (rWant true v399) then binop CC .sub 3 true v402 (.s (.int .i64 1)) else some undefV) fun v403=>
oK (bif (rWant true v399) then indexAddr CC 128 v401 v403 else some undefV) fun v404=>
oK ((bif (rWant true v399) then normO (rLoad CC 30 h232 v404) else some undefV)) fun v405=>
oK (bif (rWant true v399) then some t0 else some undefV) fun v406=>
oK (bif (rWant true v399) then some v234 else some undefV) fun v407=>
oK (bif (rWant true v399) then indexAddr CC 128 v406 v407 else some undefV) fun v408=>
oK ((bif (rWant true v399) then normO (rLoad CC 30 h232 v408) else some undefV)) fun v409=>
let k410:=fun (v411:V) (h412:Heap) (n413:Nat)=>(
(True∧True∧True) ∧
oK (bif (rWant true v399) then binop CC .lss 3 true v411 (.s (.int .i64 0)) else some undefV) fun v414=>
oK (bif (rWant true v399) then rUn CC .not v414 else some undefV) fun v415=>
oK (rPick v399 v415 (.s (.bool false))) fun v416=>
oK (asBool v416) fun b417=>bif b417 then (
CallK CC 204 [t0,t1,t2,v234,t4] h412 n413 fun v418 h419 n420=>
Q .normal ⟨mkTm (t0::v418::t2::t3::t4::tl f 5 5 (t10::t11::v1::v234::v235::v418::tl f 16 5 (t2::t1::v1::v1::v2::tl f 26 5 (t3::v7::tl f 33 5 (t10::v12::tl f 40 7 (v231::t0::t1::t2::t4::v231::v234::v235::v235::v236::tl f 57 11 (t10::t10::v344::v345::v345::v346::v347::v348::tl f 76 5 (t1::v399::v399::v400::v401::v402::v403::v404::v405::v406::v407::v408::v409::v411::v414::v415::v416::t0::t1::t2::v234::t4::v418::v418::tl f 105 43 [])))))))),h419,n420,[]⟩) else (
CallK CC 205 [t0,t1,t2,v234,t4] h412 n413 fun v421 h422 n423=>
oK (rExt v421 0) fun v424=>
oK (rExt v421 1) fun v425=>
oK (binop CC .sub 3 false v424 t1) fun v426=>
oK (binop CC .sub 3 false t2 v424) fun v427=>
oK (binop CC .quo 3 true v1 (.s (.int .i64 8))) fun v428=>
oK (binop CC .lss 3 false v426 v427) fun v429=>
oK (asBool v429) fun b430=>bif b430 then (
oK (binop CC .geq 3 false v426 v428) fun v431=>
CallK CC 159 [t0,t1,v424,t3,t4] h422 n423 fun v432 h433 n434=>
oK (binop CC .add 3 true v424 (.s (.int .i64 1))) fun v435=>
Q .normal ⟨mkTm (t0::v435::t2::t3::t4::tl f 5 5 (v431::v425::v1::v234::v235::(f 15)::v424::v425::v426::v427::v428::t2::t1::v1::v1::v2::tl f 26 5 (t3::v7::tl f 33 5 (t10::v12::tl f 40 7 (v231::t0::t1::t2::t4::v231::v234::v235::v235::v236::tl f 57 11 (t10::t10::v344::v345::v345::v346::v347::v348::tl f 76 5 (t1::v399::v399::v400::v401::v402::v403::v404::v405::v406::v407::v408::v409::v411::v414::v415::v416::tl f 98 7 (v421::t0::t1::t2::v234::t4::v421::v424::v425::v425::v424::t1::v426::t2::v424::v427::v1::v428::v426::v427::v429::v426::v428::v431::t0::t1::v424::t3::t4::v432::v424::v435::tl f 137 11 [])))))))),h433,n434,[]⟩) else (
oK (binop CC .geq 3 false v427 v428) fun v436=>
oK (binop CC .add 3 true v424 (.s (.int .i64 1))) fun v437=>
CallK CC 159 [t0,v437,t2,t3,t4] h422 n423 fun v438 h439 n440=>
Q .normal ⟨mkTm (t0::t1::v424::t3::t4::tl f 5 5 (v436::v425::v1::v234::v235::(f 15)::v424::v425::v426::v427::v428::t2::t1::v1::v1::v2::tl f 26 5 (t3::v7::tl f 33 5 (t10::v12::tl f 40 7 (v231::t0::t1::t2::t4::v231::v234::v235::v235::v236::tl f 57 11 (t10::t10::v344::v345::v345::v346::v347::v348::tl f 76 5 (t1::v399::v399::v400::v401::v402::v403::v404::v405::v406::v407::v408::v409::v411::v414::v415::v416::tl f 98 7 (v421::t0::t1::t2::v234::t4::v421::v424::v425::v425::v424::t1::v426::t2::v424::v427::v1::v428::v426::v427::v429::tl f 126 11 (v427::v428::v436::t0::v424::v437::t2::t3::t4::v438::v424::[]))))))))),h439,n440,[]⟩)));
bif (rWant true v399) then (callV CC v400 [v405,v409] h232 (n233+17) fun v441 h442 n443=>
k410 v441 h442 n443) else k410 undefV h232 (n233+17))))))):=Wp.eq_of (by kernel_rfl)
theorem F162:CC.F.get 162=some Tryz.f162:=by kernel_rfl
theorem F162_eq {K:Ko}:Wp CC (bodyOf Tryz.f162) ⟨initTm Tryz.f162 [t0,t1],h,n,[]⟩ (retW CC Tryz.f162 K)=(
CallK CC 208 [t0,t1] h n fun v1 h2 n3=>
oK (binop CC .geq 3 true v1 (.s (.int .i64 0))) fun v4=>
K v4 h2 n3):=Wp.eq_of (by kernel_rfl)
theorem F162_call {K:Ko} (H:HCall CC Tryz.f162 [t0,t1] h n K):CallK CC 162 [t0,t1] h n K:=callK_by CCok F162 (by kernel_rfl) (by kernel_rfl) H
theorem F163:CC.F.get 163=some Tryz.f163:=by kernel_rfl
theorem F163_eq {K:Ko}:Wp CC (bodyOf Tryz.f163) ⟨initTm Tryz.f163 [t0,t1],h,n,[]⟩ (retW CC Tryz.f163 K)=(
oK (V.cells t0) fun c1=>
let h2:=h.set n (.cells (.lst c1.toList) 3); let n3:=n+1;
let h4:=h2.set n3 (.cells (.lst (zr CC 198).toList) 3); let n5:=n3+1;
oK (rFA CC 198 0 (.ptr n 0)) fun v6=>
oK (normO (rLoad CC 196 h4 v6)) fun v7=>
oK (rFA CC 198 1 (.ptr n 0)) fun v8=>
oK (normO (rLoad CC 3 h4 v8)) fun v9=>
oK (binop CC .add 3 true v9 (.s (.int .i64 1))) fun v10=>
CallK CC 209 [t1] h4 (n5+11) fun v11 h12 n13=>
(normO (rLoad CC 3 h12 v8)=some v9∧normO (rLoad CC 196 h12 v6)=some v7∧True) ∧
oK (binop CC .add 196 false v7 v11) fun v14=>
oK (normO (build CC 198 [(0,v14),(1,v10),(2,t1)])) fun v15=>
oK (asPtr (.ptr n3 0)) fun p16=>oK (store CC h12 198 p16.1 p16.2 v15) fun h17=>
(True∧True∧True) ∧
oK (resultsOf CC (mkTm [t0,t1,(.ptr n 0),undefV,(.ptr n3 0),v6,v7,t1,v11,v14,v8,v9,v10,t1,v15]) h17 [.cell 4 198]) fun vs=>K (oneOf vs) h17 n13):=Wp.eq_of (by kernel_rfl)
theorem F163_call {K:Ko} (H:HCall CC Tryz.f163 [t0,t1] h n K):CallK CC 163 [t0,t1] h n K:=callK_by CCok F163 (by kernel_rfl) (by kernel_rfl) H
theorem F190:CC.F.get 190=some Tryz.f190:=by kernel_rfl
theorem F190_eq {K:Ko}:Wp CC (bodyOf Tryz.f190) ⟨initTm Tryz.f190 ([]:List V),h,n,[]⟩ (retW CC Tryz.f190 K)=(
let h1:=h.set n (.cells (.lst (zr CC 198).toList) 3); let n2:=n+1;
oK (normO (build CC 198 [])) fun v3=>
oK (asPtr (.ptr n 0)) fun p4=>oK (store CC h1 198 p4.1 p4.2 v3) fun h5=>
oK (resultsOf CC (mkTm [(.ptr n 0),v3]) h5 [.cell 0 198]) fun vs=>K (oneOf vs) h5 n2):=Wp.eq_of (by kernel_rfl)
theorem F190_call {K:Ko} (H:HCall CC Tryz.f190 ([]:List V) h n K):CallK CC 190 ([]:List V) h n K:=callK_by CCok F190 (by kernel_rfl) (by kernel_rfl) H
theorem F191:CC.F.get 191=some Tryz.f191:=by kernel_rfl
theorem F191_eq {K:Ko}:Wp CC (bodyOf Tryz.f191) ⟨initTm Tryz.f191 [t0,t1],h,n,[]⟩ (retW CC Tryz.f191 K)=(
oK (V.cells t0) fun c1=>
let h2:=h.set n (.cells (.lst c1.toList) 1); let n3:=n+1;
oK (V.cells t1) fun c4=>
let h5:=h2.set n3 (.cells (.lst c4.toList) 1); let n6:=n3+1;
let h7:=h5.set n6 (.cells (.lst (zr CC 3).toList) 1); let n8:=n6+1;
oK (normO (rLoad CC 30 h7 (.ptr n3 0))) fun v9=>
oK (lenV CC h7 30 v9) fun v10=>
oK (normO (rLoad CC 182 h7 (.ptr n 0))) fun v11=>
oK (rNil v11) fun v12=>
oK (rFA CC 247 0 v12) fun v13=>
oK (normO (rLoad CC 3 h7 v13)) fun v14=>
oK (binop CC .neq 3 false v10 v14) fun v15=>
oK (asBool v15) fun b16=>bif b16 then (
oK (asPtr (.ptr n6 0)) fun p17=>oK (store CC h7 3 p17.1 p17.2 (.s (.int .i64 (-1)))) fun h18=>
oK (resultsOf CC (mkTm [t0,t1,(.ptr n 0),(.ptr n3 0),(.ptr n6 0),undefV,v9,v10,v11,v12,v13,v14,v15,undefV,undefV,undefV,undefV,undefV,undefV,undefV,undefV,undefV,undefV,undefV,undefV,undefV,undefV,undefV,undefV,undefV,undefV,undefV,undefV,undefV,undefV,undefV,undefV,undefV,undefV,undefV,undefV,undefV,undefV]) h18 [.cell 4 3]) fun vs=>K (oneOf vs) h18 (n8+7)) else (
oK (normO (rLoad CC 182 h7 (.ptr n 0))) fun v19=>
oK (normO (rLoad CC 30 h7 (.ptr n3 0))) fun v20=>
CallK CC 192 [v19,v20] h7 (n8+7) fun v21 h22 n23=>
CodeK CC none (subC [1,1,0,1,0] (bodyOf Tryz.f191)) ⟨mkTm (t0::t1::(.ptr n 0)::(.ptr n3 0)::(.ptr n6 0)::undefV::v9::v10::v11::v12::v13::v14::v15::v19::v20::v21::un 27 []),h22,n23,[]⟩ (resume CC none [.blk 0,.sq (subC [1,1,1] (bodyOf Tryz.f191))] (retW CC Tryz.f191 K)))):=Wp.eq_of (by kernel_rfl)
theorem F191_call {K:Ko} (H:HCall CC Tryz.f191 [t0,t1] h n K):CallK CC 191 [t0,t1] h n K:=callK_by CCok F191 (by kernel_rfl) (by kernel_rfl) H
theorem F191_r11010 (t0 t1 t2 t3 t4 t5 t6 t7 t8 t9 t10 t11 t12 t13 t14 t15 t16 t17 t18 t19 t20 t21 t22 t23 t24 t25 t26 t27 t28 t29 t30 t31 t32 t33 t34 t35 t36 t37 t38 t39 t40 t41 t42:V) (h:Heap) (n:Nat) (d:Nat) (K:V→Heap→Nat→Prop):resume CC none [.blk 0,.sq (subC [1,1,1] (bodyOf Tryz.f191))] (retW CC Tryz.f191 K) .normal ⟨mkTm [t0,t1,t2,t3,t4,t5,t6,t7,t8,t9,t10,t11,t12,t13,t14,t15,t16,t17,t18,t19,t20,t21,t22,t23,t24,t25,t26,t27,t28,t29,t30,t31,t32,t33,t34,t35,t36,t37,t38,t39,t40,t41,t42],h,n,[d]⟩=(
oK (asPtr t4) fun p24=>oK (store CC h 3 p24.1 p24.2 (.s (.int .i64 (-1)))) fun h25=>
oK (dropDefs [d] h25) fun h26=>oK (resultsOf CC (mkTm [t0,t1,t2,t3,t4,t5,t6,t7,t8,t9,t10,t11,t12,t13,t14,t15,t16,t17,t18,t19,t20,t21,t22,t23,t24,t25,t26,t27,t28,t29,t30,t31,t32,t33,t34,t35,t36,t37,t38,t39,t40,t41,t42]) h26 [.cell 4 3]) fun vs=>K (oneOf vs) h26 n):=by kernel_rfl
theorem F191_r11010_ret (t0 t1 t2 t3 t4 t5 t6 t7 t8 t9 t10 t11 t12 t13 t14 t15 t16 t17 t18 t19 t20 t21 t22 t23 t24 t25 t26 t27 t28 t29 t30 t31 t32 t33 t34 t35 t36 t37 t38 t39 t40 t41 t42:V) (h:Heap) (n:Nat) (d:Nat) (K:V→Heap→Nat→Prop):resume CC none [.blk 0,.sq (subC [1,1,1] (bodyOf Tryz.f191))] (retW CC Tryz.f191 K) .ret ⟨mkTm [t0,t1,t2,t3,t4,t5,t6,t7,t8,t9,t10,t11,t12,t13,t14,t15,t16,t17,t18,t19,t20,t21,t22,t23,t24,t25,t26,t27,t28,t29,t30,t31,t32,t33,t34,t35,t36,t37,t38,t39,t40,t41,t42],h,n,[d]⟩=(
oK (dropDefs [d] h) fun h27=>oK (resultsOf CC (mkTm [t0,t1,t2,t3,t4,t5,t6,t7,t8,t9,t10,t11,t12,t13,t14,t15,t16,t17,t18,t19,t20,t21,t22,t23,t24,t25,t26,t27,t28,t29,t30,t31,t32,t33,t34,t35,t36,t37,t38,t39,t40,t41,t42]) h27 [.cell 4 3]) fun vs=>K (oneOf vs) h27 n):=by kernel_rfl
theorem F191_f11010:(subC [1,1,0,1,0] (bodyOf Tryz.f191))=.rangeFunc (.tmp 15) #[16] (subC [1,1,0,1,0,0] (bodyOf Tryz.f191)) (subC [1,1,0,1,0,1] (bodyOf Tryz.f191)):=by kernel_rfl
theorem F191_g110100 (t0 t1 t2 t3 t4 t5 t6 t7 t8 t9 t10 t11 t12 t13 t14 t15 t16 t17 t18 t19 t20 t21 t22 t23 t24 t25 t26 t27 t28 t29 t30 t31 t32 t33 t34 t35 t36 t37 t38 t39 t40 t41 t42:V) (l:Nat) (h:Heap) (n:Nat) (Q:X→St→Prop):wpC CC (some l) (subC [1,1,0,1,0,0] (bodyOf Tryz.f191)) ⟨mkTm [t0,t1,t2,t3,t4,t5,t6,t7,t8,t9,t10,t11,t12,t13,t14,t15,t16,t17,t18,t19,t20,t21,t22,t23,t24,t25,t26,t27,t28,t29,t30,t31,t32,t33,t34,t35,t36,t37,t38,t39,t40,t41,t42],h,n,[]⟩ Q=(
Q .normal ⟨mkTm [t0,t1,t2,t3,t4,t16,t6,t7,t8,t9,t10,t11,t12,t13,t14,t15,t16,t17,t18,t19,t20,t21,t22,t23,t24,t25,t26,t27,t28,t29,t30,t31,t32,t33,t34,t35,t36,t37,t38,t39,t40,t41,t42],h,n,[]⟩):=by kernel_rfl
theorem F191_g110101 (t0 t1 t2 t3 t4 t5 t6 t7 t8 t9 t10 t11 t12 t13 t14 t15 t16 t17 t18 t19 t20 t21 t22 t23 t24 t25 t26 t27 t28 t29 t30 t31 t32 t33 t34 t35 t36 t37 t38 t39 t40 t41 t42:V) (l:Nat) (h:Heap) (n:Nat) (Q:X→St→Prop):wpC CC (some l) (subC [1,1,0,1,0,1] (bodyOf Tryz.f191)) ⟨mkTm [t0,t1,t2,t3,t4,t5,t6,t7,t8,t9,t10,t11,t12,t13,t14,t15,t16,t17,t18,t19,t20,t21,t22,t23,t24,t25,t26,t27,t28,t29,t30,t31,t32,t33,t34,t35,t36,t37,t38,t39,t40,t41,t42],h,n,[]⟩ Q=(
oK (normO (rLoad CC 182 h t2)) fun v31=>
oK (rNil v31) fun v32=>
oK (rFA CC 247 4 v32) fun v33=>
oK (normO (rLoad CC 30 h v33)) fun v34=>
oK (indexAddr CC 30 v34 t5) fun v35=>
oK (normO (rLoad CC 5 h v35)) fun v36=>
oK (binop CC .eql 5 true v36 (.s (.int .u8 0))) fun v37=>
oK (asBool v37) fun b38=>bif b38 then (
oK (asPtr t4) fun p39=>oK (store CC h 3 p39.1 p39.2 (.s (.int .i64 (-1)))) fun h40=>
Q .ret ⟨mkTm [t0,t1,t2,t3,t4,t5,t6,t7,t8,t9,t10,t11,t12,t13,t14,t15,t16,v37,v31,v32,v33,v34,t5,v35,v36,v37,t26,t27,t28,t29,t30,t31,t32,t33,t34,t35,t36,t37,t38,t39,t40,t41,t42],h40,n,[]⟩) else (
oK (normO (rLoad CC 182 h t2)) fun v41=>
oK (rNil v41) fun v42=>
oK (rFA CC 247 4 v42) fun v43=>
oK (normO (rLoad CC 30 h v43)) fun v44=>
oK (indexAddr CC 30 v44 t5) fun v45=>
oK (normO (rLoad CC 5 h v45)) fun v46=>
oK (binop CC .eql 5 true v46 (.s (.int .u8 1))) fun v47=>
oK ((bif (rWant true v47) then normO (rLoad CC 182 h t2) else some undefV)) fun v48=>
oK (bif (rWant true v47) then some t5 else some undefV) fun v49=>
oK ((bif (rWant true v47) then normO (rLoad CC 30 h t3) else some undefV)) fun v50=>
let k51:=fun (v52:V) (h53:Heap) (n54:Nat)=>(
((bif (rWant true v47) then normO (rLoad CC 30 h53 t3) else some undefV)=some v50∧True∧True∧True∧True∧True) ∧
let k55:=fun (v56:V) (h57:Heap) (n58:Nat)=>(
(True∧True∧True∧True∧True∧True) ∧
oK (rPick v47 v56 (.s (.bool false))) fun v59=>
oK (asBool v59) fun b60=>bif b60 then (
oK (asPtr t4) fun p61=>oK (store CC h57 3 p61.1 p61.2 t5) fun h62=>
Q .ret ⟨mkTm [t0,t1,t2,t3,t4,t5,t6,t7,t8,t9,t10,t11,t12,t13,t14,t15,t16,v37,v31,v32,v33,v34,t5,v35,v36,v37,v59,v41,v42,v43,v44,t5,v45,v46,v47,v47,v48,v49,v52,v50,v56,v59,t5],h62,n58,[]⟩) else (
Q .normal ⟨mkTm [t0,t1,t2,t3,t4,t5,t6,t7,t8,t9,t10,t11,t12,t13,t14,t15,t16,v37,v31,v32,v33,v34,t5,v35,v36,v37,v59,v41,v42,v43,v44,t5,v45,v46,v47,v47,v48,v49,v52,v50,v56,v59,t42],h57,n58,[]⟩));
bif (rWant true v47) then (CallK CC 218 [v52,v50] h53 n54 fun v63 h64 n65=>
k55 v63 h64 n65) else k55 undefV h53 n54);
bif (rWant true v47) then (CallK CC 193 [v48,v49] h (n+16) fun v66 h67 n68=>
k51 v66 h67 n68) else k51 undefV h (n+16))):=by kernel_rfl
theorem F191_R11010 {t0 t1 t2 t3 t4 t5 t6 t7 t8 t9 t10 t11 t12 t13 t14 t15 t16 t17 t18 t19 t20 t21 t22 t23 t24 t25 t26 t27 t28 t29 t30 t31 t32 t33 t34 t35 t36 t37 t38 t39 t40 t41 t42:V} (x:V) {l:Nat} {h:Heap} {n:Nat} {pend:Option Code} {K:V→Heap→Nat→Prop} (hl:h.get l=some (.loop .ready pend (mkTm [t0,t1,t2,t3,t4,t5,t6,t7,t8,t9,t10,t11,t12,t13,t14,t15,t16,t17,t18,t19,t20,t21,t22,t23,t24,t25,t26,t27,t28,t29,t30,t31,t32,t33,t34,t35,t36,t37,t38,t39,t40,t41,t42]) [16] (subC [1,1,0,1,0,0] (bodyOf Tryz.f191)) (subC [1,1,0,1,0,1] (bodyOf Tryz.f191)))) (H:wpC CC (some l) (subC [1,1,0,1,0,1] (bodyOf Tryz.f191)) ⟨mkTm [t0,t1,t2,t3,t4,x,t6,t7,t8,t9,t10,t11,t12,t13,t14,t15,x,t17,t18,t19,t20,t21,t22,t23,t24,t25,t26,t27,t28,t29,t30,t31,t32,t33,t34,t35,t36,t37,t38,t39,t40,t41,t42],h.set l (.loop .busy pend (mkTm [t0,t1,t2,t3,t4,t5,t6,t7,t8,t9,t10,t11,t12,t13,t14,t15,t16,t17,t18,t19,t20,t21,t22,t23,t24,t25,t26,t27,t28,t29,t30,t31,t32,t33,t34,t35,t36,t37,t38,t39,t40,t41,t42]) [16] (subC [1,1,0,1,0,0] (bodyOf Tryz.f191)) (subC [1,1,0,1,0,1] (bodyOf Tryz.f191))),n,[]⟩ fun x s2=>oK (endRound x l s2.h s2.n) fun r=>K r.1 r.2.1 r.2.2):RoundK CC l [x] h n K:=
 roundK hl (tm1:=mkTm [t0,t1,t2,t3,t4,t5,t6,t7,t8,t9,t10,t11,t12,t13,t14,t15,x,t17,t18,t19,t20,t21,t22,t23,t24,t25,t26,t27,t28,t29,t30,t31,t32,t33,t34,t35,t36,t37,t38,t39,t40,t41,t42]) (by kernel_rfl) (wpC_sound CCok (some l) _ _ _ (by
  rw [F191_g110100]
  refine ⟨rfl,?_⟩
  simp only [setBusy,hl,oK_some]
  exact wpC_sound CCok (some l) _ _ _ H))
theorem F191_E11010 {t0 t1 t2 t3 t4 t5 t6 t7 t8 t9 t10 t11 t12 t13 t14 t15 t16 t17 t18 t19 t20 t21 t22 t23 t24 t25 t26 t27 t28 t29 t30 t31 t32 t33 t34 t35 t36 t37 t38 t39 t40 t41 t42:V} {h:Heap} {n:Nat} {Q:X→St→Prop} {g:FuncId} {first caps:List V} (hf:t15=.func (.func g) first caps) (hc:CallK CC g (first++[.yield (n+1)]++caps) ((h.set n .defd).set (n+1) (.loop .ready none (mkTm [t0,t1,t2,t3,t4,t5,t6,t7,t8,t9,t10,t11,t12,t13,t14,t15,t16,t17,t18,t19,t20,t21,t22,t23,t24,t25,t26,t27,t28,t29,t30,t31,t32,t33,t34,t35,t36,t37,t38,t39,t40,t41,t42]) [16] (subC [1,1,0,1,0,0] (bodyOf Tryz.f191)) (subC [1,1,0,1,0,1] (bodyOf Tryz.f191)))) (n+2) fun _ h' n'=>oK (endLoop (n+1) h') fun e=>Q e.1 ⟨mkTm [t0,t1,t2,t3,t4,t5,t6,t7,t8,t9,t10,t11,t12,t13,t14,t15,t16,t17,t18,t19,t20,t21,t22,t23,t24,t25,t26,t27,t28,t29,t30,t31,t32,t33,t34,t35,t36,t37,t38,t39,t40,t41,t42],e.2,n',[n]⟩):CodeK CC none (subC [1,1,0,1,0] (bodyOf Tryz.f191)) ⟨mkTm [t0,t1,t2,t3,t4,t5,t6,t7,t8,t9,t10,t11,t12,t13,t14,t15,t16,t17,t18,t19,t20,t21,t22,t23,t24,t25,t26,t27,t28,t29,t30,t31,t32,t33,t34,t35,t36,t37,t38,t39,t40,t41,t42],h,n,[]⟩ Q:=by
 rw [F191_f11010]
 refine rangeFuncK (q:=(n+1,⟨mkTm [t0,t1,t2,t3,t4,t5,t6,t7,t8,t9,t10,t11,t12,t13,t14,t15,t16,t17,t18,t19,t20,t21,t22,t23,t24,t25,t26,t27,t28,t29,t30,t31,t32,t33,t34,t35,t36,t37,t38,t39,t40,t41,t42],(h.set n .defd).set (n+1) (.loop .ready none (mkTm [t0,t1,t2,t3,t4,t5,t6,t7,t8,t9,t10,t11,t12,t13,t14,t15,t16,t17,t18,t19,t20,t21,t22,t23,t24,t25,t26,t27,t28,t29,t30,t31,t32,t33,t34,t35,t36,t37,t38,t39,t40,t41,t42]) [16] (subC [1,1,0,1,0,0] (bodyOf Tryz.f191)) (subC [1,1,0,1,0,1] (bodyOf Tryz.f191))),n+2,[n]⟩)) ?_ (by rfl) hc
 rw [← hf]
 exact (by kernel_rfl:evalT CC (mkTm [t0,t1,t2,t3,t4,t5,t6,t7,t8,t9,t10,t11,t12,t13,t14,t15,t16,t17,t18,t19,t20,t21,t22,t23,t24,t25,t26,t27,t28,t29,t30,t31,t32,t33,t34,t35,t36,t37,t38,t39,t40,t41,t42]) (.tmp 15)=some t15)
theorem F192:CC.F.get 192=some Tryz.f192:=by kernel_rfl
theorem F192_eq {K:Ko}:Wp CC (bodyOf Tryz.f192) ⟨initTm Tryz.f192 [t0,t1],h,n,[]⟩ (retW CC Tryz.f192 K)=(
oK (V.cells t0) fun c1=>
let h2:=h.set n (.cells (.lst c1.toList) 1); let n3:=n+1;
oK (V.cells t1) fun c4=>
let h5:=h2.set n3 (.cells (.lst c4.toList) 1); let n6:=n3+1;
K (.func (.func 219) [] [(.ptr n3 0),(.ptr n 0)]) h5 n6):=Wp.eq_of (by kernel_rfl)
theorem F192_call {K:Ko} (H:HCall CC Tryz.f192 [t0,t1] h n K):CallK CC 192 [t0,t1] h n K:=callK_by CCok F192 (by kernel_rfl) (by kernel_rfl) H
theorem F193:CC.F.get 193=some Tryz.f193:=by kernel_rfl
theorem F193_eq {K:Ko}:Wp CC (bodyOf Tryz.f193) ⟨initTm Tryz.f193 [t0,t1],h,n,[]⟩ (retW CC Tryz.f193 K)=(
oK (rNil t0) fun v1=>
oK (rFA CC 247 3 v1) fun v2=>
oK (normO (rLoad CC 30 h v2)) fun v3=>
oK (rNil t0) fun v4=>
oK (rFA CC 247 0 v4) fun v5=>
oK (normO (rLoad CC 3 h v5)) fun v6=>
oK (binop CC .mul 3 false t1 v6) fun v7=>
oK (binop CC .add 3 true t1 (.s (.int .i64 1))) fun v8=>
oK (rNil t0) fun v9=>
oK (rFA CC 247 0 v9) fun v10=>
oK (normO (rLoad CC 3 h v10)) fun v11=>
oK (binop CC .mul 3 false v8 v11) fun v12=>
oK (binop CC .add 3 true t1 (.s (.int .i64 1))) fun v13=>
oK (rNil t0) fun v14=>
oK (rFA CC 247 0 v14) fun v15=>
oK (normO (rLoad CC 3 h v15)) fun v16=>
oK (binop CC .mul 3 false v13 v16) fun v17=>
oK (sliceOp CC 30 v3 (some v7) (some v12) (some v17)) fun v18=>
K v18 h (n+26)):=Wp.eq_of (by kernel_rfl)
theorem F193_call {K:Ko} (H:HCall CC Tryz.f193 [t0,t1] h n K):CallK CC 193 [t0,t1] h n K:=callK_by CCok F193 (by kernel_rfl) (by kernel_rfl) H
theorem F194:CC.F.get 194=some Tryz.f194:=by kernel_rfl
theorem F194_eq {K:Ko}:Wp CC (bodyOf Tryz.f194) ⟨initTm Tryz.f194 [t0,t1],h,n,[]⟩ (retW CC Tryz.f194 K)=(
let h1:=h.set n (.cells (.lst (zr CC 255).toList) 2); let n2:=n+1;
oK (rNil t0) fun v3=>
oK (rFA CC 250 2 v3) fun v4=>
oK (normO (rLoad CC 248 h1 v4)) fun v5=>
oK (indexAddr CC 248 v5 t1) fun v6=>
oK (normO (rLoad CC 255 h1 v6)) fun v7=>
let h8:=h1.set n2 (.cells (.lst (zr CC 255).toList) 2); let n9:=n2+1;
oK (asPtr (.ptr n2 0)) fun p10=>oK (store CC h8 255 p10.1 p10.2 v7) fun h11=>
oK (rNil t0) fun v12=>
oK (rFA CC 250 2 v12) fun v13=>
oK (normO (rLoad CC 248 h11 v13)) fun v14=>
oK (sliceOp CC 248 v14 none (some t1) (some t1)) fun v15=>
oK (rNil t0) fun v16=>
oK (rFA CC 250 2 v16) fun v17=>
oK (normO (rLoad CC 248 h11 v17)) fun v18=>
oK (binop CC .add 3 true t1 (.s (.int .i64 1))) fun v19=>
oK (sliceOp CC 248 v18 (some v19) none none) fun v20=>
appendK CC h11 (n9+19) 248 248 v15 v20 fun v21 h22 n23=>
(True∧True∧True) ∧
oK (rNil t0) fun v24=>
oK (rFA CC 250 2 v24) fun v25=>
oK (asPtr v25) fun p26=>oK (store CC h22 248 p26.1 p26.2 v21) fun h27=>
(True∧True∧True) ∧
oK (normO (rLoad CC 255 h27 (.ptr n2 0))) fun v28=>
oK (asPtr (.ptr n 0)) fun p29=>oK (store CC h27 255 p29.1 p29.2 v28) fun h30=>
oK (resultsOf CC (mkTm [t0,t1,undefV,undefV,(.ptr n 0),(.ptr n2 0),t0,v3,v4,v5,t1,v6,v7,t0,t0,v12,v13,v14,t1,t1,v15,t0,v16,v17,v18,t1,v19,v20,v21,v24,v25,v28]) h30 [.cell 4 255]) fun vs=>K (oneOf vs) h30 n23):=Wp.eq_of (by kernel_rfl)
theorem F194_call {K:Ko} (H:HCall CC Tryz.f194 [t0,t1] h n K):CallK CC 194 [t0,t1] h n K:=callK_by CCok F194 (by kernel_rfl) (by kernel_rfl) H
theorem F195:CC.F.get 195=some Tryz.f195:=by kernel_rfl
theorem F195_eq {K:Ko}:Wp CC (bodyOf Tryz.f195) ⟨initTm Tryz.f195 [t0,t1],h,n,[]⟩ (retW CC Tryz.f195 K)=(
oK (V.cells t1) fun c1=>
let h2:=h.set n (.cells (.lst c1.toList) 2); let n3:=n+1;
oK (normO (rLoad CC 255 h2 (.ptr n 0))) fun v4=>
oK (fillA 2 ((zr CC 255).rep 1) [(0,v4)]) fun c5=>
oK (rNil t0) fun v6=>
oK (rFA CC 250 2 v6) fun v7=>
oK (normO (rLoad CC 248 h2 v7)) fun v8=>
appendK CC (h2.set (n3+2) (.cells c5 2)) (n3+11) 248 248 (.slice (n3+2) 0 1 1 false) v8 fun v9 h10 n11=>
(True∧True∧True) ∧
oK (rNil t0) fun v12=>
oK (rFA CC 250 2 v12) fun v13=>
oK (asPtr v13) fun p14=>oK (store CC h10 248 p14.1 p14.2 v9) fun h15=>
(True∧True∧True) ∧
K (.tup []) h15 n11):=Wp.eq_of (by kernel_rfl)
theorem F195_call {K:Ko} (H:HCall CC Tryz.f195 [t0,t1] h n K):CallK CC 195 [t0,t1] h n K:=callK_by CCok F195 (by kernel_rfl) (by kernel_rfl) H
theorem F196:CC.F.get 196=some Tryz.f196:=by kernel_rfl
theorem F196_eq {K:Ko}:Wp CC (bodyOf Tryz.f196) ⟨initTm Tryz.f196 [t0,t1],h,n,[]⟩ (retW CC Tryz.f196 K)=(
oK (lenV CC h 248 t0) fun v1=>
LoopK CC none (subC [1,0,1,0,0] (bodyOf Tryz.f196)) ⟨mkTm (t0::t1::undefV::undefV::(.s (.int .i64 0))::undefV::t0::v1::(.s (.int .i64 0))::un 10 []),h,n,[]⟩ (resume CC none [.blk 0,.sq (subC [1,1] (bodyOf Tryz.f196))] (retW CC Tryz.f196 K))):=Wp.eq_of (by kernel_rfl)
theorem F196_call {K:Ko} (H:HCall CC Tryz.f196 [t0,t1] h n K):CallK CC 196 [t0,t1] h n K:=callK_by CCok F196 (by kernel_rfl) (by kernel_rfl) H
def F196_L10100 (t0 t1 t7 t8:V) (h:Heap) (n:Nat) (s:St):Prop:=∃ f:Nat→V,s=⟨mkTm (t0::t1::tl f 2 5 (t7::t8::tl f 9 10 [])),h,n,[]⟩
theorem F196_L10100_of {t0 t1 t7 t8:V} {h:Heap} {n:Nat}:F196_L10100 t0 t1 t7 t8 h n ⟨mkTm [t0,t1,t2,t3,t4,t5,t6,t7,t8,t9,t10,t11,t12,t13,t14,t15,t16,t17,t18],h,n,[]⟩:=
 ex_of (by kernel_rfl)
theorem F196_b10100 (f:Nat→V) (t0 t1 t7 t8:V) (h:Heap) (n:Nat) (Q:X→St→Prop):Wp CC (subC [1,0,1,0,0] (bodyOf Tryz.f196)) ⟨mkTm (t0::t1::tl f 2 5 (t7::t8::tl f 9 10 [])),h,n,[]⟩ Q=(
oK (binop CC .lss 3 false t8 t7) fun v2=>
oK (asBool v2) fun b3=>bif b3 then (
oK (indexAddr CC 248 t0 t8) fun v4=>
oK (normO (rLoad CC 255 h v4)) fun v5=>
callV CC t1 [v5] h n fun v6 h7 n8=>
oK (asBool v6) fun b9=>bif b9 then (
Q .ret ⟨mkTm [t0,t1,(f 2),(f 3),t8,t8,(f 6),t7,t8,v2,t8,t1,t0,t8,v4,v5,v6,t8,(f 18)],h7,n8,[]⟩) else (
oK (binop CC .add 3 true t8 (.s (.int .i64 1))) fun v10=>
Q .normal ⟨mkTm (t0::t1::tl f 2 3 (t8::(f 6)::t7::v10::v2::t8::t1::t0::t8::v4::v5::v6::(f 17)::v10::[])),h7,n8,[]⟩)) else (
Q (.exit 0) ⟨mkTm (t0::t1::tl f 2 5 (t7::t8::v2::tl f 10 9 [])),h,n,[]⟩)):=Wp.eq_of (by kernel_rfl)
theorem F196_r10100_0 (f:Nat→V) (t0 t1 t7 t8:V) (h:Heap) (n:Nat) (K:V→Heap→Nat→Prop):resume CC none [.blk 0,.sq (subC [1,1] (bodyOf Tryz.f196))] (retW CC Tryz.f196 K) (.exit 0) ⟨mkTm (t0::t1::tl f 2 5 (t7::t8::tl f 9 10 [])),h,n,[]⟩=(
K (.s (.int .i64 (-1))) h n):=by kernel_rfl
theorem F197:CC.F.get 197=some Tryz.f197:=by kernel_rfl
theorem F197_eq {K:Ko}:Wp CC (bodyOf Tryz.f197) ⟨initTm Tryz.f197 [t0,t1],h,n,[]⟩ (retW CC Tryz.f197 K)=(
oK (V.cells t0) fun c1=>
let h2:=h.set n (.cells (.lst c1.toList) 2); let n3:=n+1;
oK (rFA CC 255 0 (.ptr n 0)) fun v4=>
oK (normO (rLoad CC 9 h2 v4)) fun v5=>
oK (normO (rLoad CC 30 h2 t1)) fun v6=>
oK (convert CC h2 30 9 v6) fun v7=>
oK (binop CC .eql 9 false v5 v7) fun v8=>
K v8 h2 n3):=Wp.eq_of (by kernel_rfl)
theorem F197_call {K:Ko} (H:HCall CC Tryz.f197 [t0,t1] h n K):CallK CC 197 [t0,t1] h n K:=callK_by CCok F197 (by kernel_rfl) (by kernel_rfl) H
theorem F198:CC.F.get 198=some Tryz.f198:=by kernel_rfl
theorem F198_eq {K:Ko}:Wp CC (bodyOf Tryz.f198) ⟨initTm Tryz.f198 [t0,t1,t2,t3],h,n,[]⟩ (retW CC Tryz.f198 K)=(
oK (binop CC .add 3 true t1 (.s (.int .i64 1))) fun v1=>
LoopK CC none (subC [1,0,0] (bodyOf Tryz.f198)) ⟨mkTm (t0::t1::t2::t3::un 4 (v1::undefV::t1::v1::un 41 [])),h,n,[]⟩ (resume CC none [.blk 0] (retW CC Tryz.f198 K))):=Wp.eq_of (by kernel_rfl)
theorem F198_call {K:Ko} (H:HCall CC Tryz.f198 [t0,t1,t2,t3] h n K):CallK CC 198 [t0,t1,t2,t3] h n K:=callK_by CCok F198 (by kernel_rfl) (by kernel_rfl) H
def F198_L100 (t0 t1 t2 t3 t8:V) (h:Heap) (n:Nat) (s:St):Prop:=∃ f:Nat→V,s=⟨mkTm (t0::t1::t2::t3::tl f 4 4 (t8::tl f 9 44 [])),h,n,[]⟩
theorem F198_L100_of {t0 t1 t2 t3 t8:V} {h:Heap} {n:Nat}:F198_L100 t0 t1 t2 t3 t8 h n ⟨mkTm [t0,t1,t2,t3,t4,t5,t6,t7,t8,t9,t10,t11,t12,t13,t14,t15,t16,t17,t18,t19,t20,t21,t22,t23,t24,t25,t26,t27,t28,t29,t30,t31,t32,t33,t34,t35,t36,t37,t38,t39,t40,t41,t42,t43,t44,t45,t46,t47,t48,t49,t50,t51,t52],h,n,[]⟩:=
 ex_of (by kernel_rfl)
theorem F198_b100 (f:Nat→V) (t0 t1 t2 t3 t8:V) (h:Heap) (n:Nat) (Q:X→St→Prop):Wp CC (subC [1,0,0] (bodyOf Tryz.f198)) ⟨mkTm (t0::t1::t2::t3::tl f 4 4 (t8::tl f 9 44 [])),h,n,[]⟩ Q=(
oK (binop CC .lss 3 false t8 t2) fun v2=>
oK (asBool v2) fun b3=>bif b3 then (
LoopK CC none (subC [1,0,0,1,0,0,1,0,0] (bodyOf Tryz.f198)) ⟨mkTm (t0::t1::t2::t3::tl f 4 4 (t8::t8::(f 10)::(f 11)::t8::t2::v2::(f 15)::(f 16)::t8::tl f 18 35 [])),h,n,[]⟩ (resume CC none [.blk 2,.blk 1,.sq (subC [1,0,0,1,1] (bodyOf Tryz.f198))] Q)) else (
Q (.exit 0) ⟨mkTm (t0::t1::t2::t3::tl f 4 4 (t8::tl f 9 3 (t8::t2::v2::tl f 15 38 []))),h,n,[]⟩)):=Wp.eq_of (by kernel_rfl)
def F198_L100100100 (t0 t1 t2 t3 t8 t9:V) (h:Heap) (n:Nat) (s:St):Prop:=∃ f:Nat→V,s=⟨mkTm (t0::t1::t2::t3::tl f 4 4 (t8::t9::tl f 10 43 [])),h,n,[]⟩
theorem F198_L100100100_of {t0 t1 t2 t3 t8 t9:V} {h:Heap} {n:Nat}:F198_L100100100 t0 t1 t2 t3 t8 t9 h n ⟨mkTm [t0,t1,t2,t3,t4,t5,t6,t7,t8,t9,t10,t11,t12,t13,t14,t15,t16,t17,t18,t19,t20,t21,t22,t23,t24,t25,t26,t27,t28,t29,t30,t31,t32,t33,t34,t35,t36,t37,t38,t39,t40,t41,t42,t43,t44,t45,t46,t47,t48,t49,t50,t51,t52],h,n,[]⟩:=
 ex_of (by kernel_rfl)
theorem F198_b100100100 (f:Nat→V) (t0 t1 t2 t3 t8 t9:V) (h:Heap) (n:Nat) (Q:X→St→Prop):Wp CC (subC [1,0,0,1,0,0,1,0,0] (bodyOf Tryz.f198)) ⟨mkTm (t0::t1::t2::t3::tl f 4 4 (t8::t9::tl f 10 43 [])),h,n,[]⟩ Q=(
oK (binop CC .gtr 3 false t9 t1) fun v4=>
oK (bif (rWant true v4) then some t3 else some undefV) fun v5=>
oK (bif (rWant true v4) then some t0 else some undefV) fun v6=>
oK (bif (rWant true v4) then some t9 else some undefV) fun v7=>
oK (bif (rWant true v4) then indexAddr CC 128 v6 v7 else some undefV) fun v8=>
oK ((bif (rWant true v4) then normO (rLoad CC 30 h v8) else some undefV)) fun v9=>
oK (bif (rWant true v4) then some t0 else some undefV) fun v10=>
oK (bif (rWant true v4) then some t9 else some undefV) fun v11=>
oK (bif (rWant true v4) then binop CC .sub 3 true v11 (.s (.int .i64 1)) else some undefV) fun v12=>
oK (bif (rWant true v4) then indexAddr CC 128 v10 v12 else some undefV) fun v13=>
oK ((bif (rWant true v4) then normO (rLoad CC 30 h v13) else some undefV)) fun v14=>
let k15:=fun (v16:V) (h17:Heap) (n18:Nat)=>(
(True∧True∧True) ∧
oK (bif (rWant true v4) then binop CC .lss 3 true v16 (.s (.int .i64 0)) else some undefV) fun v19=>
oK (rPick v4 v19 (.s (.bool false))) fun v20=>
oK (asBool v20) fun b21=>bif b21 then (
oK (binop CC .sub 3 true t9 (.s (.int .i64 1))) fun v22=>
oK (binop CC .sub 3 true t9 (.s (.int .i64 1))) fun v23=>
oK (indexAddr CC 128 t0 v23) fun v24=>
oK (normO (rLoad CC 30 h17 v24)) fun v25=>
oK (indexAddr CC 128 t0 t9) fun v26=>
oK (normO (rLoad CC 30 h17 v26)) fun v27=>
oK (indexAddr CC 128 t0 t9) fun v28=>
oK (asPtr v28) fun p29=>oK (store CC h17 30 p29.1 p29.2 v25) fun h30=>
(True∧True∧True) ∧
oK (indexAddr CC 128 t0 v22) fun v31=>
oK (asPtr v31) fun p32=>oK (store CC h30 30 p32.1 p32.2 v27) fun h33=>
(True∧True∧True) ∧
oK (binop CC .sub 3 true t9 (.s (.int .i64 1))) fun v34=>
Q .normal ⟨mkTm (t0::t1::t2::t3::tl f 4 4 (t8::v34::tl f 10 8 (t9::t1::v4::v4::v5::v6::v7::v8::v9::v10::v11::v12::v13::v14::v16::v19::v20::t9::v34::t0::t9::t0::t9::v22::t0::t9::v23::v24::v25::t0::t9::v26::v27::v28::v31::[]))),h33,(n18+18),[]⟩) else (
Q (.exit 2) ⟨mkTm (t0::t1::t2::t3::tl f 4 4 (t8::t9::tl f 10 8 (t9::t1::v4::v4::v5::v6::v7::v8::v9::v10::v11::v12::v13::v14::v16::v19::v20::tl f 35 18 []))),h17,n18,[]⟩));
bif (rWant true v4) then (callV CC v5 [v9,v14] h (n+17) fun v35 h36 n37=>
k15 v35 h36 n37) else k15 undefV h (n+17)):=Wp.eq_of (by kernel_rfl)
theorem F198_r100100100_2 (f:Nat→V) (t0 t1 t2 t3 t8 t9:V) (h:Heap) (n:Nat) (Q:X→St→Prop):resume CC none [.blk 2,.blk 1,.sq (subC [1,0,0,1,1] (bodyOf Tryz.f198))] Q (.exit 2) ⟨mkTm (t0::t1::t2::t3::tl f 4 4 (t8::t9::tl f 10 43 [])),h,n,[]⟩=(
oK (binop CC .add 3 true t8 (.s (.int .i64 1))) fun v38=>
Q .normal ⟨mkTm (t0::t1::t2::t3::tl f 4 4 (v38::t9::tl f 10 5 (t8::v38::tl f 17 36 []))),h,n,[]⟩):=by kernel_rfl
theorem F198_r100100100_1 (f:Nat→V) (t0 t1 t2 t3 t8 t9:V) (h:Heap) (n:Nat) (Q:X→St→Prop):resume CC none [.blk 2,.blk 1,.sq (subC [1,0,0,1,1] (bodyOf Tryz.f198))] Q (.exit 1) ⟨mkTm (t0::t1::t2::t3::tl f 4 4 (t8::t9::tl f 10 43 [])),h,n,[]⟩=(
oK (binop CC .add 3 true t8 (.s (.int .i64 1))) fun v39=>
Q .normal ⟨mkTm (t0::t1::t2::t3::tl f 4 4 (v39::t9::tl f 10 5 (t8::v39::tl f 17 36 []))),h,n,[]⟩):=by kernel_rfl
theorem F198_r100_0 (f:Nat→V) (t0 t1 t2 t3 t8:V) (h:Heap) (n:Nat) (K:V→Heap→Nat→Prop):resume CC none [.blk 0] (retW CC Tryz.f198 K) (.exit 0) ⟨mkTm (t0::t1::t2::t3::tl f 4 4 (t8::tl f 9 44 [])),h,n,[]⟩=(
K (.tup []) h n):=by kernel_rfl
theorem F199:CC.F.get 199=some Tryz.f199:=by kernel_rfl
theorem F199_eq {K:Ko}:Wp CC (bodyOf Tryz.f199) ⟨initTm Tryz.f199 [t0,t1,t2,t3],h,n,[]⟩ (retW CC Tryz.f199 K)=(
oK (binop CC .sub 3 false t2 t1) fun v1=>
oK (binop CC .sub 3 true v1 (.s (.int .i64 1))) fun v2=>
oK (binop CC .quo 3 true v2 (.s (.int .i64 2))) fun v3=>
LoopK CC none (subC [1,1,1,0,1,0,0] (bodyOf Tryz.f199)) ⟨mkTm (t0::t1::t2::t3::un 4 (t1::(.s (.int .i64 0))::v1::v3::undefV::t1::t2::t1::v1::v1::v2::v3::un 40 [])),h,n,[]⟩ (resume CC none [.blk 0,.sq (subC [1,1,1,1] (bodyOf Tryz.f199))] (retW CC Tryz.f199 K))):=Wp.eq_of (by kernel_rfl)
theorem F199_call {K:Ko} (H:HCall CC Tryz.f199 [t0,t1,t2,t3] h n K):CallK CC 199 [t0,t1,t2,t3] h n K:=callK_by CCok F199 (by kernel_rfl) (by kernel_rfl) H
def F199_L1110100 (t0 t3 t8 t9 t10 t11:V) (h:Heap) (n:Nat) (s:St):Prop:=∃ f:Nat→V,s=⟨mkTm (t0::(f 1)::(f 2)::t3::tl f 4 4 (t8::t9::t10::t11::tl f 12 48 [])),h,n,[]⟩
theorem F199_L1110100_of {t0 t3 t8 t9 t10 t11:V} {h:Heap} {n:Nat}:F199_L1110100 t0 t3 t8 t9 t10 t11 h n ⟨mkTm [t0,t1,t2,t3,t4,t5,t6,t7,t8,t9,t10,t11,t12,t13,t14,t15,t16,t17,t18,t19,t20,t21,t22,t23,t24,t25,t26,t27,t28,t29,t30,t31,t32,t33,t34,t35,t36,t37,t38,t39,t40,t41,t42,t43,t44,t45,t46,t47,t48,t49,t50,t51,t52,t53,t54,t55,t56,t57,t58,t59],h,n,[]⟩:=
 ex_of (by kernel_rfl)
theorem F199_b1110100 (f:Nat→V) (t0 t3 t8 t9 t10 t11:V) (h:Heap) (n:Nat) (Q:X→St→Prop):Wp CC (subC [1,1,1,0,1,0,0] (bodyOf Tryz.f199)) ⟨mkTm (t0::(f 1)::(f 2)::t3::tl f 4 4 (t8::t9::t10::t11::tl f 12 48 [])),h,n,[]⟩ Q=(
oK (binop CC .geq 3 true t11 (.s (.int .i64 0))) fun v4=>
oK (asBool v4) fun b5=>bif b5 then (
CallK CC 221 [t0,t11,t10,t8,t3] h n fun v6 h7 n8=>
oK (binop CC .sub 3 true t11 (.s (.int .i64 1))) fun v9=>
Q .normal ⟨mkTm (t0::(f 1)::(f 2)::t3::tl f 4 4 (t8::t9::t10::v9::tl f 12 8 (t11::v4::t11::v9::t0::t11::t10::t8::t3::v6::tl f 30 30 []))),h7,n8,[]⟩) else (
Q (.exit 0) ⟨mkTm (t0::(f 1)::(f 2)::t3::tl f 4 4 (t8::t9::t10::t11::tl f 12 8 (t11::v4::tl f 22 38 []))),h,n,[]⟩)):=Wp.eq_of (by kernel_rfl)
theorem F199_r1110100_0 (f:Nat→V) (t0 t3 t8 t9 t10 t11:V) (h:Heap) (n:Nat) (K:V→Heap→Nat→Prop):resume CC none [.blk 0,.sq (subC [1,1,1,1] (bodyOf Tryz.f199))] (retW CC Tryz.f199 K) (.exit 0) ⟨mkTm (t0::(f 1)::(f 2)::t3::tl f 4 4 (t8::t9::t10::t11::tl f 12 48 [])),h,n,[]⟩=(
oK (binop CC .sub 3 true t10 (.s (.int .i64 1))) fun v10=>
LoopK CC none (subC [1,1,1,1,1,0,0] (bodyOf Tryz.f199)) ⟨mkTm (t0::(f 1)::(f 2)::t3::tl f 4 4 (t8::t9::t10::t11::v10::tl f 13 17 (t10::v10::tl f 32 28 []))),h,n,[]⟩ (resume CC none [.blk 2] (retW CC Tryz.f199 K))):=by kernel_rfl
def F199_L1111100 (t0 t3 t8 t9 t12:V) (h:Heap) (n:Nat) (s:St):Prop:=∃ f:Nat→V,s=⟨mkTm (t0::(f 1)::(f 2)::t3::tl f 4 4 (t8::t9::(f 10)::(f 11)::t12::tl f 13 47 [])),h,n,[]⟩
theorem F199_L1111100_of {t0 t3 t8 t9 t12:V} {h:Heap} {n:Nat}:F199_L1111100 t0 t3 t8 t9 t12 h n ⟨mkTm [t0,t1,t2,t3,t4,t5,t6,t7,t8,t9,t10,t11,t12,t13,t14,t15,t16,t17,t18,t19,t20,t21,t22,t23,t24,t25,t26,t27,t28,t29,t30,t31,t32,t33,t34,t35,t36,t37,t38,t39,t40,t41,t42,t43,t44,t45,t46,t47,t48,t49,t50,t51,t52,t53,t54,t55,t56,t57,t58,t59],h,n,[]⟩:=
 ex_of (by kernel_rfl)
theorem F199_b1111100 (f:Nat→V) (t0 t3 t8 t9 t12:V) (h:Heap) (n:Nat) (Q:X→St→Prop):Wp CC (subC [1,1,1,1,1,0,0] (bodyOf Tryz.f199)) ⟨mkTm (t0::(f 1)::(f 2)::t3::tl f 4 4 (t8::t9::(f 10)::(f 11)::t12::tl f 13 47 [])),h,n,[]⟩ Q=(
oK (binop CC .geq 3 true t12 (.s (.int .i64 0))) fun v11=>
oK (asBool v11) fun b12=>bif b12 then (
oK (binop CC .add 3 false t8 t12) fun v13=>
oK (binop CC .add 3 false t8 t12) fun v14=>
oK (indexAddr CC 128 t0 v14) fun v15=>
oK (normO (rLoad CC 30 h v15)) fun v16=>
oK (indexAddr CC 128 t0 t8) fun v17=>
oK (normO (rLoad CC 30 h v17)) fun v18=>
oK (indexAddr CC 128 t0 t8) fun v19=>
oK (asPtr v19) fun p20=>oK (store CC h 30 p20.1 p20.2 v16) fun h21=>
(True∧True∧True) ∧
oK (indexAddr CC 128 t0 v13) fun v22=>
oK (asPtr v22) fun p23=>oK (store CC h21 30 p23.1 p23.2 v18) fun h24=>
(True∧True∧True) ∧
CallK CC 221 [t0,t9,t12,t8,t3] h24 (n+20) fun v25 h26 n27=>
oK (binop CC .sub 3 true t12 (.s (.int .i64 1))) fun v28=>
Q .normal ⟨mkTm (t0::(f 1)::(f 2)::t3::tl f 4 4 (t8::t9::(f 10)::(f 11)::v28::tl f 13 19 (t12::v11::t12::v28::t0::t8::t0::t8::t12::v13::t0::t8::t12::v14::v15::v16::t0::t8::v17::v18::v19::v22::t0::t9::t12::t8::t3::v25::[]))),h26,n27,[]⟩) else (
Q (.exit 2) ⟨mkTm (t0::(f 1)::(f 2)::t3::tl f 4 4 (t8::t9::(f 10)::(f 11)::t12::tl f 13 19 (t12::v11::tl f 34 26 []))),h,n,[]⟩)):=Wp.eq_of (by kernel_rfl)
theorem F199_r1111100_2 (f:Nat→V) (t0 t3 t8 t9 t12:V) (h:Heap) (n:Nat) (K:V→Heap→Nat→Prop):resume CC none [.blk 2] (retW CC Tryz.f199 K) (.exit 2) ⟨mkTm (t0::(f 1)::(f 2)::t3::tl f 4 4 (t8::t9::(f 10)::(f 11)::t12::tl f 13 47 [])),h,n,[]⟩=(
K (.tup []) h n):=by kernel_rfl
theorem F200:CC.F.get 200=some Tryz.f200:=by kernel_rfl
theorem F200_eq {K:Ko}:Wp CC (bodyOf Tryz.f200) ⟨initTm Tryz.f200 [t0,t1,t2,t3],h,n,[]⟩ (retW CC Tryz.f200 K)=(
oK (binop CC .sub 3 false t2 t1) fun v1=>
oK (binop CC .geq 3 true v1 (.s (.int .i64 8))) fun v2=>
oK (asBool v2) fun b3=>bif b3 then (
oK (convert CC h 3 313 v1) fun v4=>
let h5:=h.set n (.cells (.lst (zr CC 313).toList) 1); let n6:=n+1;
oK (asPtr (.ptr n 0)) fun p7=>oK (store CC h5 313 p7.1 p7.2 v4) fun h8=>
CallK CC 222 [v1] h8 n6 fun v9 h10 n11=>
oK (binop CC .quo 3 true v1 (.s (.int .i64 4))) fun v12=>
oK (binop CC .mul 3 true v12 (.s (.int .i64 2))) fun v13=>
oK (binop CC .add 3 false t1 v13) fun v14=>
oK (binop CC .sub 3 true v14 (.s (.int .i64 1))) fun v15=>
LoopK CC none (subC [1,1,0,1,1,1,0,0] (bodyOf Tryz.f200)) ⟨mkTm (t0::t1::t2::t3::un 4 (v1::(.ptr n 0)::v9::v15::undefV::t2::t1::v1::v1::v2::v1::v4::v1::v9::t1::v1::v12::v13::v14::v15::un 39 [])),h10,n11,[]⟩ (resume CC none [.blk 0] (retW CC Tryz.f200 K))) else (
K (.tup []) h n)):=Wp.eq_of (by kernel_rfl)
theorem F200_call {K:Ko} (H:HCall CC Tryz.f200 [t0,t1,t2,t3] h n K):CallK CC 200 [t0,t1,t2,t3] h n K:=callK_by CCok F200 (by kernel_rfl) (by kernel_rfl) H
def F200_L11011100 (t0 t1 t8 t9 t10 t11:V) (h:Heap) (n:Nat) (s:St):Prop:=∃ f:Nat→V,s=⟨mkTm (t0::t1::tl f 2 6 (t8::t9::t10::t11::tl f 12 55 [])),h,n,[]⟩
theorem F200_L11011100_of {t0 t1 t8 t9 t10 t11:V} {h:Heap} {n:Nat}:F200_L11011100 t0 t1 t8 t9 t10 t11 h n ⟨mkTm [t0,t1,t2,t3,t4,t5,t6,t7,t8,t9,t10,t11,t12,t13,t14,t15,t16,t17,t18,t19,t20,t21,t22,t23,t24,t25,t26,t27,t28,t29,t30,t31,t32,t33,t34,t35,t36,t37,t38,t39,t40,t41,t42,t43,t44,t45,t46,t47,t48,t49,t50,t51,t52,t53,t54,t55,t56,t57,t58,t59,t60,t61,t62,t63,t64,t65,t66],h,n,[]⟩:=
 ex_of (by kernel_rfl)
theorem F200_b11011100 (f:Nat→V) (t0 t1 t8 t9 t10 t11:V) (h:Heap) (n:Nat) (Q:X→St→Prop):Wp CC (subC [1,1,0,1,1,1,0,0] (bodyOf Tryz.f200)) ⟨mkTm (t0::t1::tl f 2 6 (t8::t9::t10::t11::tl f 12 55 [])),h,n,[]⟩ Q=(
oK (binop CC .quo 3 true t8 (.s (.int .i64 4))) fun v16=>
oK (binop CC .mul 3 true v16 (.s (.int .i64 2))) fun v17=>
oK (binop CC .add 3 false t1 v17) fun v18=>
oK (binop CC .add 3 true v18 (.s (.int .i64 1))) fun v19=>
oK (binop CC .leq 3 false t11 v19) fun v20=>
oK (asBool v20) fun b21=>bif b21 then (
CallK CC 223 [t9] h n fun v22 h23 n24=>
oK (binop CC .sub 203 true t10 (.s (.int .u64 1))) fun v25=>
oK (binop CC .and 203 false v22 v25) fun v26=>
oK (convert CC h23 203 3 v26) fun v27=>
oK (binop CC .geq 3 false v27 t8) fun v28=>
oK (asBool v28) fun b29=>bif b29 then (
oK (binop CC .sub 3 false v27 t8) fun v30=>
oK (binop CC .add 3 false t1 v30) fun v31=>
oK (binop CC .add 3 false t1 v30) fun v32=>
oK (indexAddr CC 128 t0 v32) fun v33=>
oK (normO (rLoad CC 30 h23 v33)) fun v34=>
oK (indexAddr CC 128 t0 t11) fun v35=>
oK (normO (rLoad CC 30 h23 v35)) fun v36=>
oK (indexAddr CC 128 t0 t11) fun v37=>
oK (asPtr v37) fun p38=>oK (store CC h23 30 p38.1 p38.2 v34) fun h39=>
(True∧True∧True) ∧
oK (indexAddr CC 128 t0 v31) fun v40=>
oK (asPtr v40) fun p41=>oK (store CC h39 30 p41.1 p41.2 v36) fun h42=>
(True∧True∧True) ∧
oK (binop CC .add 3 true t11 (.s (.int .i64 1))) fun v43=>
Q .normal ⟨mkTm (t0::t1::tl f 2 6 (t8::t9::t10::v43::v30::tl f 13 15 (t11::t1::t8::v16::v17::v18::v19::v20::t11::v43::v22::t10::v25::v26::v27::v27::t8::v28::v27::t8::v30::t0::t11::t0::t1::v30::v31::t0::t1::v30::v32::v33::v34::t0::t11::v35::v36::v37::v40::[]))),h42,(n24+20),[]⟩) else (
oK (binop CC .add 3 false t1 v27) fun v44=>
oK (binop CC .add 3 false t1 v27) fun v45=>
oK (indexAddr CC 128 t0 v45) fun v46=>
oK (normO (rLoad CC 30 h23 v46)) fun v47=>
oK (indexAddr CC 128 t0 t11) fun v48=>
oK (normO (rLoad CC 30 h23 v48)) fun v49=>
oK (indexAddr CC 128 t0 t11) fun v50=>
oK (asPtr v50) fun p51=>oK (store CC h23 30 p51.1 p51.2 v47) fun h52=>
(True∧True∧True) ∧
oK (indexAddr CC 128 t0 v44) fun v53=>
oK (asPtr v53) fun p54=>oK (store CC h52 30 p54.1 p54.2 v49) fun h55=>
(True∧True∧True) ∧
oK (binop CC .add 3 true t11 (.s (.int .i64 1))) fun v56=>
Q .normal ⟨mkTm (t0::t1::tl f 2 6 (t8::t9::t10::v56::v27::tl f 13 15 (t11::t1::t8::v16::v17::v18::v19::v20::t11::v56::v22::t10::v25::v26::v27::v27::t8::v28::tl f 46 3 (t0::t11::t0::t1::v27::v44::t0::t1::v27::v45::v46::v47::t0::t11::v48::v49::v50::v53::[])))),h55,(n24+20),[]⟩)) else (
Q (.exit 0) ⟨mkTm (t0::t1::tl f 2 6 (t8::t9::t10::t11::tl f 12 16 (t11::t1::t8::v16::v17::v18::v19::v20::tl f 36 31 []))),h,n,[]⟩)):=Wp.eq_of (by kernel_rfl)
theorem F200_r11011100_0 (f:Nat→V) (t0 t1 t8 t9 t10 t11:V) (h:Heap) (n:Nat) (K:V→Heap→Nat→Prop):resume CC none [.blk 0] (retW CC Tryz.f200 K) (.exit 0) ⟨mkTm (t0::t1::tl f 2 6 (t8::t9::t10::t11::tl f 12 55 [])),h,n,[]⟩=(
K (.tup []) h n):=by kernel_rfl
theorem F201:CC.F.get 201=some Tryz.f201:=by kernel_rfl
theorem F201_eq {K:Ko}:Wp CC (bodyOf Tryz.f201) ⟨initTm Tryz.f201 [t0,t1,t2,t3],h,n,[]⟩ (retW CC Tryz.f201 K)=(
oK (binop CC .sub 3 false t2 t1) fun v1=>
let h2:=h.set n (.cells (.lst (zr CC 3).toList) 1); let n3:=n+1;
oK (binop CC .quo 3 true v1 (.s (.int .i64 4))) fun v4=>
oK (binop CC .mul 3 true v4 (.s (.int .i64 1))) fun v5=>
oK (binop CC .add 3 false t1 v5) fun v6=>
oK (binop CC .quo 3 true v1 (.s (.int .i64 4))) fun v7=>
oK (binop CC .mul 3 true v7 (.s (.int .i64 2))) fun v8=>
oK (binop CC .add 3 false t1 v8) fun v9=>
oK (binop CC .quo 3 true v1 (.s (.int .i64 4))) fun v10=>
oK (binop CC .mul 3 true v10 (.s (.int .i64 3))) fun v11=>
oK (binop CC .add 3 false t1 v11) fun v12=>
oK (binop CC .geq 3 true v1 (.s (.int .i64 8))) fun v13=>
oK (asBool v13) fun b14=>bif b14 then (
oK (binop CC .geq 3 true v1 (.s (.int .i64 50))) fun v15=>
oK (asBool v15) fun b16=>bif b16 then (
CallK CC 224 [t0,v6,(.ptr n 0),t3] h2 n3 fun v17 h18 n19=>
CallK CC 224 [t0,v9,(.ptr n 0),t3] h18 n19 fun v20 h21 n22=>
CallK CC 224 [t0,v12,(.ptr n 0),t3] h21 n22 fun v23 h24 n25=>
CallK CC 225 [t0,v17,v20,v23,(.ptr n 0),t3] h24 n25 fun v26 h27 n28=>
oK (normO (rLoad CC 3 h27 (.ptr n 0))) fun v29=>
oK (binop CC .eql 3 true v29 (.s (.int .i64 0))) fun v30=>
oK (asBool v30) fun b31=>bif b31 then (
K (.tup [v26,(.s (.int .i64 1))]) h27 n28) else (
oK (binop CC .eql 3 true v29 (.s (.int .i64 12))) fun v32=>
oK (asBool v32) fun b33=>bif b33 then (
K (.tup [v26,(.s (.int .i64 2))]) h27 n28) else (
K (.tup [v26,(.s (.int .i64 0))]) h27 n28))) else (
CallK CC 225 [t0,v6,v9,v12,(.ptr n 0),t3] h2 n3 fun v34 h35 n36=>
oK (normO (rLoad CC 3 h35 (.ptr n 0))) fun v37=>
oK (binop CC .eql 3 true v37 (.s (.int .i64 0))) fun v38=>
oK (asBool v38) fun b39=>bif b39 then (
K (.tup [v34,(.s (.int .i64 1))]) h35 n36) else (
oK (binop CC .eql 3 true v37 (.s (.int .i64 12))) fun v40=>
oK (asBool v40) fun b41=>bif b41 then (
K (.tup [v34,(.s (.int .i64 2))]) h35 n36) else (
K (.tup [v34,(.s (.int .i64 0))]) h35 n36)))) else (
oK (normO (rLoad CC 3 h2 (.ptr n 0))) fun v42=>
oK (binop CC .eql 3 true v42 (.s (.int .i64 0))) fun v43=>
oK (asBool v43) fun b44=>bif b44 then (
K (.tup [v9,(.s (.int .i64 1))]) h2 n3) else (
oK (binop CC .eql 3 true v42 (.s (.int .i64 12))) fun v45=>
oK (asBool v45) fun b46=>bif b46 then (
K (.tup [v9,(.s (.int .i64 2))]) h2 n3) else (
K (.tup [v9,(.s (.int .i64 0))]) h2 n3)))):=Wp.eq_of (by kernel_rfl)
theorem F201_call {K:Ko} (H:HCall CC Tryz.f201 [t0,t1,t2,t3] h n K):CallK CC 201 [t0,t1,t2,t3] h n K:=callK_by CCok F201 (by kernel_rfl) (by kernel_rfl) H
theorem F202:CC.F.get 202=some Tryz.f202:=by kernel_rfl
theorem F202_eq {K:Ko}:Wp CC (bodyOf Tryz.f202) ⟨initTm Tryz.f202 [t0,t1,t2,t3],h,n,[]⟩ (retW CC Tryz.f202 K)=(
oK (binop CC .sub 3 true t2 (.s (.int .i64 1))) fun v1=>
LoopK CC none (subC [1,1,0,0] (bodyOf Tryz.f202)) ⟨mkTm (t0::t1::t2::t3::un 4 (t1::v1::t1::t2::v1::un 21 [])),h,n,[]⟩ (resume CC none [.blk 0] (retW CC Tryz.f202 K))):=Wp.eq_of (by kernel_rfl)
theorem F202_call {K:Ko} (H:HCall CC Tryz.f202 [t0,t1,t2,t3] h n K):CallK CC 202 [t0,t1,t2,t3] h n K:=callK_by CCok F202 (by kernel_rfl) (by kernel_rfl) H
def F202_L1100 (t0 t8 t9:V) (h:Heap) (n:Nat) (s:St):Prop:=∃ f:Nat→V,s=⟨mkTm (t0::tl f 1 7 (t8::t9::tl f 10 24 [])),h,n,[]⟩
theorem F202_L1100_of {t0 t8 t9:V} {h:Heap} {n:Nat}:F202_L1100 t0 t8 t9 h n ⟨mkTm [t0,t1,t2,t3,t4,t5,t6,t7,t8,t9,t10,t11,t12,t13,t14,t15,t16,t17,t18,t19,t20,t21,t22,t23,t24,t25,t26,t27,t28,t29,t30,t31,t32,t33],h,n,[]⟩:=
 ex_of (by kernel_rfl)
theorem F202_b1100 (f:Nat→V) (t0 t8 t9:V) (h:Heap) (n:Nat) (Q:X→St→Prop):Wp CC (subC [1,1,0,0] (bodyOf Tryz.f202)) ⟨mkTm (t0::tl f 1 7 (t8::t9::tl f 10 24 [])),h,n,[]⟩ Q=(
oK (binop CC .lss 3 false t8 t9) fun v2=>
oK (asBool v2) fun b3=>bif b3 then (
oK (indexAddr CC 128 t0 t9) fun v4=>
oK (normO (rLoad CC 30 h v4)) fun v5=>
oK (indexAddr CC 128 t0 t8) fun v6=>
oK (normO (rLoad CC 30 h v6)) fun v7=>
oK (indexAddr CC 128 t0 t8) fun v8=>
oK (asPtr v8) fun p9=>oK (store CC h 30 p9.1 p9.2 v5) fun h10=>
(True∧True∧True) ∧
oK (indexAddr CC 128 t0 t9) fun v11=>
oK (asPtr v11) fun p12=>oK (store CC h10 30 p12.1 p12.2 v7) fun h13=>
(True∧True∧True) ∧
oK (binop CC .add 3 true t8 (.s (.int .i64 1))) fun v14=>
oK (binop CC .sub 3 true t9 (.s (.int .i64 1))) fun v15=>
Q .normal ⟨mkTm (t0::tl f 1 7 (v14::v15::tl f 10 3 (t8::t9::v2::t0::t8::t0::t9::t0::t9::v4::v5::t0::t8::v6::v7::v8::v11::t8::v14::t9::v15::[]))),h13,(n+16),[]⟩) else (
Q (.exit 0) ⟨mkTm (t0::tl f 1 7 (t8::t9::tl f 10 3 (t8::t9::v2::tl f 16 18 []))),h,n,[]⟩)):=Wp.eq_of (by kernel_rfl)
theorem F202_r1100_0 (f:Nat→V) (t0 t8 t9:V) (h:Heap) (n:Nat) (K:V→Heap→Nat→Prop):resume CC none [.blk 0] (retW CC Tryz.f202 K) (.exit 0) ⟨mkTm (t0::tl f 1 7 (t8::t9::tl f 10 24 [])),h,n,[]⟩=(
K (.tup []) h n):=by kernel_rfl
theorem F203:CC.F.get 203=some Tryz.f203:=by kernel_rfl
theorem F203_eq {K:Ko}:Wp CC (bodyOf Tryz.f203) ⟨initTm Tryz.f203 [t0,t1,t2,t3],h,n,[]⟩ (retW CC Tryz.f203 K)=(
oK (binop CC .add 3 true t1 (.s (.int .i64 1))) fun v1=>
LoopK CC none (subC [1,1,0,1,0,0] (bodyOf Tryz.f203)) ⟨mkTm (t0::t1::t2::t3::un 4 ((.s (.bool false))::v1::(.s (.int .i64 0))::undefV::undefV::t1::v1::un 126 [])),h,n,[]⟩ (resume CC none [.blk 0,.sq (subC [1,1,1] (bodyOf Tryz.f203))] (retW CC Tryz.f203 K))):=Wp.eq_of (by kernel_rfl)
theorem F203_call {K:Ko} (H:HCall CC Tryz.f203 [t0,t1,t2,t3] h n K):CallK CC 203 [t0,t1,t2,t3] h n K:=callK_by CCok F203 (by kernel_rfl) (by kernel_rfl) H
def F203_L110100 (t0 t1 t2 t3 t9 t10:V) (h:Heap) (n:Nat) (s:St):Prop:=∃ f:Nat→V,s=⟨mkTm (t0::t1::t2::t3::tl f 4 5 (t9::t10::tl f 11 130 [])),h,n,[]⟩
theorem F203_L110100_of {t0 t1 t2 t3 t9 t10:V} {h:Heap} {n:Nat}:F203_L110100 t0 t1 t2 t3 t9 t10 h n ⟨mkTm [t0,t1,t2,t3,t4,t5,t6,t7,t8,t9,t10,t11,t12,t13,t14,t15,t16,t17,t18,t19,t20,t21,t22,t23,t24,t25,t26,t27,t28,t29,t30,t31,t32,t33,t34,t35,t36,t37,t38,t39,t40,t41,t42,t43,t44,t45,t46,t47,t48,t49,t50,t51,t52,t53,t54,t55,t56,t57,t58,t59,t60,t61,t62,t63,t64,t65,t66,t67,t68,t69,t70,t71,t72,t73,t74,t75,t76,t77,t78,t79,t80,t81,t82,t83,t84,t85,t86,t87,t88,t89,t90,t91,t92,t93,t94,t95,t96,t97,t98,t99,t100,t101,t102,t103,t104,t105,t106,t107,t108,t109,t110,t111,t112,t113,t114,t115,t116,t117,t118,t119,t120,t121,t122,t123,t124,t125,t126,t127,t128,t129,t130,t131,t132,t133,t134,t135,t136,t137,t138,t139,t140],h,n,[]⟩:=
 ex_of (by kernel_rfl)
theorem F203_b110100 (f:Nat→V) (t0 t1 t2 t3 t9 t10:V) (h:Heap) (n:Nat) (Q:X→St→Prop):Wp CC (subC [1,1,0,1,0,0] (bodyOf Tryz.f203)) ⟨mkTm (t0::t1::t2::t3::tl f 4 5 (t9::t10::tl f 11 130 [])),h,n,[]⟩ Q=(
oK (binop CC .lss 3 true t10 (.s (.int .i64 5))) fun v2=>
oK (asBool v2) fun b3=>bif b3 then (
LoopK CC none (subC [1,1,0,1,0,0,1,0,0,0,0,0] (bodyOf Tryz.f203)) ⟨mkTm (t0::t1::t2::t3::tl f 4 5 (t9::t10::tl f 11 4 (t10::v2::tl f 17 124 []))),h,n,[]⟩ (resume CC none [.blk 2,.sq (subC [1,1,0,1,0,0,1,0,0,1] (bodyOf Tryz.f203)),.blk 1,.sq (subC [1,1,0,1,0,0,1,1] (bodyOf Tryz.f203))] Q)) else (
Q (.exit 0) ⟨mkTm (t0::t1::t2::t3::tl f 4 5 (t9::t10::tl f 11 4 (t10::v2::tl f 17 124 []))),h,n,[]⟩)):=Wp.eq_of (by kernel_rfl)
def F203_L110100100000 (t0 t1 t2 t3 t9 t10:V) (h:Heap) (n:Nat) (s:St):Prop:=∃ f:Nat→V,s=⟨mkTm (t0::t1::t2::t3::tl f 4 5 (t9::t10::tl f 11 130 [])),h,n,[]⟩
theorem F203_L110100100000_of {t0 t1 t2 t3 t9 t10:V} {h:Heap} {n:Nat}:F203_L110100100000 t0 t1 t2 t3 t9 t10 h n ⟨mkTm [t0,t1,t2,t3,t4,t5,t6,t7,t8,t9,t10,t11,t12,t13,t14,t15,t16,t17,t18,t19,t20,t21,t22,t23,t24,t25,t26,t27,t28,t29,t30,t31,t32,t33,t34,t35,t36,t37,t38,t39,t40,t41,t42,t43,t44,t45,t46,t47,t48,t49,t50,t51,t52,t53,t54,t55,t56,t57,t58,t59,t60,t61,t62,t63,t64,t65,t66,t67,t68,t69,t70,t71,t72,t73,t74,t75,t76,t77,t78,t79,t80,t81,t82,t83,t84,t85,t86,t87,t88,t89,t90,t91,t92,t93,t94,t95,t96,t97,t98,t99,t100,t101,t102,t103,t104,t105,t106,t107,t108,t109,t110,t111,t112,t113,t114,t115,t116,t117,t118,t119,t120,t121,t122,t123,t124,t125,t126,t127,t128,t129,t130,t131,t132,t133,t134,t135,t136,t137,t138,t139,t140],h,n,[]⟩:=
 ex_of (by kernel_rfl)
theorem F203_b110100100000 (f:Nat→V) (t0 t1 t2 t3 t9 t10:V) (h:Heap) (n:Nat) (Q:X→St→Prop):Wp CC (subC [1,1,0,1,0,0,1,0,0,0,0,0] (bodyOf Tryz.f203)) ⟨mkTm (t0::t1::t2::t3::tl f 4 5 (t9::t10::tl f 11 130 [])),h,n,[]⟩ Q=(
oK (binop CC .lss 3 false t9 t2) fun v4=>
oK (bif (rWant true v4) then some t3 else some undefV) fun v5=>
oK (bif (rWant true v4) then some t0 else some undefV) fun v6=>
oK (bif (rWant true v4) then some t9 else some undefV) fun v7=>
oK (bif (rWant true v4) then indexAddr CC 128 v6 v7 else some undefV) fun v8=>
oK ((bif (rWant true v4) then normO (rLoad CC 30 h v8) else some undefV)) fun v9=>
oK (bif (rWant true v4) then some t0 else some undefV) fun v10=>
oK (bif (rWant true v4) then some t9 else some undefV) fun v11=>
oK (bif (rWant true v4) then binop CC .sub 3 true v11 (.s (.int .i64 1)) else some undefV) fun v12=>
oK (bif (rWant true v4) then indexAddr CC 128 v10 v12 else some undefV) fun v13=>
oK ((bif (rWant true v4) then normO (rLoad CC 30 h v13) else some undefV)) fun v14=>
let k15:=fun (v16:V) (h17:Heap) (n18:Nat)=>(
(True∧True∧True) ∧
oK (bif (rWant true v4) then binop CC .lss 3 true v16 (.s (.int .i64 0)) else some undefV) fun v19=>
oK (bif (rWant true v4) then rUn CC .not v19 else some undefV) fun v20=>
oK (rPick v4 v20 (.s (.bool false))) fun v21=>
oK (asBool v21) fun b22=>bif b22 then (
oK (binop CC .add 3 true t9 (.s (.int .i64 1))) fun v23=>
Q .normal ⟨mkTm (t0::t1::t2::t3::tl f 4 5 (v23::t10::tl f 11 8 (t9::t2::v4::v4::v5::v6::v7::v8::v9::v10::v11::v12::v13::v14::v16::v19::v20::v21::t9::v23::tl f 39 102 []))),h17,n18,[]⟩) else (
Q (.exit 2) ⟨mkTm (t0::t1::t2::t3::tl f 4 5 (t9::t10::tl f 11 8 (t9::t2::v4::v4::v5::v6::v7::v8::v9::v10::v11::v12::v13::v14::v16::v19::v20::v21::tl f 37 104 []))),h17,n18,[]⟩));
bif (rWant true v4) then (callV CC v5 [v9,v14] h (n+18) fun v24 h25 n26=>
k15 v24 h25 n26) else k15 undefV h (n+18)):=Wp.eq_of (by kernel_rfl)
theorem F203_r110100100000_2 (f:Nat→V) (t0 t1 t2 t3 t9 t10:V) (h:Heap) (n:Nat) (Q:X→St→Prop):resume CC none [.blk 2,.sq (subC [1,1,0,1,0,0,1,0,0,1] (bodyOf Tryz.f203)),.blk 1,.sq (subC [1,1,0,1,0,0,1,1] (bodyOf Tryz.f203))] Q (.exit 2) ⟨mkTm (t0::t1::t2::t3::tl f 4 5 (t9::t10::tl f 11 130 [])),h,n,[]⟩=(
oK (binop CC .eql 3 false t9 t2) fun v27=>
oK (asBool v27) fun b28=>bif b28 then (
Q .ret ⟨mkTm (t0::t1::t2::t3::tl f 4 4 ((.s (.bool true))::t9::t10::tl f 11 28 (t9::t2::v27::tl f 42 99 []))),h,n,[]⟩) else (
oK (binop CC .sub 3 false t2 t1) fun v29=>
oK (binop CC .lss 3 true v29 (.s (.int .i64 50))) fun v30=>
oK (asBool v30) fun b31=>bif b31 then (
Q .ret ⟨mkTm (t0::t1::t2::t3::tl f 4 4 ((.s (.bool false))::t9::t10::tl f 11 28 (t9::t2::v27::t2::t1::v29::v30::tl f 46 95 []))),h,n,[]⟩) else (
oK (binop CC .sub 3 true t9 (.s (.int .i64 1))) fun v32=>
oK (binop CC .sub 3 true t9 (.s (.int .i64 1))) fun v33=>
oK (indexAddr CC 128 t0 v33) fun v34=>
oK (normO (rLoad CC 30 h v34)) fun v35=>
oK (indexAddr CC 128 t0 t9) fun v36=>
oK (normO (rLoad CC 30 h v36)) fun v37=>
oK (indexAddr CC 128 t0 t9) fun v38=>
oK (asPtr v38) fun p39=>oK (store CC h 30 p39.1 p39.2 v35) fun h40=>
(True∧True∧True) ∧
oK (indexAddr CC 128 t0 v32) fun v41=>
oK (asPtr v41) fun p42=>oK (store CC h40 30 p42.1 p42.2 v37) fun h43=>
(True∧True∧True) ∧
oK (binop CC .sub 3 false t9 t1) fun v44=>
oK (binop CC .geq 3 true v44 (.s (.int .i64 2))) fun v45=>
oK (asBool v45) fun b46=>bif b46 then (
oK (binop CC .sub 3 true t9 (.s (.int .i64 1))) fun v47=>
LoopK CC none (subC [1,1,0,1,0,0,1,0,0,1,1,1,1,0,1,0,1,0,0] (bodyOf Tryz.f203)) ⟨mkTm (t0::t1::t2::t3::tl f 4 5 (t9::t10::v47::tl f 12 27 (t9::t2::v27::t2::t1::v29::v30::t0::t9::t0::t9::v32::t0::t9::v33::v34::v35::t0::t9::v36::v37::v38::v41::t9::t1::v44::v45::t9::v47::tl f 68 73 []))),h43,(n+18),[]⟩ (resume CC none [.blk 4,.sq (subC [1,1,0,1,0,0,1,0,0,1,1,1,1,1] (bodyOf Tryz.f203)),.blk 1,.sq (subC [1,1,0,1,0,0,1,1] (bodyOf Tryz.f203))] Q)) else (
oK (binop CC .sub 3 false t2 t9) fun v48=>
oK (binop CC .geq 3 true v48 (.s (.int .i64 2))) fun v49=>
oK (asBool v49) fun b50=>bif b50 then (
oK (binop CC .add 3 true t9 (.s (.int .i64 1))) fun v51=>
LoopK CC none (subC [1,1,0,1,0,0,1,0,0,1,1,1,1,1,1,0,1,0,0] (bodyOf Tryz.f203)) ⟨mkTm (t0::t1::t2::t3::tl f 4 5 (t9::t10::(f 11)::v51::tl f 13 26 (t9::t2::v27::t2::t1::v29::v30::t0::t9::t0::t9::v32::t0::t9::v33::v34::v35::t0::t9::v36::v37::v38::v41::t9::t1::v44::v45::tl f 66 35 (t2::t9::v48::v49::t9::v51::tl f 107 34 [])))),h43,(n+18),[]⟩ (resume CC none [.blk 6,.blk 1,.sq (subC [1,1,0,1,0,0,1,1] (bodyOf Tryz.f203))] Q)) else (
oK (binop CC .add 3 true t10 (.s (.int .i64 1))) fun v52=>
Q .normal ⟨mkTm (t0::t1::t2::t3::tl f 4 5 (t9::v52::tl f 11 6 (t10::v52::tl f 19 20 (t9::t2::v27::t2::t1::v29::v30::t0::t9::t0::t9::v32::t0::t9::v33::v34::v35::t0::t9::v36::v37::v38::v41::t9::t1::v44::v45::tl f 66 35 (t2::t9::v48::v49::tl f 105 36 []))))),h43,(n+18),[]⟩))))):=by kernel_rfl
def F203_L1101001001111010100 (t0 t1 t2 t3 t9 t10 t11:V) (h:Heap) (n:Nat) (s:St):Prop:=∃ f:Nat→V,s=⟨mkTm (t0::t1::t2::t3::tl f 4 5 (t9::t10::t11::tl f 12 129 [])),h,n,[]⟩
theorem F203_L1101001001111010100_of {t0 t1 t2 t3 t9 t10 t11:V} {h:Heap} {n:Nat}:F203_L1101001001111010100 t0 t1 t2 t3 t9 t10 t11 h n ⟨mkTm [t0,t1,t2,t3,t4,t5,t6,t7,t8,t9,t10,t11,t12,t13,t14,t15,t16,t17,t18,t19,t20,t21,t22,t23,t24,t25,t26,t27,t28,t29,t30,t31,t32,t33,t34,t35,t36,t37,t38,t39,t40,t41,t42,t43,t44,t45,t46,t47,t48,t49,t50,t51,t52,t53,t54,t55,t56,t57,t58,t59,t60,t61,t62,t63,t64,t65,t66,t67,t68,t69,t70,t71,t72,t73,t74,t75,t76,t77,t78,t79,t80,t81,t82,t83,t84,t85,t86,t87,t88,t89,t90,t91,t92,t93,t94,t95,t96,t97,t98,t99,t100,t101,t102,t103,t104,t105,t106,t107,t108,t109,t110,t111,t112,t113,t114,t115,t116,t117,t118,t119,t120,t121,t122,t123,t124,t125,t126,t127,t128,t129,t130,t131,t132,t133,t134,t135,t136,t137,t138,t139,t140],h,n,[]⟩:=
 ex_of (by kernel_rfl)
theorem F203_b1101001001111010100 (f:Nat→V) (t0 t1 t2 t3 t9 t10 t11:V) (h:Heap) (n:Nat) (Q:X→St→Prop):Wp CC (subC [1,1,0,1,0,0,1,0,0,1,1,1,1,0,1,0,1,0,0] (bodyOf Tryz.f203)) ⟨mkTm (t0::t1::t2::t3::tl f 4 5 (t9::t10::t11::tl f 12 129 [])),h,n,[]⟩ Q=(
oK (binop CC .geq 3 true t11 (.s (.int .i64 1))) fun v53=>
oK (asBool v53) fun b54=>bif b54 then (
oK (indexAddr CC 128 t0 t11) fun v55=>
oK (normO (rLoad CC 30 h v55)) fun v56=>
oK (binop CC .sub 3 true t11 (.s (.int .i64 1))) fun v57=>
oK (indexAddr CC 128 t0 v57) fun v58=>
oK (normO (rLoad CC 30 h v58)) fun v59=>
callV CC t3 [v56,v59] h (n+13) fun v60 h61 n62=>
(True∧True∧True) ∧
oK (binop CC .lss 3 true v60 (.s (.int .i64 0))) fun v63=>
oK (rUn CC .not v63) fun v64=>
oK (asBool v64) fun b65=>bif b65 then (
Q (.exit 4) ⟨mkTm (t0::t1::t2::t3::tl f 4 5 (t9::t10::t11::tl f 12 56 (t11::v53::(f 70)::(f 71)::t3::t0::t11::v55::v56::t0::t11::v57::v58::v59::v60::v63::v64::tl f 85 56 []))),h61,n62,[]⟩) else (
oK (binop CC .sub 3 true t11 (.s (.int .i64 1))) fun v66=>
oK (binop CC .sub 3 true t11 (.s (.int .i64 1))) fun v67=>
oK (indexAddr CC 128 t0 v67) fun v68=>
oK (normO (rLoad CC 30 h61 v68)) fun v69=>
oK (indexAddr CC 128 t0 t11) fun v70=>
oK (normO (rLoad CC 30 h61 v70)) fun v71=>
oK (indexAddr CC 128 t0 t11) fun v72=>
oK (asPtr v72) fun p73=>oK (store CC h61 30 p73.1 p73.2 v69) fun h74=>
(True∧True∧True) ∧
oK (indexAddr CC 128 t0 v66) fun v75=>
oK (asPtr v75) fun p76=>oK (store CC h74 30 p76.1 p76.2 v71) fun h77=>
(True∧True∧True) ∧
oK (binop CC .sub 3 true t11 (.s (.int .i64 1))) fun v78=>
Q .normal ⟨mkTm (t0::t1::t2::t3::tl f 4 5 (t9::t10::v78::tl f 12 56 (t11::v53::t11::v78::t3::t0::t11::v55::v56::t0::t11::v57::v58::v59::v60::v63::v64::t0::t11::t0::t11::v66::t0::t11::v67::v68::v69::t0::t11::v70::v71::v72::v75::tl f 101 40 []))),h77,(n62+18),[]⟩)) else (
Q (.exit 4) ⟨mkTm (t0::t1::t2::t3::tl f 4 5 (t9::t10::t11::tl f 12 56 (t11::v53::tl f 70 71 []))),h,n,[]⟩)):=Wp.eq_of (by kernel_rfl)
theorem F203_r1101001001111010100_4 (f:Nat→V) (t0 t1 t2 t3 t9 t10 t11:V) (h:Heap) (n:Nat) (Q:X→St→Prop):resume CC none [.blk 4,.sq (subC [1,1,0,1,0,0,1,0,0,1,1,1,1,1] (bodyOf Tryz.f203)),.blk 1,.sq (subC [1,1,0,1,0,0,1,1] (bodyOf Tryz.f203))] Q (.exit 4) ⟨mkTm (t0::t1::t2::t3::tl f 4 5 (t9::t10::t11::tl f 12 129 [])),h,n,[]⟩=(
oK (binop CC .sub 3 false t2 t9) fun v79=>
oK (binop CC .geq 3 true v79 (.s (.int .i64 2))) fun v80=>
oK (asBool v80) fun b81=>bif b81 then (
oK (binop CC .add 3 true t9 (.s (.int .i64 1))) fun v82=>
LoopK CC none (subC [1,1,0,1,0,0,1,0,0,1,1,1,1,1,1,0,1,0,0] (bodyOf Tryz.f203)) ⟨mkTm (t0::t1::t2::t3::tl f 4 5 (t9::t10::t11::v82::tl f 13 88 (t2::t9::v79::v80::t9::v82::tl f 107 34 []))),h,n,[]⟩ (resume CC none [.blk 6,.blk 1,.sq (subC [1,1,0,1,0,0,1,1] (bodyOf Tryz.f203))] Q)) else (
oK (binop CC .add 3 true t10 (.s (.int .i64 1))) fun v83=>
Q .normal ⟨mkTm (t0::t1::t2::t3::tl f 4 5 (t9::v83::t11::tl f 12 5 (t10::v83::tl f 19 82 (t2::t9::v79::v80::tl f 105 36 [])))),h,n,[]⟩)):=by kernel_rfl
def F203_L1101001001111110100 (t0 t1 t2 t3 t9 t10 t12:V) (h:Heap) (n:Nat) (s:St):Prop:=∃ f:Nat→V,s=⟨mkTm (t0::t1::t2::t3::tl f 4 5 (t9::t10::(f 11)::t12::tl f 13 128 [])),h,n,[]⟩
theorem F203_L1101001001111110100_of {t0 t1 t2 t3 t9 t10 t12:V} {h:Heap} {n:Nat}:F203_L1101001001111110100 t0 t1 t2 t3 t9 t10 t12 h n ⟨mkTm [t0,t1,t2,t3,t4,t5,t6,t7,t8,t9,t10,t11,t12,t13,t14,t15,t16,t17,t18,t19,t20,t21,t22,t23,t24,t25,t26,t27,t28,t29,t30,t31,t32,t33,t34,t35,t36,t37,t38,t39,t40,t41,t42,t43,t44,t45,t46,t47,t48,t49,t50,t51,t52,t53,t54,t55,t56,t57,t58,t59,t60,t61,t62,t63,t64,t65,t66,t67,t68,t69,t70,t71,t72,t73,t74,t75,t76,t77,t78,t79,t80,t81,t82,t83,t84,t85,t86,t87,t88,t89,t90,t91,t92,t93,t94,t95,t96,t97,t98,t99,t100,t101,t102,t103,t104,t105,t106,t107,t108,t109,t110,t111,t112,t113,t114,t115,t116,t117,t118,t119,t120,t121,t122,t123,t124,t125,t126,t127,t128,t129,t130,t131,t132,t133,t134,t135,t136,t137,t138,t139,t140],h,n,[]⟩:=
 ex_of (by kernel_rfl)
theorem F203_b1101001001111110100 (f:Nat→V) (t0 t1 t2 t3 t9 t10 t12:V) (h:Heap) (n:Nat) (Q:X→St→Prop):Wp CC (subC [1,1,0,1,0,0,1,0,0,1,1,1,1,1,1,0,1,0,0] (bodyOf Tryz.f203)) ⟨mkTm (t0::t1::t2::t3::tl f 4 5 (t9::t10::(f 11)::t12::tl f 13 128 [])),h,n,[]⟩ Q=(
oK (binop CC .lss 3 false t12 t2) fun v84=>
oK (asBool v84) fun b85=>bif b85 then (
oK (indexAddr CC 128 t0 t12) fun v86=>
oK (normO (rLoad CC 30 h v86)) fun v87=>
oK (binop CC .sub 3 true t12 (.s (.int .i64 1))) fun v88=>
oK (indexAddr CC 128 t0 v88) fun v89=>
oK (normO (rLoad CC 30 h v89)) fun v90=>
callV CC t3 [v87,v90] h (n+13) fun v91 h92 n93=>
(True∧True∧True) ∧
oK (binop CC .lss 3 true v91 (.s (.int .i64 0))) fun v94=>
oK (rUn CC .not v94) fun v95=>
oK (asBool v95) fun b96=>bif b96 then (
Q (.exit 6) ⟨mkTm (t0::t1::t2::t3::tl f 4 5 (t9::t10::(f 11)::t12::tl f 13 94 (t12::t2::v84::(f 110)::(f 111)::t3::t0::t12::v86::v87::t0::t12::v88::v89::v90::v91::v94::v95::tl f 125 16 []))),h92,n93,[]⟩) else (
oK (binop CC .sub 3 true t12 (.s (.int .i64 1))) fun v97=>
oK (binop CC .sub 3 true t12 (.s (.int .i64 1))) fun v98=>
oK (indexAddr CC 128 t0 v98) fun v99=>
oK (normO (rLoad CC 30 h92 v99)) fun v100=>
oK (indexAddr CC 128 t0 t12) fun v101=>
oK (normO (rLoad CC 30 h92 v101)) fun v102=>
oK (indexAddr CC 128 t0 t12) fun v103=>
oK (asPtr v103) fun p104=>oK (store CC h92 30 p104.1 p104.2 v100) fun h105=>
(True∧True∧True) ∧
oK (indexAddr CC 128 t0 v97) fun v106=>
oK (asPtr v106) fun p107=>oK (store CC h105 30 p107.1 p107.2 v102) fun h108=>
(True∧True∧True) ∧
oK (binop CC .add 3 true t12 (.s (.int .i64 1))) fun v109=>
Q .normal ⟨mkTm (t0::t1::t2::t3::tl f 4 5 (t9::t10::(f 11)::v109::tl f 13 94 (t12::t2::v84::t12::v109::t3::t0::t12::v86::v87::t0::t12::v88::v89::v90::v91::v94::v95::t0::t12::t0::t12::v97::t0::t12::v98::v99::v100::t0::t12::v101::v102::v103::v106::[]))),h108,(n93+18),[]⟩)) else (
Q (.exit 6) ⟨mkTm (t0::t1::t2::t3::tl f 4 5 (t9::t10::(f 11)::t12::tl f 13 94 (t12::t2::v84::tl f 110 31 []))),h,n,[]⟩)):=Wp.eq_of (by kernel_rfl)
theorem F203_r1101001001111110100_6 (f:Nat→V) (t0 t1 t2 t3 t9 t10 t12:V) (h:Heap) (n:Nat) (Q:X→St→Prop):resume CC none [.blk 6,.blk 1,.sq (subC [1,1,0,1,0,0,1,1] (bodyOf Tryz.f203))] Q (.exit 6) ⟨mkTm (t0::t1::t2::t3::tl f 4 5 (t9::t10::(f 11)::t12::tl f 13 128 [])),h,n,[]⟩=(
oK (binop CC .add 3 true t10 (.s (.int .i64 1))) fun v110=>
Q .normal ⟨mkTm (t0::t1::t2::t3::tl f 4 5 (t9::v110::(f 11)::t12::tl f 13 4 (t10::v110::tl f 19 122 []))),h,n,[]⟩):=by kernel_rfl
theorem F203_r110100_0 (f:Nat→V) (t0 t1 t2 t3 t9 t10:V) (h:Heap) (n:Nat) (K:V→Heap→Nat→Prop):resume CC none [.blk 0,.sq (subC [1,1,1] (bodyOf Tryz.f203))] (retW CC Tryz.f203 K) (.exit 0) ⟨mkTm (t0::t1::t2::t3::tl f 4 5 (t9::t10::tl f 11 130 [])),h,n,[]⟩=(
K (.s (.bool false)) h n):=by kernel_rfl
theorem F204:CC.F.get 204=some Tryz.f204:=by kernel_rfl
theorem F204_eq {K:Ko}:Wp CC (bodyOf Tryz.f204) ⟨initTm Tryz.f204 [t0,t1,t2,t3,t4],h,n,[]⟩ (retW CC Tryz.f204 K)=(
oK (indexAddr CC 128 t0 t3) fun v1=>
oK (normO (rLoad CC 30 h v1)) fun v2=>
oK (indexAddr CC 128 t0 t1) fun v3=>
oK (normO (rLoad CC 30 h v3)) fun v4=>
oK (indexAddr CC 128 t0 t1) fun v5=>
oK (asPtr v5) fun p6=>oK (store CC h 30 p6.1 p6.2 v2) fun h7=>
(True∧True∧True) ∧
oK (indexAddr CC 128 t0 t3) fun v8=>
oK (asPtr v8) fun p9=>oK (store CC h7 30 p9.1 p9.2 v4) fun h10=>
(True∧True∧True) ∧
oK (binop CC .add 3 true t1 (.s (.int .i64 1))) fun v11=>
oK (binop CC .sub 3 true t2 (.s (.int .i64 1))) fun v12=>
LoopK CC none (subC [1,1,1,0,0,0] (bodyOf Tryz.f204)) ⟨mkTm (t0::t1::t2::t3::t4::un 5 ((.s (.int .i64 0))::v11::v12::t0::t1::t0::t3::t0::t3::v1::v2::t0::t1::v3::v4::v5::v8::t1::v11::t2::v12::un 59 [])),h10,(n+16),[]⟩ (resume CC none [.blk 0,.sq (subC [1,1,1,1] (bodyOf Tryz.f204))] (retW CC Tryz.f204 K))):=Wp.eq_of (by kernel_rfl)
theorem F204_call {K:Ko} (H:HCall CC Tryz.f204 [t0,t1,t2,t3,t4] h n K):CallK CC 204 [t0,t1,t2,t3,t4] h n K:=callK_by CCok F204 (by kernel_rfl) (by kernel_rfl) H
def F204_L111000 (t0 t1 t4 t11 t12:V) (h:Heap) (n:Nat) (s:St):Prop:=∃ f:Nat→V,s=⟨mkTm (t0::t1::(f 2)::(f 3)::t4::tl f 5 6 (t11::t12::tl f 13 77 [])),h,n,[]⟩
theorem F204_L111000_of {t0 t1 t4 t11 t12:V} {h:Heap} {n:Nat}:F204_L111000 t0 t1 t4 t11 t12 h n ⟨mkTm [t0,t1,t2,t3,t4,t5,t6,t7,t8,t9,t10,t11,t12,t13,t14,t15,t16,t17,t18,t19,t20,t21,t22,t23,t24,t25,t26,t27,t28,t29,t30,t31,t32,t33,t34,t35,t36,t37,t38,t39,t40,t41,t42,t43,t44,t45,t46,t47,t48,t49,t50,t51,t52,t53,t54,t55,t56,t57,t58,t59,t60,t61,t62,t63,t64,t65,t66,t67,t68,t69,t70,t71,t72,t73,t74,t75,t76,t77,t78,t79,t80,t81,t82,t83,t84,t85,t86,t87,t88,t89],h,n,[]⟩:=
 ex_of (by kernel_rfl)
theorem F204_b111000 (f:Nat→V) (t0 t1 t4 t11 t12:V) (h:Heap) (n:Nat) (Q:X→St→Prop):Wp CC (subC [1,1,1,0,0,0] (bodyOf Tryz.f204)) ⟨mkTm (t0::t1::(f 2)::(f 3)::t4::tl f 5 6 (t11::t12::tl f 13 77 [])),h,n,[]⟩ Q=(
LoopK CC none (subC [1,1,1,0,0,0,0,0,0,0] (bodyOf Tryz.f204)) ⟨mkTm (t0::t1::(f 2)::(f 3)::t4::tl f 5 6 (t11::t12::tl f 13 77 [])),h,n,[]⟩ (resume CC none [.blk 2,.sq (subC [1,1,1,0,0,0,0,1] (bodyOf Tryz.f204)),.blk 1] Q)):=Wp.eq_of (by kernel_rfl)
def F204_L1110000000 (t0 t1 t4 t11 t12:V) (h:Heap) (n:Nat) (s:St):Prop:=∃ f:Nat→V,s=⟨mkTm (t0::t1::(f 2)::(f 3)::t4::tl f 5 6 (t11::t12::tl f 13 77 [])),h,n,[]⟩
theorem F204_L1110000000_of {t0 t1 t4 t11 t12:V} {h:Heap} {n:Nat}:F204_L1110000000 t0 t1 t4 t11 t12 h n ⟨mkTm [t0,t1,t2,t3,t4,t5,t6,t7,t8,t9,t10,t11,t12,t13,t14,t15,t16,t17,t18,t19,t20,t21,t22,t23,t24,t25,t26,t27,t28,t29,t30,t31,t32,t33,t34,t35,t36,t37,t38,t39,t40,t41,t42,t43,t44,t45,t46,t47,t48,t49,t50,t51,t52,t53,t54,t55,t56,t57,t58,t59,t60,t61,t62,t63,t64,t65,t66,t67,t68,t69,t70,t71,t72,t73,t74,t75,t76,t77,t78,t79,t80,t81,t82,t83,t84,t85,t86,t87,t88,t89],h,n,[]⟩:=
 ex_of (by kernel_rfl)
theorem F204_b1110000000 (f:Nat→V) (t0 t1 t4 t11 t12:V) (h:Heap) (n:Nat) (Q:X→St→Prop):Wp CC (subC [1,1,1,0,0,0,0,0,0,0] (bodyOf Tryz.f204)) ⟨mkTm (t0::t1::(f 2)::(f 3)::t4::tl f 5 6 (t11::t12::tl f 13 77 [])),h,n,[]⟩ Q=(
oK (binop CC .leq 3 false t11 t12) fun v13=>
oK (bif (rWant true v13) then some t4 else some undefV) fun v14=>
oK (bif (rWant true v13) then some t0 else some undefV) fun v15=>
oK (bif (rWant true v13) then some t1 else some undefV) fun v16=>
oK (bif (rWant true v13) then indexAddr CC 128 v15 v16 else some undefV) fun v17=>
oK ((bif (rWant true v13) then normO (rLoad CC 30 h v17) else some undefV)) fun v18=>
oK (bif (rWant true v13) then some t0 else some undefV) fun v19=>
oK (bif (rWant true v13) then some t11 else some undefV) fun v20=>
oK (bif (rWant true v13) then indexAddr CC 128 v19 v20 else some undefV) fun v21=>
oK ((bif (rWant true v13) then normO (rLoad CC 30 h v21) else some undefV)) fun v22=>
let k23:=fun (v24:V) (h25:Heap) (n26:Nat)=>(
(True∧True∧True) ∧
oK (bif (rWant true v13) then binop CC .lss 3 true v24 (.s (.int .i64 0)) else some undefV) fun v27=>
oK (bif (rWant true v13) then rUn CC .not v27 else some undefV) fun v28=>
oK (rPick v13 v28 (.s (.bool false))) fun v29=>
oK (asBool v29) fun b30=>bif b30 then (
oK (binop CC .add 3 true t11 (.s (.int .i64 1))) fun v31=>
Q .normal ⟨mkTm (t0::t1::(f 2)::(f 3)::t4::tl f 5 6 (v31::t12::tl f 13 18 (t11::t12::v13::v13::v14::v15::v16::v17::v18::v19::v20::v21::v22::v24::v27::v28::v29::t11::v31::tl f 50 40 []))),h25,n26,[]⟩) else (
Q (.exit 2) ⟨mkTm (t0::t1::(f 2)::(f 3)::t4::tl f 5 6 (t11::t12::tl f 13 18 (t11::t12::v13::v13::v14::v15::v16::v17::v18::v19::v20::v21::v22::v24::v27::v28::v29::tl f 48 42 []))),h25,n26,[]⟩));
bif (rWant true v13) then (callV CC v14 [v18,v22] h (n+17) fun v32 h33 n34=>
k23 v32 h33 n34) else k23 undefV h (n+17)):=Wp.eq_of (by kernel_rfl)
theorem F204_r1110000000_2 (f:Nat→V) (t0 t1 t4 t11 t12:V) (h:Heap) (n:Nat) (Q:X→St→Prop):resume CC none [.blk 2,.sq (subC [1,1,1,0,0,0,0,1] (bodyOf Tryz.f204)),.blk 1] Q (.exit 2) ⟨mkTm (t0::t1::(f 2)::(f 3)::t4::tl f 5 6 (t11::t12::tl f 13 77 [])),h,n,[]⟩=(
LoopK CC none (subC [1,1,1,0,0,0,0,1,0,0,0] (bodyOf Tryz.f204)) ⟨mkTm (t0::t1::(f 2)::(f 3)::t4::tl f 5 6 (t11::t12::tl f 13 77 [])),h,n,[]⟩ (resume CC none [.blk 4,.sq (subC [1,1,1,0,0,0,0,1,1] (bodyOf Tryz.f204)),.blk 1] Q)):=by kernel_rfl
def F204_L11100001000 (t0 t1 t4 t11 t12:V) (h:Heap) (n:Nat) (s:St):Prop:=∃ f:Nat→V,s=⟨mkTm (t0::t1::(f 2)::(f 3)::t4::tl f 5 6 (t11::t12::tl f 13 77 [])),h,n,[]⟩
theorem F204_L11100001000_of {t0 t1 t4 t11 t12:V} {h:Heap} {n:Nat}:F204_L11100001000 t0 t1 t4 t11 t12 h n ⟨mkTm [t0,t1,t2,t3,t4,t5,t6,t7,t8,t9,t10,t11,t12,t13,t14,t15,t16,t17,t18,t19,t20,t21,t22,t23,t24,t25,t26,t27,t28,t29,t30,t31,t32,t33,t34,t35,t36,t37,t38,t39,t40,t41,t42,t43,t44,t45,t46,t47,t48,t49,t50,t51,t52,t53,t54,t55,t56,t57,t58,t59,t60,t61,t62,t63,t64,t65,t66,t67,t68,t69,t70,t71,t72,t73,t74,t75,t76,t77,t78,t79,t80,t81,t82,t83,t84,t85,t86,t87,t88,t89],h,n,[]⟩:=
 ex_of (by kernel_rfl)
theorem F204_b11100001000 (f:Nat→V) (t0 t1 t4 t11 t12:V) (h:Heap) (n:Nat) (Q:X→St→Prop):Wp CC (subC [1,1,1,0,0,0,0,1,0,0,0] (bodyOf Tryz.f204)) ⟨mkTm (t0::t1::(f 2)::(f 3)::t4::tl f 5 6 (t11::t12::tl f 13 77 [])),h,n,[]⟩ Q=(
oK (binop CC .leq 3 false t11 t12) fun v35=>
oK (bif (rWant true v35) then some t4 else some undefV) fun v36=>
oK (bif (rWant true v35) then some t0 else some undefV) fun v37=>
oK (bif (rWant true v35) then some t1 else some undefV) fun v38=>
oK (bif (rWant true v35) then indexAddr CC 128 v37 v38 else some undefV) fun v39=>
oK ((bif (rWant true v35) then normO (rLoad CC 30 h v39) else some undefV)) fun v40=>
oK (bif (rWant true v35) then some t0 else some undefV) fun v41=>
oK (bif (rWant true v35) then some t12 else some undefV) fun v42=>
oK (bif (rWant true v35) then indexAddr CC 128 v41 v42 else some undefV) fun v43=>
oK ((bif (rWant true v35) then normO (rLoad CC 30 h v43) else some undefV)) fun v44=>
let k45:=fun (v46:V) (h47:Heap) (n48:Nat)=>(
(True∧True∧True) ∧
oK (bif (rWant true v35) then binop CC .lss 3 true v46 (.s (.int .i64 0)) else some undefV) fun v49=>
oK (rPick v35 v49 (.s (.bool false))) fun v50=>
oK (asBool v50) fun b51=>bif b51 then (
oK (binop CC .sub 3 true t12 (.s (.int .i64 1))) fun v52=>
Q .normal ⟨mkTm (t0::t1::(f 2)::(f 3)::t4::tl f 5 6 (t11::v52::tl f 13 37 (t11::t12::v35::v35::v36::v37::v38::v39::v40::v41::v42::v43::v44::v46::v49::v50::t12::v52::tl f 68 22 []))),h47,n48,[]⟩) else (
Q (.exit 4) ⟨mkTm (t0::t1::(f 2)::(f 3)::t4::tl f 5 6 (t11::t12::tl f 13 37 (t11::t12::v35::v35::v36::v37::v38::v39::v40::v41::v42::v43::v44::v46::v49::v50::tl f 66 24 []))),h47,n48,[]⟩));
bif (rWant true v35) then (callV CC v36 [v40,v44] h (n+16) fun v53 h54 n55=>
k45 v53 h54 n55) else k45 undefV h (n+16)):=Wp.eq_of (by kernel_rfl)
theorem F204_r11100001000_4 (f:Nat→V) (t0 t1 t4 t11 t12:V) (h:Heap) (n:Nat) (Q:X→St→Prop):resume CC none [.blk 4,.sq (subC [1,1,1,0,0,0,0,1,1] (bodyOf Tryz.f204)),.blk 1] Q (.exit 4) ⟨mkTm (t0::t1::(f 2)::(f 3)::t4::tl f 5 6 (t11::t12::tl f 13 77 [])),h,n,[]⟩=(
oK (binop CC .gtr 3 false t11 t12) fun v56=>
oK (asBool v56) fun b57=>bif b57 then (
Q (.exit 0) ⟨mkTm (t0::t1::(f 2)::(f 3)::t4::tl f 5 6 (t11::t12::tl f 13 55 (t11::t12::v56::tl f 71 19 []))),h,n,[]⟩) else (
oK (indexAddr CC 128 t0 t12) fun v58=>
oK (normO (rLoad CC 30 h v58)) fun v59=>
oK (indexAddr CC 128 t0 t11) fun v60=>
oK (normO (rLoad CC 30 h v60)) fun v61=>
oK (indexAddr CC 128 t0 t11) fun v62=>
oK (asPtr v62) fun p63=>oK (store CC h 30 p63.1 p63.2 v59) fun h64=>
(True∧True∧True) ∧
oK (indexAddr CC 128 t0 t12) fun v65=>
oK (asPtr v65) fun p66=>oK (store CC h64 30 p66.1 p66.2 v61) fun h67=>
(True∧True∧True) ∧
oK (binop CC .add 3 true t11 (.s (.int .i64 1))) fun v68=>
oK (binop CC .sub 3 true t12 (.s (.int .i64 1))) fun v69=>
Q .normal ⟨mkTm (t0::t1::(f 2)::(f 3)::t4::tl f 5 6 (v68::v69::tl f 13 55 (t11::t12::v56::t0::t11::t0::t12::t0::t12::v58::v59::t0::t11::v60::v61::v62::v65::t11::v68::t12::v69::(f 89)::[]))),h67,(n+16),[]⟩)):=by kernel_rfl
theorem F204_r111000_0 (f:Nat→V) (t0 t1 t4 t11 t12:V) (h:Heap) (n:Nat) (K:V→Heap→Nat→Prop):resume CC none [.blk 0,.sq (subC [1,1,1,1] (bodyOf Tryz.f204))] (retW CC Tryz.f204 K) (.exit 0) ⟨mkTm (t0::t1::(f 2)::(f 3)::t4::tl f 5 6 (t11::t12::tl f 13 77 [])),h,n,[]⟩=(
K t11 h n):=by kernel_rfl
theorem F205:CC.F.get 205=some Tryz.f205:=by kernel_rfl
theorem F205_eq {K:Ko}:Wp CC (bodyOf Tryz.f205) ⟨initTm Tryz.f205 [t0,t1,t2,t3,t4],h,n,[]⟩ (retW CC Tryz.f205 K)=(
oK (indexAddr CC 128 t0 t3) fun v1=>
oK (normO (rLoad CC 30 h v1)) fun v2=>
oK (indexAddr CC 128 t0 t1) fun v3=>
oK (normO (rLoad CC 30 h v3)) fun v4=>
oK (indexAddr CC 128 t0 t1) fun v5=>
oK (asPtr v5) fun p6=>oK (store CC h 30 p6.1 p6.2 v2) fun h7=>
(True∧True∧True) ∧
oK (indexAddr CC 128 t0 t3) fun v8=>
oK (asPtr v8) fun p9=>oK (store CC h7 30 p9.1 p9.2 v4) fun h10=>
(True∧True∧True) ∧
oK (binop CC .add 3 true t1 (.s (.int .i64 1))) fun v11=>
oK (binop CC .sub 3 true t2 (.s (.int .i64 1))) fun v12=>
LoopK CC none (subC [1,1,1,0,0,0] (bodyOf Tryz.f205)) ⟨mkTm (t0::t1::t2::t3::t4::un 5 ((.s (.int .i64 0))::(.s (.bool false))::v11::v12::t0::t1::t0::t3::t0::t3::v1::v2::t0::t1::v3::v4::v5::v8::t1::v11::t2::v12::un 146 [])),h10,(n+16),[]⟩ (resume CC none [.blk 0,.sq (subC [1,1,1,1] (bodyOf Tryz.f205))] (retW CC Tryz.f205 K))):=Wp.eq_of (by kernel_rfl)
theorem F205_call {K:Ko} (H:HCall CC Tryz.f205 [t0,t1,t2,t3,t4] h n K):CallK CC 205 [t0,t1,t2,t3,t4] h n K:=callK_by CCok F205 (by kernel_rfl) (by kernel_rfl) H
def F205_L111000 (t0 t1 t4 t12 t13:V) (h:Heap) (n:Nat) (s:St):Prop:=∃ f:Nat→V,s=⟨mkTm (t0::t1::(f 2)::(f 3)::t4::tl f 5 7 (t12::t13::tl f 14 164 [])),h,n,[]⟩
theorem F205_L111000_of {t0 t1 t4 t12 t13:V} {h:Heap} {n:Nat}:F205_L111000 t0 t1 t4 t12 t13 h n ⟨mkTm [t0,t1,t2,t3,t4,t5,t6,t7,t8,t9,t10,t11,t12,t13,t14,t15,t16,t17,t18,t19,t20,t21,t22,t23,t24,t25,t26,t27,t28,t29,t30,t31,t32,t33,t34,t35,t36,t37,t38,t39,t40,t41,t42,t43,t44,t45,t46,t47,t48,t49,t50,t51,t52,t53,t54,t55,t56,t57,t58,t59,t60,t61,t62,t63,t64,t65,t66,t67,t68,t69,t70,t71,t72,t73,t74,t75,t76,t77,t78,t79,t80,t81,t82,t83,t84,t85,t86,t87,t88,t89,t90,t91,t92,t93,t94,t95,t96,t97,t98,t99,t100,t101,t102,t103,t104,t105,t106,t107,t108,t109,t110,t111,t112,t113,t114,t115,t116,t117,t118,t119,t120,t121,t122,t123,t124,t125,t126,t127,t128,t129,t130,t131,t132,t133,t134,t135,t136,t137,t138,t139,t140,t141,t142,t143,t144,t145,t146,t147,t148,t149,t150,t151,t152,t153,t154,t155,t156,t157,t158,t159,t160,t161,t162,t163,t164,t165,t166,t167,t168,t169,t170,t171,t172,t173,t174,t175,t176,t177],h,n,[]⟩:=
 ex_of (by kernel_rfl)
theorem F205_b111000 (f:Nat→V) (t0 t1 t4 t12 t13:V) (h:Heap) (n:Nat) (Q:X→St→Prop):Wp CC (subC [1,1,1,0,0,0] (bodyOf Tryz.f205)) ⟨mkTm (t0::t1::(f 2)::(f 3)::t4::tl f 5 7 (t12::t13::tl f 14 164 [])),h,n,[]⟩ Q=(
oK (binop CC .leq 3 false t12 t13) fun v13=>
oK (bif (rWant true v13) then some t4 else some undefV) fun v14=>
oK (bif (rWant true v13) then some t0 else some undefV) fun v15=>
oK (bif (rWant true v13) then some t12 else some undefV) fun v16=>
oK (bif (rWant true v13) then indexAddr CC 128 v15 v16 else some undefV) fun v17=>
oK ((bif (rWant true v13) then normO (rLoad CC 30 h v17) else some undefV)) fun v18=>
oK (bif (rWant true v13) then some t0 else some undefV) fun v19=>
oK (bif (rWant true v13) then some t1 else some undefV) fun v20=>
oK (bif (rWant true v13) then indexAddr CC 128 v19 v20 else some undefV) fun v21=>
oK ((bif (rWant true v13) then normO (rLoad CC 30 h v21) else some undefV)) fun v22=>
let k23:=fun (v24:V) (h25:Heap) (n26:Nat)=>(
(True∧True∧True) ∧
oK (bif (rWant true v13) then binop CC .lss 3 true v24 (.s (.int .i64 0)) else some undefV) fun v27=>
oK (rPick v13 v27 (.s (.bool false))) fun v28=>
oK (asBool v28) fun b29=>bif b29 then (
oK (binop CC .add 3 true t12 (.s (.int .i64 1))) fun v30=>
Q .normal ⟨mkTm (t0::t1::(f 2)::(f 3)::t4::tl f 5 7 (v30::t13::tl f 14 18 (t12::t13::v13::v13::v14::v15::v16::v17::v18::v19::v20::v21::v22::v24::v27::v28::t12::v30::tl f 50 128 []))),h25,n26,[]⟩) else (
Q (.exit 0) ⟨mkTm (t0::t1::(f 2)::(f 3)::t4::tl f 5 7 (t12::t13::tl f 14 18 (t12::t13::v13::v13::v14::v15::v16::v17::v18::v19::v20::v21::v22::v24::v27::v28::tl f 48 130 []))),h25,n26,[]⟩));
bif (rWant true v13) then (callV CC v14 [v18,v22] h (n+16) fun v31 h32 n33=>
k23 v31 h32 n33) else k23 undefV h (n+16)):=Wp.eq_of (by kernel_rfl)
theorem F205_r111000_0 (f:Nat→V) (t0 t1 t4 t12 t13:V) (h:Heap) (n:Nat) (K:V→Heap→Nat→Prop):resume CC none [.blk 0,.sq (subC [1,1,1,1] (bodyOf Tryz.f205))] (retW CC Tryz.f205 K) (.exit 0) ⟨mkTm (t0::t1::(f 2)::(f 3)::t4::tl f 5 7 (t12::t13::tl f 14 164 [])),h,n,[]⟩=(
LoopK CC none (subC [1,1,1,1,0,0,0] (bodyOf Tryz.f205)) ⟨mkTm (t0::t1::(f 2)::(f 3)::t4::tl f 5 7 (t12::t13::tl f 14 164 [])),h,n,[]⟩ (resume CC none [.blk 2,.sq (subC [1,1,1,1,1] (bodyOf Tryz.f205))] (retW CC Tryz.f205 K))):=by kernel_rfl
def F205_L1111000 (t0 t1 t4 t12 t13:V) (h:Heap) (n:Nat) (s:St):Prop:=∃ f:Nat→V,s=⟨mkTm (t0::t1::(f 2)::(f 3)::t4::tl f 5 7 (t12::t13::tl f 14 164 [])),h,n,[]⟩
theorem F205_L1111000_of {t0 t1 t4 t12 t13:V} {h:Heap} {n:Nat}:F205_L1111000 t0 t1 t4 t12 t13 h n ⟨mkTm [t0,t1,t2,t3,t4,t5,t6,t7,t8,t9,t10,t11,t12,t13,t14,t15,t16,t17,t18,t19,t20,t21,t22,t23,t24,t25,t26,t27,t28,t29,t30,t31,t32,t33,t34,t35,t36,t37,t38,t39,t40,t41,t42,t43,t44,t45,t46,t47,t48,t49,t50,t51,t52,t53,t54,t55,t56,t57,t58,t59,t60,t61,t62,t63,t64,t65,t66,t67,t68,t69,t70,t71,t72,t73,t74,t75,t76,t77,t78,t79,t80,t81,t82,t83,t84,t85,t86,t87,t88,t89,t90,t91,t92,t93,t94,t95,t96,t97,t98,t99,t100,t101,t102,t103,t104,t105,t106,t107,t108,t109,t110,t111,t112,t113,t114,t115,t116,t117,t118,t119,t120,t121,t122,t123,t124,t125,t126,t127,t128,t129,t130,t131,t132,t133,t134,t135,t136,t137,t138,t139,t140,t141,t142,t143,t144,t145,t146,t147,t148,t149,t150,t151,t152,t153,t154,t155,t156,t157,t158,t159,t160,t161,t162,t163,t164,t165,t166,t167,t168,t169,t170,t171,t172,t173,t174,t175,t176,t177],h,n,[]⟩:=
 ex_of (by kernel_rfl)
theorem F205_b1111000 (f:Nat→V) (t0 t1 t4 t12 t13:V) (h:Heap) (n:Nat) (Q:X→St→Prop):Wp CC (subC [1,1,1,1,0,0,0] (bodyOf Tryz.f205)) ⟨mkTm (t0::t1::(f 2)::(f 3)::t4::tl f 5 7 (t12::t13::tl f 14 164 [])),h,n,[]⟩ Q=(
oK (binop CC .leq 3 false t12 t13) fun v34=>
oK (bif (rWant true v34) then some t4 else some undefV) fun v35=>
oK (bif (rWant true v34) then some t0 else some undefV) fun v36=>
oK (bif (rWant true v34) then some t13 else some undefV) fun v37=>
oK (bif (rWant true v34) then indexAddr CC 128 v36 v37 else some undefV) fun v38=>
oK ((bif (rWant true v34) then normO (rLoad CC 30 h v38) else some undefV)) fun v39=>
oK (bif (rWant true v34) then some t0 else some undefV) fun v40=>
oK (bif (rWant true v34) then some t1 else some undefV) fun v41=>
oK (bif (rWant true v34) then indexAddr CC 128 v40 v41 else some undefV) fun v42=>
oK ((bif (rWant true v34) then normO (rLoad CC 30 h v42) else some undefV)) fun v43=>
let k44:=fun (v45:V) (h46:Heap) (n47:Nat)=>(
(True∧True∧True) ∧
oK (bif (rWant true v34) then binop CC .lss 3 true v45 (.s (.int .i64 0)) else some undefV) fun v48=>
oK (bif (rWant true v34) then rUn CC .not v48 else some undefV) fun v49=>
oK (rPick v34 v49 (.s (.bool false))) fun v50=>
oK (asBool v50) fun b51=>bif b51 then (
oK (binop CC .sub 3 true t13 (.s (.int .i64 1))) fun v52=>
Q .normal ⟨mkTm (t0::t1::(f 2)::(f 3)::t4::tl f 5 7 (t12::v52::tl f 14 36 (t12::t13::v34::v34::v35::v36::v37::v38::v39::v40::v41::v42::v43::v45::v48::v49::v50::t13::v52::tl f 69 109 []))),h46,n47,[]⟩) else (
Q (.exit 2) ⟨mkTm (t0::t1::(f 2)::(f 3)::t4::tl f 5 7 (t12::t13::tl f 14 36 (t12::t13::v34::v34::v35::v36::v37::v38::v39::v40::v41::v42::v43::v45::v48::v49::v50::tl f 67 111 []))),h46,n47,[]⟩));
bif (rWant true v34) then (callV CC v35 [v39,v43] h (n+17) fun v53 h54 n55=>
k44 v53 h54 n55) else k44 undefV h (n+17)):=Wp.eq_of (by kernel_rfl)
theorem F205_r1111000_2 (f:Nat→V) (t0 t1 t4 t12 t13:V) (h:Heap) (n:Nat) (K:V→Heap→Nat→Prop):resume CC none [.blk 2,.sq (subC [1,1,1,1,1] (bodyOf Tryz.f205))] (retW CC Tryz.f205 K) (.exit 2) ⟨mkTm (t0::t1::(f 2)::(f 3)::t4::tl f 5 7 (t12::t13::tl f 14 164 [])),h,n,[]⟩=(
oK (binop CC .gtr 3 false t12 t13) fun v56=>
oK (asBool v56) fun b57=>bif b57 then (
oK (indexAddr CC 128 t0 t1) fun v58=>
oK (normO (rLoad CC 30 h v58)) fun v59=>
oK (indexAddr CC 128 t0 t13) fun v60=>
oK (normO (rLoad CC 30 h v60)) fun v61=>
oK (indexAddr CC 128 t0 t13) fun v62=>
oK (asPtr v62) fun p63=>oK (store CC h 30 p63.1 p63.2 v59) fun h64=>
(True∧True∧True) ∧
oK (indexAddr CC 128 t0 t1) fun v65=>
oK (asPtr v65) fun p66=>oK (store CC h64 30 p66.1 p66.2 v61) fun h67=>
(True∧True∧True) ∧
K (.tup [t13,(.s (.bool true))]) h67 (n+16)) else (
oK (indexAddr CC 128 t0 t13) fun v68=>
oK (normO (rLoad CC 30 h v68)) fun v69=>
oK (indexAddr CC 128 t0 t12) fun v70=>
oK (normO (rLoad CC 30 h v70)) fun v71=>
oK (indexAddr CC 128 t0 t12) fun v72=>
oK (asPtr v72) fun p73=>oK (store CC h 30 p73.1 p73.2 v69) fun h74=>
(True∧True∧True) ∧
oK (indexAddr CC 128 t0 t13) fun v75=>
oK (asPtr v75) fun p76=>oK (store CC h74 30 p76.1 p76.2 v71) fun h77=>
(True∧True∧True) ∧
oK (binop CC .add 3 true t12 (.s (.int .i64 1))) fun v78=>
oK (binop CC .sub 3 true t13 (.s (.int .i64 1))) fun v79=>
LoopK CC none (subC [1,1,1,1,1,1,1,1,1,0,0,0] (bodyOf Tryz.f205)) ⟨mkTm (t0::t1::(f 2)::(f 3)::t4::tl f 5 7 (v78::v79::tl f 14 55 (t12::t13::v56::tl f 72 15 (t0::t12::t0::t13::t0::t13::v68::v69::t0::t12::v70::v71::v72::v75::t12::v78::t13::v79::tl f 105 73 [])))),h77,(n+16),[]⟩ (resume CC none [.blk 4,.sq (subC [1,1,1,1,1,1,1,1,1,1] (bodyOf Tryz.f205))] (retW CC Tryz.f205 K)))):=by kernel_rfl
def F205_L111111111000 (t0 t1 t4 t12 t13:V) (h:Heap) (n:Nat) (s:St):Prop:=∃ f:Nat→V,s=⟨mkTm (t0::t1::(f 2)::(f 3)::t4::tl f 5 7 (t12::t13::tl f 14 164 [])),h,n,[]⟩
theorem F205_L111111111000_of {t0 t1 t4 t12 t13:V} {h:Heap} {n:Nat}:F205_L111111111000 t0 t1 t4 t12 t13 h n ⟨mkTm [t0,t1,t2,t3,t4,t5,t6,t7,t8,t9,t10,t11,t12,t13,t14,t15,t16,t17,t18,t19,t20,t21,t22,t23,t24,t25,t26,t27,t28,t29,t30,t31,t32,t33,t34,t35,t36,t37,t38,t39,t40,t41,t42,t43,t44,t45,t46,t47,t48,t49,t50,t51,t52,t53,t54,t55,t56,t57,t58,t59,t60,t61,t62,t63,t64,t65,t66,t67,t68,t69,t70,t71,t72,t73,t74,t75,t76,t77,t78,t79,t80,t81,t82,t83,t84,t85,t86,t87,t88,t89,t90,t91,t92,t93,t94,t95,t96,t97,t98,t99,t100,t101,t102,t103,t104,t105,t106,t107,t108,t109,t110,t111,t112,t113,t114,t115,t116,t117,t118,t119,t120,t121,t122,t123,t124,t125,t126,t127,t128,t129,t130,t131,t132,t133,t134,t135,t136,t137,t138,t139,t140,t141,t142,t143,t144,t145,t146,t147,t148,t149,t150,t151,t152,t153,t154,t155,t156,t157,t158,t159,t160,t161,t162,t163,t164,t165,t166,t167,t168,t169,t170,t171,t172,t173,t174,t175,t176,t177],h,n,[]⟩:=
 ex_of (by kernel_rfl)
theorem F205_b111111111000 (f:Nat→V) (t0 t1 t4 t12 t13:V) (h:Heap) (n:Nat) (Q:X→St→Prop):Wp CC (subC [1,1,1,1,1,1,1,1,1,0,0,0] (bodyOf Tryz.f205)) ⟨mkTm (t0::t1::(f 2)::(f 3)::t4::tl f 5 7 (t12::t13::tl f 14 164 [])),h,n,[]⟩ Q=(
LoopK CC none (subC [1,1,1,1,1,1,1,1,1,0,0,0,0,0,0,0] (bodyOf Tryz.f205)) ⟨mkTm (t0::t1::(f 2)::(f 3)::t4::tl f 5 7 (t12::t13::tl f 14 164 [])),h,n,[]⟩ (resume CC none [.blk 6,.sq (subC [1,1,1,1,1,1,1,1,1,0,0,0,0,1] (bodyOf Tryz.f205)),.blk 5] Q)):=Wp.eq_of (by kernel_rfl)
def F205_L1111111110000000 (t0 t1 t4 t12 t13:V) (h:Heap) (n:Nat) (s:St):Prop:=∃ f:Nat→V,s=⟨mkTm (t0::t1::(f 2)::(f 3)::t4::tl f 5 7 (t12::t13::tl f 14 164 [])),h,n,[]⟩
theorem F205_L1111111110000000_of {t0 t1 t4 t12 t13:V} {h:Heap} {n:Nat}:F205_L1111111110000000 t0 t1 t4 t12 t13 h n ⟨mkTm [t0,t1,t2,t3,t4,t5,t6,t7,t8,t9,t10,t11,t12,t13,t14,t15,t16,t17,t18,t19,t20,t21,t22,t23,t24,t25,t26,t27,t28,t29,t30,t31,t32,t33,t34,t35,t36,t37,t38,t39,t40,t41,t42,t43,t44,t45,t46,t47,t48,t49,t50,t51,t52,t53,t54,t55,t56,t57,t58,t59,t60,t61,t62,t63,t64,t65,t66,t67,t68,t69,t70,t71,t72,t73,t74,t75,t76,t77,t78,t79,t80,t81,t82,t83,t84,t85,t86,t87,t88,t89,t90,t91,t92,t93,t94,t95,t96,t97,t98,t99,t100,t101,t102,t103,t104,t105,t106,t107,t108,t109,t110,t111,t112,t113,t114,t115,t116,t117,t118,t119,t120,t121,t122,t123,t124,t125,t126,t127,t128,t129,t130,t131,t132,t133,t134,t135,t136,t137,t138,t139,t140,t141,t142,t143,t144,t145,t146,t147,t148,t149,t150,t151,t152,t153,t154,t155,t156,t157,t158,t159,t160,t161,t162,t163,t164,t165,t166,t167,t168,t169,t170,t171,t172,t173,t174,t175,t176,t177],h,n,[]⟩:=
 ex_of (by kernel_rfl)
theorem F205_b1111111110000000 (f:Nat→V) (t0 t1 t4 t12 t13:V) (h:Heap) (n:Nat) (Q:X→St→Prop):Wp CC (subC [1,1,1,1,1,1,1,1,1,0,0,0,0,0,0,0] (bodyOf Tryz.f205)) ⟨mkTm (t0::t1::(f 2)::(f 3)::t4::tl f 5 7 (t12::t13::tl f 14 164 [])),h,n,[]⟩ Q=(
oK (binop CC .leq 3 false t12 t13) fun v80=>
oK (bif (rWant true v80) then some t4 else some undefV) fun v81=>
oK (bif (rWant true v80) then some t0 else some undefV) fun v82=>
oK (bif (rWant true v80) then some t12 else some undefV) fun v83=>
oK (bif (rWant true v80) then indexAddr CC 128 v82 v83 else some undefV) fun v84=>
oK ((bif (rWant true v80) then normO (rLoad CC 30 h v84) else some undefV)) fun v85=>
oK (bif (rWant true v80) then some t0 else some undefV) fun v86=>
oK (bif (rWant true v80) then some t1 else some undefV) fun v87=>
oK (bif (rWant true v80) then indexAddr CC 128 v86 v87 else some undefV) fun v88=>
oK ((bif (rWant true v80) then normO (rLoad CC 30 h v88) else some undefV)) fun v89=>
let k90:=fun (v91:V) (h92:Heap) (n93:Nat)=>(
(True∧True∧True) ∧
oK (bif (rWant true v80) then binop CC .lss 3 true v91 (.s (.int .i64 0)) else some undefV) fun v94=>
oK (rPick v80 v94 (.s (.bool false))) fun v95=>
oK (asBool v95) fun b96=>bif b96 then (
oK (binop CC .add 3 true t12 (.s (.int .i64 1))) fun v97=>
Q .normal ⟨mkTm (t0::t1::(f 2)::(f 3)::t4::tl f 5 7 (v97::t13::tl f 14 91 (t12::t13::v80::v80::v81::v82::v83::v84::v85::v86::v87::v88::v89::v91::v94::v95::t12::v97::tl f 123 55 []))),h92,n93,[]⟩) else (
Q (.exit 6) ⟨mkTm (t0::t1::(f 2)::(f 3)::t4::tl f 5 7 (t12::t13::tl f 14 91 (t12::t13::v80::v80::v81::v82::v83::v84::v85::v86::v87::v88::v89::v91::v94::v95::tl f 121 57 []))),h92,n93,[]⟩));
bif (rWant true v80) then (callV CC v81 [v85,v89] h (n+16) fun v98 h99 n100=>
k90 v98 h99 n100) else k90 undefV h (n+16)):=Wp.eq_of (by kernel_rfl)
theorem F205_r1111111110000000_6 (f:Nat→V) (t0 t1 t4 t12 t13:V) (h:Heap) (n:Nat) (Q:X→St→Prop):resume CC none [.blk 6,.sq (subC [1,1,1,1,1,1,1,1,1,0,0,0,0,1] (bodyOf Tryz.f205)),.blk 5] Q (.exit 6) ⟨mkTm (t0::t1::(f 2)::(f 3)::t4::tl f 5 7 (t12::t13::tl f 14 164 [])),h,n,[]⟩=(
LoopK CC none (subC [1,1,1,1,1,1,1,1,1,0,0,0,0,1,0,0,0] (bodyOf Tryz.f205)) ⟨mkTm (t0::t1::(f 2)::(f 3)::t4::tl f 5 7 (t12::t13::tl f 14 164 [])),h,n,[]⟩ (resume CC none [.blk 8,.sq (subC [1,1,1,1,1,1,1,1,1,0,0,0,0,1,1] (bodyOf Tryz.f205)),.blk 5] Q)):=by kernel_rfl
def F205_L11111111100001000 (t0 t1 t4 t12 t13:V) (h:Heap) (n:Nat) (s:St):Prop:=∃ f:Nat→V,s=⟨mkTm (t0::t1::(f 2)::(f 3)::t4::tl f 5 7 (t12::t13::tl f 14 164 [])),h,n,[]⟩
theorem F205_L11111111100001000_of {t0 t1 t4 t12 t13:V} {h:Heap} {n:Nat}:F205_L11111111100001000 t0 t1 t4 t12 t13 h n ⟨mkTm [t0,t1,t2,t3,t4,t5,t6,t7,t8,t9,t10,t11,t12,t13,t14,t15,t16,t17,t18,t19,t20,t21,t22,t23,t24,t25,t26,t27,t28,t29,t30,t31,t32,t33,t34,t35,t36,t37,t38,t39,t40,t41,t42,t43,t44,t45,t46,t47,t48,t49,t50,t51,t52,t53,t54,t55,t56,t57,t58,t59,t60,t61,t62,t63,t64,t65,t66,t67,t68,t69,t70,t71,t72,t73,t74,t75,t76,t77,t78,t79,t80,t81,t82,t83,t84,t85,t86,t87,t88,t89,t90,t91,t92,t93,t94,t95,t96,t97,t98,t99,t100,t101,t102,t103,t104,t105,t106,t107,t108,t109,t110,t111,t112,t113,t114,t115,t116,t117,t118,t119,t120,t121,t122,t123,t124,t125,t126,t127,t128,t129,t130,t131,t132,t133,t134,t135,t136,t137,t138,t139,t140,t141,t142,t143,t144,t145,t146,t147,t148,t149,t150,t151,t152,t153,t154,t155,t156,t157,t158,t159,t160,t161,t162,t163,t164,t165,t166,t167,t168,t169,t170,t171,t172,t173,t174,t175,t176,t177],h,n,[]⟩:=
 ex_of (by kernel_rfl)
theorem F205_b11111111100001000 (f:Nat→V) (t0 t1 t4 t12 t13:V) (h:Heap) (n:Nat) (Q:X→St→Prop):Wp CC (subC [1,1,1,1,1,1,1,1,1,0,0,0,0,1,0,0,0] (bodyOf Tryz.f205)) ⟨mkTm (t0::t1::(f 2)::(f 3)::t4::tl f 5 7 (t12::t13::tl f 14 164 [])),h,n,[]⟩ Q=(
oK (binop CC .leq 3 false t12 t13) fun v101=>
oK (bif (rWant true v101) then some t4 else some undefV) fun v102=>
oK (bif (rWant true v101) then some t0 else some undefV) fun v103=>
oK (bif (rWant true v101) then some t13 else some undefV) fun v104=>
oK (bif (rWant true v101) then indexAddr CC 128 v103 v104 else some undefV) fun v105=>
oK ((bif (rWant true v101) then normO (rLoad CC 30 h v105) else some undefV)) fun v106=>
oK (bif (rWant true v101) then some t0 else some undefV) fun v107=>
oK (bif (rWant true v101) then some t1 else some undefV) fun v108=>
oK (bif (rWant true v101) then indexAddr CC 128 v107 v108 else some undefV) fun v109=>
oK ((bif (rWant true v101) then normO (rLoad CC 30 h v109) else some undefV)) fun v110=>
let k111:=fun (v112:V) (h113:Heap) (n114:Nat)=>(
(True∧True∧True) ∧
oK (bif (rWant true v101) then binop CC .lss 3 true v112 (.s (.int .i64 0)) else some undefV) fun v115=>
oK (bif (rWant true v101) then rUn CC .not v115 else some undefV) fun v116=>
oK (rPick v101 v116 (.s (.bool false))) fun v117=>
oK (asBool v117) fun b118=>bif b118 then (
oK (binop CC .sub 3 true t13 (.s (.int .i64 1))) fun v119=>
Q .normal ⟨mkTm (t0::t1::(f 2)::(f 3)::t4::tl f 5 7 (t12::v119::tl f 14 109 (t12::t13::v101::v101::v102::v103::v104::v105::v106::v107::v108::v109::v110::v112::v115::v116::v117::t13::v119::tl f 142 36 []))),h113,n114,[]⟩) else (
Q (.exit 8) ⟨mkTm (t0::t1::(f 2)::(f 3)::t4::tl f 5 7 (t12::t13::tl f 14 109 (t12::t13::v101::v101::v102::v103::v104::v105::v106::v107::v108::v109::v110::v112::v115::v116::v117::tl f 140 38 []))),h113,n114,[]⟩));
bif (rWant true v101) then (callV CC v102 [v106,v110] h (n+17) fun v120 h121 n122=>
k111 v120 h121 n122) else k111 undefV h (n+17)):=Wp.eq_of (by kernel_rfl)
theorem F205_r11111111100001000_8 (f:Nat→V) (t0 t1 t4 t12 t13:V) (h:Heap) (n:Nat) (Q:X→St→Prop):resume CC none [.blk 8,.sq (subC [1,1,1,1,1,1,1,1,1,0,0,0,0,1,1] (bodyOf Tryz.f205)),.blk 5] Q (.exit 8) ⟨mkTm (t0::t1::(f 2)::(f 3)::t4::tl f 5 7 (t12::t13::tl f 14 164 [])),h,n,[]⟩=(
oK (binop CC .gtr 3 false t12 t13) fun v123=>
oK (asBool v123) fun b124=>bif b124 then (
Q (.exit 4) ⟨mkTm (t0::t1::(f 2)::(f 3)::t4::tl f 5 7 (t12::t13::tl f 14 128 (t12::t13::v123::tl f 145 33 []))),h,n,[]⟩) else (
oK (indexAddr CC 128 t0 t13) fun v125=>
oK (normO (rLoad CC 30 h v125)) fun v126=>
oK (indexAddr CC 128 t0 t12) fun v127=>
oK (normO (rLoad CC 30 h v127)) fun v128=>
oK (indexAddr CC 128 t0 t12) fun v129=>
oK (asPtr v129) fun p130=>oK (store CC h 30 p130.1 p130.2 v126) fun h131=>
(True∧True∧True) ∧
oK (indexAddr CC 128 t0 t13) fun v132=>
oK (asPtr v132) fun p133=>oK (store CC h131 30 p133.1 p133.2 v128) fun h134=>
(True∧True∧True) ∧
oK (binop CC .add 3 true t12 (.s (.int .i64 1))) fun v135=>
oK (binop CC .sub 3 true t13 (.s (.int .i64 1))) fun v136=>
Q .normal ⟨mkTm (t0::t1::(f 2)::(f 3)::t4::tl f 5 7 (v135::v136::tl f 14 128 (t12::t13::v123::t0::t12::t0::t13::t0::t13::v125::v126::t0::t12::v127::v128::v129::v132::t12::v135::t13::v136::tl f 163 15 []))),h134,(n+16),[]⟩)):=by kernel_rfl
theorem F205_r111111111000_4 (f:Nat→V) (t0 t1 t4 t12 t13:V) (h:Heap) (n:Nat) (K:V→Heap→Nat→Prop):resume CC none [.blk 4,.sq (subC [1,1,1,1,1,1,1,1,1,1] (bodyOf Tryz.f205))] (retW CC Tryz.f205 K) (.exit 4) ⟨mkTm (t0::t1::(f 2)::(f 3)::t4::tl f 5 7 (t12::t13::tl f 14 164 [])),h,n,[]⟩=(
oK (indexAddr CC 128 t0 t1) fun v137=>
oK (normO (rLoad CC 30 h v137)) fun v138=>
oK (indexAddr CC 128 t0 t13) fun v139=>
oK (normO (rLoad CC 30 h v139)) fun v140=>
oK (indexAddr CC 128 t0 t13) fun v141=>
oK (asPtr v141) fun p142=>oK (store CC h 30 p142.1 p142.2 v138) fun h143=>
(True∧True∧True) ∧
oK (indexAddr CC 128 t0 t1) fun v144=>
oK (asPtr v144) fun p145=>oK (store CC h143 30 p145.1 p145.2 v140) fun h146=>
(True∧True∧True) ∧
K (.tup [t13,(.s (.bool false))]) h146 (n+16)):=by kernel_rfl
theorem F208:CC.F.get 208=some Tryz.f208:=by kernel_rfl
theorem F208_eq {K:Ko}:Wp CC (bodyOf Tryz.f208) ⟨initTm Tryz.f208 [t0,t1],h,n,[]⟩ (retW CC Tryz.f208 K)=(
oK (lenV CC h 85 t0) fun v1=>
LoopK CC none (subC [1,0,1,0,0] (bodyOf Tryz.f208)) ⟨mkTm (t0::t1::undefV::undefV::(.s (.int .i64 0))::undefV::t0::v1::(.s (.int .i64 0))::un 10 []),h,n,[]⟩ (resume CC none [.blk 0,.sq (subC [1,1] (bodyOf Tryz.f208))] (retW CC Tryz.f208 K))):=Wp.eq_of (by kernel_rfl)
theorem F208_call {K:Ko} (H:HCall CC Tryz.f208 [t0,t1] h n K):CallK CC 208 [t0,t1] h n K:=callK_by CCok F208 (by kernel_rfl) (by kernel_rfl) H
def F208_L10100 (t0 t1 t7 t8:V) (h:Heap) (n:Nat) (s:St):Prop:=∃ f:Nat→V,s=⟨mkTm (t0::t1::tl f 2 5 (t7::t8::tl f 9 10 [])),h,n,[]⟩
theorem F208_L10100_of {t0 t1 t7 t8:V} {h:Heap} {n:Nat}:F208_L10100 t0 t1 t7 t8 h n ⟨mkTm [t0,t1,t2,t3,t4,t5,t6,t7,t8,t9,t10,t11,t12,t13,t14,t15,t16,t17,t18],h,n,[]⟩:=
 ex_of (by kernel_rfl)
theorem F208_b10100 (f:Nat→V) (t0 t1 t7 t8:V) (h:Heap) (n:Nat) (Q:X→St→Prop):Wp CC (subC [1,0,1,0,0] (bodyOf Tryz.f208)) ⟨mkTm (t0::t1::tl f 2 5 (t7::t8::tl f 9 10 [])),h,n,[]⟩ Q=(
oK (binop CC .lss 3 false t8 t7) fun v2=>
oK (asBool v2) fun b3=>bif b3 then (
oK (indexAddr CC 85 t0 t8) fun v4=>
oK (normO (rLoad CC 3 h v4)) fun v5=>
oK (binop CC .eql 3 false t1 v5) fun v6=>
oK (asBool v6) fun b7=>bif b7 then (
Q .ret ⟨mkTm [t0,t1,(f 2),(f 3),t8,t8,(f 6),t7,t8,v2,t8,t1,t0,t8,v4,v5,v6,t8,(f 18)],h,n,[]⟩) else (
oK (binop CC .add 3 true t8 (.s (.int .i64 1))) fun v8=>
Q .normal ⟨mkTm (t0::t1::tl f 2 3 (t8::(f 6)::t7::v8::v2::t8::t1::t0::t8::v4::v5::v6::(f 17)::v8::[])),h,n,[]⟩)) else (
Q (.exit 0) ⟨mkTm (t0::t1::tl f 2 5 (t7::t8::v2::tl f 10 9 [])),h,n,[]⟩)):=Wp.eq_of (by kernel_rfl)
theorem F208_r10100_0 (f:Nat→V) (t0 t1 t7 t8:V) (h:Heap) (n:Nat) (K:V→Heap→Nat→Prop):resume CC none [.blk 0,.sq (subC [1,1] (bodyOf Tryz.f208))] (retW CC Tryz.f208 K) (.exit 0) ⟨mkTm (t0::t1::tl f 2 5 (t7::t8::tl f 9 10 [])),h,n,[]⟩=(
K (.s (.int .i64 (-1))) h n):=by kernel_rfl
theorem F209:CC.F.get 209=some Tryz.f209:=by kernel_rfl
theorem F209_eq {K:Ko}:Wp CC (bodyOf Tryz.f209) ⟨initTm Tryz.f209 [t0],h,n,[]⟩ (retW CC Tryz.f209 K)=(
oK (binop CC .and 3 true t0 (.s (.int .i64 3))) fun v1=>
LoopK CC none (subC [1,1,0,1,0,0] (bodyOf Tryz.f209)) ⟨mkTm (t0::undefV::(.s (.complex .f64 0 0))::(.s (.complex .f64 4607182418800017408 0))::t0::v1::(.s (.int .i64 0))::un 5 []),h,n,[]⟩ (resume CC none [.blk 0,.sq (subC [1,1,1] (bodyOf Tryz.f209))] (retW CC Tryz.f209 K))):=Wp.eq_of (by kernel_rfl)
theorem F209_call {K:Ko} (H:HCall CC Tryz.f209 [t0] h n K):CallK CC 209 [t0] h n K:=callK_by CCok F209 (by kernel_rfl) (by kernel_rfl) H
def F209_L110100 (t3 t5 t6:V) (h:Heap) (n:Nat) (s:St):Prop:=∃ f:Nat→V,s=⟨mkTm (tl f 0 3 (t3::(f 4)::t5::t6::tl f 7 5 [])),h,n,[]⟩
theorem F209_L110100_of {t3 t5 t6:V} {h:Heap} {n:Nat}:F209_L110100 t3 t5 t6 h n ⟨mkTm [t0,t1,t2,t3,t4,t5,t6,t7,t8,t9,t10,t11],h,n,[]⟩:=
 ex_of (by kernel_rfl)
theorem F209_b110100 (f:Nat→V) (t3 t5 t6:V) (h:Heap) (n:Nat) (Q:X→St→Prop):Wp CC (subC [1,1,0,1,0,0] (bodyOf Tryz.f209)) ⟨mkTm (tl f 0 3 (t3::(f 4)::t5::t6::tl f 7 5 [])),h,n,[]⟩ Q=(
oK (binop CC .lss 3 false t6 t5) fun v2=>
oK (asBool v2) fun b3=>bif b3 then (
oK (binop CC .mul 196 true t3 (.s (.complex .f64 0 4607182418800017408))) fun v4=>
oK (binop CC .add 3 true t6 (.s (.int .i64 1))) fun v5=>
Q .normal ⟨mkTm (tl f 0 3 (v4::(f 4)::t5::v5::v2::t3::v4::v5::(f 11)::[])),h,n,[]⟩) else (
Q (.exit 0) ⟨mkTm (tl f 0 3 (t3::(f 4)::t5::t6::v2::tl f 8 4 [])),h,n,[]⟩)):=Wp.eq_of (by kernel_rfl)
theorem F209_r110100_0 (f:Nat→V) (t3 t5 t6:V) (h:Heap) (n:Nat) (K:V→Heap→Nat→Prop):resume CC none [.blk 0,.sq (subC [1,1,1] (bodyOf Tryz.f209))] (retW CC Tryz.f209 K) (.exit 0) ⟨mkTm (tl f 0 3 (t3::(f 4)::t5::t6::tl f 7 5 [])),h,n,[]⟩=(
K t3 h n):=by kernel_rfl
theorem F218:CC.F.get 218=some Tryz.f218:=by kernel_rfl
theorem F218_eq {K:Ko}:Wp CC (bodyOf Tryz.f218) ⟨initTm Tryz.f218 [t0,t1],h,n,[]⟩ (retW CC Tryz.f218 K)=(
oK (convert CC h 30 9 t0) fun v1=>
oK (convert CC h 30 9 t1) fun v2=>
oK (binop CC .eql 9 false v1 v2) fun v3=>
K v3 h n):=Wp.eq_of (by kernel_rfl)
theorem F218_call {K:Ko} (H:HCall CC Tryz.f218 [t0,t1] h n K):CallK CC 218 [t0,t1] h n K:=callK_by CCok F218 (by kernel_rfl) (by kernel_rfl) H
theorem F219:CC.F.get 219=some Tryz.f219:=by kernel_rfl
theorem F219_eq {K:Ko}:Wp CC (bodyOf Tryz.f219) ⟨initTm Tryz.f219 [t0,t1,t2],h,n,[]⟩ (retW CC Tryz.f219 K)=(
oK (normO (rLoad CC 30 h t1)) fun v1=>
oK (normO (rLoad CC 182 h t2)) fun v2=>
oK (rNil v2) fun v3=>
oK (rFA CC 247 4 v3) fun v4=>
oK (normO (rLoad CC 30 h v4)) fun v5=>
oK (lenV CC h 30 v5) fun v6=>
oK (convert CC .leaf 3 146 v6) fun v7=>
CallK CC 220 [v1] h (n+11) fun v8 h9 n10=>
(lenV CC h9 30 v5=some v6∧normO (rLoad CC 30 h9 v4)=some v5∧normO (rLoad CC 182 h9 t2)=some v2∧True∧True) ∧
oK (binop CC .rem 146 false v8 v7) fun v11=>
oK (convert CC .leaf 146 3 v11) fun v12=>
oK (normO (rLoad CC 182 h9 t2)) fun v13=>
oK (rNil v13) fun v14=>
oK (rFA CC 247 4 v14) fun v15=>
oK (normO (rLoad CC 30 h9 v15)) fun v16=>
oK (lenV CC h9 30 v16) fun v17=>
LoopK CC none (subC [1,1,0,0] (bodyOf Tryz.f219)) ⟨mkTm (t0::t1::t2::undefV::v12::undefV::v1::v8::v2::v3::v4::v5::v6::v7::v11::v12::v13::v14::v15::v16::v17::(.s (.int .i64 0))::un 15 []),h9,n10,[]⟩ (resume CC none [.blk 0] (retW CC Tryz.f219 K))):=Wp.eq_of (by kernel_rfl)
theorem F219_call {K:Ko} (H:HCall CC Tryz.f219 [t0,t1,t2] h n K):CallK CC 219 [t0,t1,t2] h n K:=callK_by CCok F219 (by kernel_rfl) (by kernel_rfl) H
def F219_L1100 (t0 t2 t4 t20 t21:V) (h:Heap) (n:Nat) (s:St):Prop:=∃ f:Nat→V,s=⟨mkTm (t0::(f 1)::t2::(f 3)::t4::tl f 5 15 (t20::t21::tl f 22 15 [])),h,n,[]⟩
theorem F219_L1100_of {t0 t2 t4 t20 t21:V} {h:Heap} {n:Nat}:F219_L1100 t0 t2 t4 t20 t21 h n ⟨mkTm [t0,t1,t2,t3,t4,t5,t6,t7,t8,t9,t10,t11,t12,t13,t14,t15,t16,t17,t18,t19,t20,t21,t22,t23,t24,t25,t26,t27,t28,t29,t30,t31,t32,t33,t34,t35,t36],h,n,[]⟩:=
 ex_of (by kernel_rfl)
theorem F219_b1100 (f:Nat→V) (t0 t2 t4 t20 t21:V) (h:Heap) (n:Nat) (Q:X→St→Prop):Wp CC (subC [1,1,0,0] (bodyOf Tryz.f219)) ⟨mkTm (t0::(f 1)::t2::(f 3)::t4::tl f 5 15 (t20::t21::tl f 22 15 [])),h,n,[]⟩ Q=(
oK (binop CC .lss 3 false t21 t20) fun v18=>
oK (asBool v18) fun b19=>bif b19 then (
oK (binop CC .add 3 false t4 t21) fun v20=>
oK (normO (rLoad CC 182 h t2)) fun v21=>
oK (rNil v21) fun v22=>
oK (rFA CC 247 4 v22) fun v23=>
oK (normO (rLoad CC 30 h v23)) fun v24=>
oK (lenV CC h 30 v24) fun v25=>
oK (binop CC .rem 3 false v20 v25) fun v26=>
callV CC t0 [v26] h n fun v27 h28 n29=>
oK (rUn CC .not v27) fun v30=>
oK (asBool v30) fun b31=>bif b31 then (
Q .ret ⟨mkTm (t0::(f 1)::t2::(f 3)::t4::t21::tl f 6 14 (t20::t21::v18::t21::t0::t4::t21::v20::v21::v22::v23::v24::v25::v26::v27::v30::(f 36)::[])),h28,n29,[]⟩) else (
oK (binop CC .add 3 true t21 (.s (.int .i64 1))) fun v32=>
Q .normal ⟨mkTm (t0::(f 1)::t2::(f 3)::t4::t21::tl f 6 14 (t20::v32::v18::t21::t0::t4::t21::v20::v21::v22::v23::v24::v25::v26::v27::v30::v32::[])),h28,n29,[]⟩)) else (
Q (.exit 0) ⟨mkTm (t0::(f 1)::t2::(f 3)::t4::tl f 5 15 (t20::t21::v18::tl f 23 14 [])),h,n,[]⟩)):=Wp.eq_of (by kernel_rfl)
theorem F219_r1100_0 (f:Nat→V) (t0 t2 t4 t20 t21:V) (h:Heap) (n:Nat) (K:V→Heap→Nat→Prop):resume CC none [.blk 0] (retW CC Tryz.f219 K) (.exit 0) ⟨mkTm (t0::(f 1)::t2::(f 3)::t4::tl f 5 15 (t20::t21::tl f 22 15 [])),h,n,[]⟩=(
K (.tup []) h n):=by kernel_rfl
theorem F220:CC.F.get 220=some Tryz.f220:=by kernel_rfl
theorem F220_eq {K:Ko}:Wp CC (bodyOf Tryz.f220) ⟨initTm Tryz.f220 [t0],h,n,[]⟩ (retW CC Tryz.f220 K)=(
oK (lenV CC h 30 t0) fun v1=>
LoopK CC none (subC [1,1,0,1,0,0] (bodyOf Tryz.f220)) ⟨mkTm (t0::undefV::(.s (.int .u32 0))::(.s (.int .u32 2166136261))::undefV::undefV::t0::v1::(.s (.int .i64 0))::un 10 []),h,n,[]⟩ (resume CC none [.blk 0,.sq (subC [1,1,1] (bodyOf Tryz.f220))] (retW CC Tryz.f220 K))):=Wp.eq_of (by kernel_rfl)
theorem F220_call {K:Ko} (H:HCall CC Tryz.f220 [t0] h n K):CallK CC 220 [t0] h n K:=callK_by CCok F220 (by kernel_rfl) (by kernel_rfl) H
def F220_L110100 (t3 t6 t7 t8:V) (h:Heap) (n:Nat) (s:St):Prop:=∃ f:Nat→V,s=⟨mkTm (tl f 0 3 (t3::(f 4)::(f 5)::t6::t7::t8::tl f 9 10 [])),h,n,[]⟩
theorem F220_L110100_of {t3 t6 t7 t8:V} {h:Heap} {n:Nat}:F220_L110100 t3 t6 t7 t8 h n ⟨mkTm [t0,t1,t2,t3,t4,t5,t6,t7,t8,t9,t10,t11,t12,t13,t14,t15,t16,t17,t18],h,n,[]⟩:=
 ex_of (by kernel_rfl)
theorem F220_b110100 (f:Nat→V) (t3 t6 t7 t8:V) (h:Heap) (n:Nat) (Q:X→St→Prop):Wp CC (subC [1,1,0,1,0,0] (bodyOf Tryz.f220)) ⟨mkTm (tl f 0 3 (t3::(f 4)::(f 5)::t6::t7::t8::tl f 9 10 [])),h,n,[]⟩ Q=(
oK (binop CC .lss 3 false t8 t7) fun v2=>
oK (asBool v2) fun b3=>bif b3 then (
oK (indexAddr CC 30 t6 t8) fun v4=>
oK (normO (rLoad CC 5 h v4)) fun v5=>
oK (convert CC h 5 146 v5) fun v6=>
oK (binop CC .xor 146 false t3 v6) fun v7=>
oK (binop CC .mul 146 true v7 (.s (.int .u32 16777619))) fun v8=>
oK (binop CC .add 3 true t8 (.s (.int .i64 1))) fun v9=>
Q .normal ⟨mkTm (tl f 0 3 (v8::(f 4)::v5::t6::t7::v9::v2::v4::v5::t3::v5::v6::v7::v8::v9::(f 18)::[])),h,n,[]⟩) else (
Q (.exit 0) ⟨mkTm (tl f 0 3 (t3::(f 4)::(f 5)::t6::t7::t8::v2::tl f 10 9 [])),h,n,[]⟩)):=Wp.eq_of (by kernel_rfl)
theorem F220_r110100_0 (f:Nat→V) (t3 t6 t7 t8:V) (h:Heap) (n:Nat) (K:V→Heap→Nat→Prop):resume CC none [.blk 0,.sq (subC [1,1,1] (bodyOf Tryz.f220))] (retW CC Tryz.f220 K) (.exit 0) ⟨mkTm (tl f 0 3 (t3::(f 4)::(f 5)::t6::t7::t8::tl f 9 10 [])),h,n,[]⟩=(
K t3 h n):=by kernel_rfl
theorem F221:CC.F.get 221=some Tryz.f221:=by kernel_rfl
theorem F221_eq {K:Ko}:Wp CC (bodyOf Tryz.f221) ⟨initTm Tryz.f221 [t0,t1,t2,t3,t4],h,n,[]⟩ (retW CC Tryz.f221 K)=(
LoopK CC none (subC [1,0,0] (bodyOf Tryz.f221)) ⟨mkTm (t0::t1::t2::t3::t4::un 5 (t1::undefV::t1::un 69 [])),h,n,[]⟩ (resume CC none [.blk 0] (retW CC Tryz.f221 K))):=Wp.eq_of (by kernel_rfl)
theorem F221_call {K:Ko} (H:HCall CC Tryz.f221 [t0,t1,t2,t3,t4] h n K):CallK CC 221 [t0,t1,t2,t3,t4] h n K:=callK_by CCok F221 (by kernel_rfl) (by kernel_rfl) H
def F221_L100 (t0 t2 t3 t4 t10:V) (h:Heap) (n:Nat) (s:St):Prop:=∃ f:Nat→V,s=⟨mkTm (t0::(f 1)::t2::t3::t4::tl f 5 5 (t10::tl f 11 71 [])),h,n,[]⟩
theorem F221_L100_of {t0 t2 t3 t4 t10:V} {h:Heap} {n:Nat}:F221_L100 t0 t2 t3 t4 t10 h n ⟨mkTm [t0,t1,t2,t3,t4,t5,t6,t7,t8,t9,t10,t11,t12,t13,t14,t15,t16,t17,t18,t19,t20,t21,t22,t23,t24,t25,t26,t27,t28,t29,t30,t31,t32,t33,t34,t35,t36,t37,t38,t39,t40,t41,t42,t43,t44,t45,t46,t47,t48,t49,t50,t51,t52,t53,t54,t55,t56,t57,t58,t59,t60,t61,t62,t63,t64,t65,t66,t67,t68,t69,t70,t71,t72,t73,t74,t75,t76,t77,t78,t79,t80,t81],h,n,[]⟩:=
 ex_of (by kernel_rfl)
theorem F221_b100 (f:Nat→V) (t0 t2 t3 t4 t10:V) (h:Heap) (n:Nat) (Q:X→St→Prop):Wp CC (subC [1,0,0] (bodyOf Tryz.f221)) ⟨mkTm (t0::(f 1)::t2::t3::t4::tl f 5 5 (t10::tl f 11 71 [])),h,n,[]⟩ Q=(
oK (binop CC .mul 3 true (.s (.int .i64 2)) t10) fun v1=>
oK (binop CC .add 3 true v1 (.s (.int .i64 1))) fun v2=>
oK (binop CC .geq 3 false v2 t2) fun v3=>
oK (asBool v3) fun b4=>bif b4 then (
Q (.exit 0) ⟨mkTm (t0::(f 1)::t2::t3::t4::tl f 5 5 (t10::v2::(f 12)::t10::v1::v2::v2::t2::v3::tl f 19 63 [])),h,n,[]⟩) else (
oK (binop CC .add 3 true v2 (.s (.int .i64 1))) fun v5=>
oK (binop CC .lss 3 false v5 t2) fun v6=>
oK (bif (rWant true v6) then some t4 else some undefV) fun v7=>
oK (bif (rWant true v6) then some t0 else some undefV) fun v8=>
oK (bif (rWant true v6) then some t3 else some undefV) fun v9=>
oK (bif (rWant true v6) then some v2 else some undefV) fun v10=>
oK (bif (rWant true v6) then binop CC .add 3 false v9 v10 else some undefV) fun v11=>
oK (bif (rWant true v6) then indexAddr CC 128 v8 v11 else some undefV) fun v12=>
oK ((bif (rWant true v6) then normO (rLoad CC 30 h v12) else some undefV)) fun v13=>
oK (bif (rWant true v6) then some t0 else some undefV) fun v14=>
oK (bif (rWant true v6) then some t3 else some undefV) fun v15=>
oK (bif (rWant true v6) then some v2 else some undefV) fun v16=>
oK (bif (rWant true v6) then binop CC .add 3 false v15 v16 else some undefV) fun v17=>
oK (bif (rWant true v6) then binop CC .add 3 true v17 (.s (.int .i64 1)) else some undefV) fun v18=>
oK (bif (rWant true v6) then indexAddr CC 128 v14 v18 else some undefV) fun v19=>
oK ((bif (rWant true v6) then normO (rLoad CC 30 h v19) else some undefV)) fun v20=>
let k21:=fun (v22:V) (h23:Heap) (n24:Nat)=>(
(True∧True∧True) ∧
oK (bif (rWant true v6) then binop CC .lss 3 true v22 (.s (.int .i64 0)) else some undefV) fun v25=>
oK (rPick v6 v25 (.s (.bool false))) fun v26=>
oK (asBool v26) fun b27=>bif b27 then (
oK (binop CC .add 3 true v2 (.s (.int .i64 1))) fun v28=>
oK (binop CC .add 3 false t3 t10) fun v29=>
oK (indexAddr CC 128 t0 v29) fun v30=>
oK (normO (rLoad CC 30 h23 v30)) fun v31=>
oK (binop CC .add 3 false t3 v28) fun v32=>
oK (indexAddr CC 128 t0 v32) fun v33=>
oK (normO (rLoad CC 30 h23 v33)) fun v34=>
callV CC t4 [v31,v34] h23 (n24+16) fun v35 h36 n37=>
(True∧True∧True) ∧
oK (binop CC .lss 3 true v35 (.s (.int .i64 0))) fun v38=>
oK (rUn CC .not v38) fun v39=>
oK (asBool v39) fun b40=>bif b40 then (
Q .ret ⟨mkTm (t0::(f 1)::t2::t3::t4::tl f 5 5 (t10::v28::(f 12)::t10::v1::v2::v2::t2::v3::v2::v5::t2::v6::v6::v7::v8::v9::v10::v11::v12::v13::v14::v15::v16::v17::v18::v19::v20::v22::v25::v26::v2::v28::t4::t0::t3::t10::v29::v30::v31::t0::t3::v28::v32::v33::v34::v35::v38::v39::tl f 59 23 [])),h36,n37,[]⟩) else (
oK (binop CC .add 3 false t3 t10) fun v41=>
oK (binop CC .add 3 false t3 v28) fun v42=>
oK (binop CC .add 3 false t3 v28) fun v43=>
oK (indexAddr CC 128 t0 v43) fun v44=>
oK (normO (rLoad CC 30 h36 v44)) fun v45=>
oK (binop CC .add 3 false t3 t10) fun v46=>
oK (indexAddr CC 128 t0 v46) fun v47=>
oK (normO (rLoad CC 30 h36 v47)) fun v48=>
oK (indexAddr CC 128 t0 v41) fun v49=>
oK (asPtr v49) fun p50=>oK (store CC h36 30 p50.1 p50.2 v45) fun h51=>
(True∧True∧True) ∧
oK (indexAddr CC 128 t0 v42) fun v52=>
oK (asPtr v52) fun p53=>oK (store CC h51 30 p53.1 p53.2 v48) fun h54=>
(True∧True∧True) ∧
Q .normal ⟨mkTm (t0::(f 1)::t2::t3::t4::tl f 5 5 (v28::v28::(f 12)::t10::v1::v2::v2::t2::v3::v2::v5::t2::v6::v6::v7::v8::v9::v10::v11::v12::v13::v14::v15::v16::v17::v18::v19::v20::v22::v25::v26::v2::v28::t4::t0::t3::t10::v29::v30::v31::t0::t3::v28::v32::v33::v34::v35::v38::v39::t0::t3::t10::v41::t0::t3::v28::v42::t0::t3::v28::v43::v44::v45::t0::t3::t10::v46::v47::v48::v49::v52::v28::[])),h54,(n37+24),[]⟩)) else (
oK (binop CC .add 3 false t3 t10) fun v55=>
oK (indexAddr CC 128 t0 v55) fun v56=>
oK (normO (rLoad CC 30 h23 v56)) fun v57=>
oK (binop CC .add 3 false t3 v2) fun v58=>
oK (indexAddr CC 128 t0 v58) fun v59=>
oK (normO (rLoad CC 30 h23 v59)) fun v60=>
callV CC t4 [v57,v60] h23 (n24+16) fun v61 h62 n63=>
(True∧True∧True) ∧
oK (binop CC .lss 3 true v61 (.s (.int .i64 0))) fun v64=>
oK (rUn CC .not v64) fun v65=>
oK (asBool v65) fun b66=>bif b66 then (
Q .ret ⟨mkTm (t0::(f 1)::t2::t3::t4::tl f 5 5 (t10::v2::(f 12)::t10::v1::v2::v2::t2::v3::v2::v5::t2::v6::v6::v7::v8::v9::v10::v11::v12::v13::v14::v15::v16::v17::v18::v19::v20::v22::v25::v26::(f 41)::(f 42)::t4::t0::t3::t10::v55::v56::v57::t0::t3::v2::v58::v59::v60::v61::v64::v65::tl f 59 23 [])),h62,n63,[]⟩) else (
oK (binop CC .add 3 false t3 t10) fun v67=>
oK (binop CC .add 3 false t3 v2) fun v68=>
oK (binop CC .add 3 false t3 v2) fun v69=>
oK (indexAddr CC 128 t0 v69) fun v70=>
oK (normO (rLoad CC 30 h62 v70)) fun v71=>
oK (binop CC .add 3 false t3 t10) fun v72=>
oK (indexAddr CC 128 t0 v72) fun v73=>
oK (normO (rLoad CC 30 h62 v73)) fun v74=>
oK (indexAddr CC 128 t0 v67) fun v75=>
oK (asPtr v75) fun p76=>oK (store CC h62 30 p76.1 p76.2 v71) fun h77=>
(True∧True∧True) ∧
oK (indexAddr CC 128 t0 v68) fun v78=>
oK (asPtr v78) fun p79=>oK (store CC h77 30 p79.1 p79.2 v74) fun h80=>
(True∧True∧True) ∧
Q .normal ⟨mkTm (t0::(f 1)::t2::t3::t4::tl f 5 5 (v2::v2::(f 12)::t10::v1::v2::v2::t2::v3::v2::v5::t2::v6::v6::v7::v8::v9::v10::v11::v12::v13::v14::v15::v16::v17::v18::v19::v20::v22::v25::v26::(f 41)::(f 42)::t4::t0::t3::t10::v55::v56::v57::t0::t3::v2::v58::v59::v60::v61::v64::v65::t0::t3::t10::v67::t0::t3::v2::v68::t0::t3::v2::v69::v70::v71::t0::t3::t10::v72::v73::v74::v75::v78::v2::[])),h80,(n63+24),[]⟩)));
bif (rWant true v6) then (callV CC v7 [v13,v20] h (n+22) fun v81 h82 n83=>
k21 v81 h82 n83) else k21 undefV h (n+22))):=Wp.eq_of (by kernel_rfl)
theorem F221_r100_0 (f:Nat→V) (t0 t2 t3 t4 t10:V) (h:Heap) (n:Nat) (K:V→Heap→Nat→Prop):resume CC none [.blk 0] (retW CC Tryz.f221 K) (.exit 0) ⟨mkTm (t0::(f 1)::t2::t3::t4::tl f 5 5 (t10::tl f 11 71 [])),h,n,[]⟩=(
K (.tup []) h n):=by kernel_rfl
theorem F223:CC.F.get 223=some Tryz.f223:=by kernel_rfl
theorem F223_eq {K:Ko}:Wp CC (bodyOf Tryz.f223) ⟨initTm Tryz.f223 [t0],h,n,[]⟩ (retW CC Tryz.f223 K)=(
oK (rNil t0) fun v1=>
oK (normO (rLoad CC 313 h v1)) fun v2=>
oK (rNil t0) fun v3=>
oK (normO (rLoad CC 313 h v3)) fun v4=>
oK (binop CC .shl 313 true v4 (.s (.int .u64 13))) fun v5=>
oK (binop CC .xor 313 false v2 v5) fun v6=>
oK (rNil t0) fun v7=>
oK (asPtr v7) fun p8=>oK (store CC h 313 p8.1 p8.2 v6) fun h9=>
(True∧True∧True) ∧
oK (rNil t0) fun v10=>
oK (normO (rLoad CC 313 h9 v10)) fun v11=>
oK (rNil t0) fun v12=>
oK (normO (rLoad CC 313 h9 v12)) fun v13=>
oK (binop CC .shr 313 true v13 (.s (.int .u64 7))) fun v14=>
oK (binop CC .xor 313 false v11 v14) fun v15=>
oK (rNil t0) fun v16=>
oK (asPtr v16) fun p17=>oK (store CC h9 313 p17.1 p17.2 v15) fun h18=>
(True∧True∧True) ∧
oK (rNil t0) fun v19=>
oK (normO (rLoad CC 313 h18 v19)) fun v20=>
oK (rNil t0) fun v21=>
oK (normO (rLoad CC 313 h18 v21)) fun v22=>
oK (binop CC .shl 313 true v22 (.s (.int .u64 17))) fun v23=>
oK (binop CC .xor 313 false v20 v23) fun v24=>
oK (rNil t0) fun v25=>
oK (asPtr v25) fun p26=>oK (store CC h18 313 p26.1 p26.2 v24) fun h27=>
(True∧True∧True) ∧
oK (rNil t0) fun v28=>
oK (normO (rLoad CC 313 h27 v28)) fun v29=>
K v29 h27 (((n+10)+10)+10)):=Wp.eq_of (by kernel_rfl)
theorem F223_call {K:Ko} (H:HCall CC Tryz.f223 [t0] h n K):CallK CC 223 [t0] h n K:=callK_by CCok F223 (by kernel_rfl) (by kernel_rfl) H
theorem F224:CC.F.get 224=some Tryz.f224:=by kernel_rfl
theorem F224_eq {K:Ko}:Wp CC (bodyOf Tryz.f224) ⟨initTm Tryz.f224 [t0,t1,t2,t3],h,n,[]⟩ (retW CC Tryz.f224 K)=(
oK (binop CC .sub 3 true t1 (.s (.int .i64 1))) fun v1=>
oK (binop CC .add 3 true t1 (.s (.int .i64 1))) fun v2=>
CallK CC 225 [t0,v1,t1,v2,t2,t3] h n fun v3 h4 n5=>
K v3 h4 n5):=Wp.eq_of (by kernel_rfl)
theorem F224_call {K:Ko} (H:HCall CC Tryz.f224 [t0,t1,t2,t3] h n K):CallK CC 224 [t0,t1,t2,t3] h n K:=callK_by CCok F224 (by kernel_rfl) (by kernel_rfl) H
theorem F225:CC.F.get 225=some Tryz.f225:=by kernel_rfl
theorem F225_eq {K:Ko}:Wp CC (bodyOf Tryz.f225) ⟨initTm Tryz.f225 [t0,t1,t2,t3,t4,t5],h,n,[]⟩ (retW CC Tryz.f225 K)=(
CallK CC 226 [t0,t1,t2,t4,t5] h n fun v1 h2 n3=>
oK (rExt v1 0) fun v4=>
oK (rExt v1 1) fun v5=>
CallK CC 226 [t0,v5,t3,t4,t5] h2 n3 fun v6 h7 n8=>
oK (rExt v6 0) fun v9=>
oK (rExt v6 1) fun v10=>
CallK CC 226 [t0,v4,v9,t4,t5] h7 n8 fun v11 h12 n13=>
oK (rExt v11 0) fun v14=>
oK (rExt v11 1) fun v15=>
K v15 h12 n13):=Wp.eq_of (by kernel_rfl)
theorem F225_call {K:Ko} (H:HCall CC Tryz.f225 [t0,t1,t2,t3,t4,t5] h n K):CallK CC 225 [t0,t1,t2,t3,t4,t5] h n K:=callK_by CCok F225 (by kernel_rfl) (by kernel_rfl) H
theorem F226:CC.F.get 226=some Tryz.f226:=by kernel_rfl
theorem F226_eq {K:Ko}:Wp CC (bodyOf Tryz.f226) ⟨initTm Tryz.f226 [t0,t1,t2,t3,t4],h,n,[]⟩ (retW CC Tryz.f226 K)=(
oK (indexAddr CC 128 t0 t2) fun v1=>
oK (normO (rLoad CC 30 h v1)) fun v2=>
oK (indexAddr CC 128 t0 t1) fun v3=>
oK (normO (rLoad CC 30 h v3)) fun v4=>
callV CC t4 [v2,v4] h (n+11) fun v5 h6 n7=>
(True∧True∧True) ∧
oK (binop CC .lss 3 true v5 (.s (.int .i64 0))) fun v8=>
oK (asBool v8) fun b9=>bif b9 then (
oK (rNil t3) fun v10=>
oK (normO (rLoad CC 3 h6 v10)) fun v11=>
oK (binop CC .add 3 true v11 (.s (.int .i64 1))) fun v12=>
oK (rNil t3) fun v13=>
oK (asPtr v13) fun p14=>oK (store CC h6 3 p14.1 p14.2 v12) fun h15=>
K (.tup [t2,t1]) h15 n7) else (
K (.tup [t1,t2]) h6 n7)):=Wp.eq_of (by kernel_rfl)
theorem F226_call {K:Ko} (H:HCall CC Tryz.f226 [t0,t1,t2,t3,t4] h n K):CallK CC 226 [t0,t1,t2,t3,t4] h n K:=callK_by CCok F226 (by kernel_rfl) (by kernel_rfl) H
theorem F244:CC.F.get 244=some Tryz.f244:=by kernel_rfl
theorem F244_eq {K:Ko}:Wp CC (bodyOf Tryz.f244) ⟨initTm Tryz.f244 [t0,t1],h,n,[]⟩ (retW CC Tryz.f244 K)=(
CallK CC 191 [t0,t1] h n fun v1 h2 n3=>
oK (binop CC .lss 3 true v1 (.s (.int .i64 0))) fun v4=>
oK (asBool v4) fun b5=>bif b5 then (
K (.tup [(.s (.int .i64 0)),(.s (.bool false))]) h2 n3) else (
oK (rNil t0) fun v6=>
oK (rFA CC 247 4 v6) fun v7=>
oK (normO (rLoad CC 30 h2 v7)) fun v8=>
oK (indexAddr CC 30 v8 v1) fun v9=>
oK (asPtr v9) fun p10=>oK (store CC h2 5 p10.1 p10.2 (.s (.int .u8 2))) fun h11=>
oK (rNil t0) fun v12=>
oK (rFA CC 247 2 v12) fun v13=>
oK (normO (rLoad CC 3 h11 v13)) fun v14=>
oK (binop CC .sub 3 true v14 (.s (.int .i64 1))) fun v15=>
oK (rNil t0) fun v16=>
oK (rFA CC 247 2 v16) fun v17=>
oK (asPtr v17) fun p18=>oK (store CC h11 3 p18.1 p18.2 v15) fun h19=>
oK (rNil t0) fun v20=>
oK (rFA CC 247 5 v20) fun v21=>
oK (normO (rLoad CC 85 h19 v21)) fun v22=>
oK (indexAddr CC 85 v22 v1) fun v23=>
oK (normO (rLoad CC 3 h19 v23)) fun v24=>
K (.tup [v24,(.s (.bool true))]) h19 n3)):=Wp.eq_of (by kernel_rfl)
theorem F244_call {K:Ko} (H:HCall CC Tryz.f244 [t0,t1] h n K):CallK CC 244 [t0,t1] h n K:=callK_by CCok F244 (by kernel_rfl) (by kernel_rfl) H
theorem F245:CC.F.get 245=some Tryz.f245:=by kernel_rfl
theorem F245_eq {K:Ko}:Wp CC (bodyOf Tryz.f245) ⟨initTm Tryz.f245 [t0,t1],h,n,[]⟩ (retW CC Tryz.f245 K)=(
CallK CC 191 [t0,t1] h n fun v1 h2 n3=>
oK (binop CC .lss 3 true v1 (.s (.int .i64 0))) fun v4=>
oK (asBool v4) fun b5=>bif b5 then (
K (.tup [(.s (.int .i64 0)),(.s (.bool false))]) h2 n3) else (
oK (rNil t0) fun v6=>
oK (rFA CC 247 5 v6) fun v7=>
oK (normO (rLoad CC 85 h2 v7)) fun v8=>
oK (indexAddr CC 85 v8 v1) fun v9=>
oK (normO (rLoad CC 3 h2 v9)) fun v10=>
K (.tup [v10,(.s (.bool true))]) h2 n3)):=Wp.eq_of (by kernel_rfl)
theorem F245_call {K:Ko} (H:HCall CC Tryz.f245 [t0,t1] h n K):CallK CC 245 [t0,t1] h n K:=callK_by CCok F245 (by kernel_rfl) (by kernel_rfl) H
theorem F246:CC.F.get 246=some Tryz.f246:=by kernel_rfl
theorem F246_eq {K:Ko}:Wp CC (bodyOf Tryz.f246) ⟨initTm Tryz.f246 [t0],h,n,[]⟩ (retW CC Tryz.f246 K)=(
oK (rNil t0) fun v1=>
oK (rFA CC 247 4 v1) fun v2=>
oK (normO (rLoad CC 30 h v2)) fun v3=>
oK (lenV CC h 30 v3) fun v4=>
LoopK CC none (subC [1,1,0,1,0,0] (bodyOf Tryz.f246)) ⟨mkTm (t0::undefV::(.s (.slice none 0 0))::(.s (.slice none 0 0))::undefV::undefV::t0::v1::v2::v3::v4::(.s (.int .i64 0))::un 15 []),h,n,[]⟩ (resume CC none [.blk 0,.sq (subC [1,1,1] (bodyOf Tryz.f246))] (retW CC Tryz.f246 K))):=Wp.eq_of (by kernel_rfl)
theorem F246_call {K:Ko} (H:HCall CC Tryz.f246 [t0] h n K):CallK CC 246 [t0] h n K:=callK_by CCok F246 (by kernel_rfl) (by kernel_rfl) H
def F246_L110100 (t0 t3 t9 t10 t11:V) (h:Heap) (n:Nat) (s:St):Prop:=∃ f:Nat→V,s=⟨mkTm (t0::(f 1)::(f 2)::t3::tl f 4 5 (t9::t10::t11::tl f 12 15 [])),h,n,[]⟩
theorem F246_L110100_of {t0 t3 t9 t10 t11:V} {h:Heap} {n:Nat}:F246_L110100 t0 t3 t9 t10 t11 h n ⟨mkTm [t0,t1,t2,t3,t4,t5,t6,t7,t8,t9,t10,t11,t12,t13,t14,t15,t16,t17,t18,t19,t20,t21,t22,t23,t24,t25,t26],h,n,[]⟩:=
 ex_of (by kernel_rfl)
theorem F246_b110100 (f:Nat→V) (t0 t3 t9 t10 t11:V) (h:Heap) (n:Nat) (Q:X→St→Prop):Wp CC (subC [1,1,0,1,0,0] (bodyOf Tryz.f246)) ⟨mkTm (t0::(f 1)::(f 2)::t3::tl f 4 5 (t9::t10::t11::tl f 12 15 [])),h,n,[]⟩ Q=(
oK (binop CC .lss 3 false t11 t10) fun v5=>
oK (asBool v5) fun b6=>bif b6 then (
oK (indexAddr CC 30 t9 t11) fun v7=>
oK (normO (rLoad CC 5 h v7)) fun v8=>
oK (binop CC .eql 5 true v8 (.s (.int .u8 1))) fun v9=>
oK (asBool v9) fun b10=>bif b10 then (
CallK CC 193 [t0,t11] h n fun v11 h12 n13=>
CallK CC 114 [v11] h12 n13 fun v14 h15 n16=>
fillK 1 ((zr CC 30).rep 1) [(0,v14)] fun c17=>
let h18:=h15.set n16 (.cells (.lst c17) 1); let n19:=n16+1;
appendK CC h18 n19 128 128 t3 (.slice n16 0 1 1 false) fun v20 h21 n22=>
oK (binop CC .add 3 true t11 (.s (.int .i64 1))) fun v23=>
Q .normal ⟨mkTm (t0::(f 1)::(f 2)::v20::t11::v8::tl f 6 3 (t9::t10::v23::v5::t11::v7::v8::v8::v9::t3::t0::t11::v11::v14::(.slice n16 0 1 1 false)::v20::v23::(f 26)::[])),h21,n22,[]⟩) else (
oK (binop CC .add 3 true t11 (.s (.int .i64 1))) fun v24=>
Q .normal ⟨mkTm (t0::(f 1)::(f 2)::t3::t11::v8::tl f 6 3 (t9::t10::v24::v5::t11::v7::v8::v8::v9::tl f 18 7 (v24::(f 26)::[]))),h,n,[]⟩)) else (
Q (.exit 0) ⟨mkTm (t0::(f 1)::(f 2)::t3::tl f 4 5 (t9::t10::t11::v5::tl f 13 14 [])),h,n,[]⟩)):=Wp.eq_of (by kernel_rfl)
theorem F246_r110100_0 (f:Nat→V) (t0 t3 t9 t10 t11:V) (h:Heap) (n:Nat) (K:V→Heap→Nat→Prop):resume CC none [.blk 0,.sq (subC [1,1,1] (bodyOf Tryz.f246))] (retW CC Tryz.f246 K) (.exit 0) ⟨mkTm (t0::(f 1)::(f 2)::t3::tl f 4 5 (t9::t10::t11::tl f 12 15 [])),h,n,[]⟩=(
K t3 h n):=by kernel_rfl
theorem F247:CC.F.get 247=some Tryz.f247:=by kernel_rfl
theorem F247_eq {K:Ko}:Wp CC (bodyOf Tryz.f247) ⟨initTm Tryz.f247 [t0,t1],h,n,[]⟩ (retW CC Tryz.f247 K)=(
CallK CC 158 [t0,t1] h n fun v1 h2 n3=>
oK (binop CC .lss 3 true v1 (.s (.int .i64 0))) fun v4=>
oK (asBool v4) fun b5=>bif b5 then (
K (.tup [(.s (.int .i64 0)),(.s (.bool false))]) h2 n3) else (
CallK CC 194 [t0,v1] h2 n3 fun v6 h7 n8=>
oK (rF CC 255 1 v6) fun v9=>
K (.tup [v9,(.s (.bool true))]) h7 n8)):=Wp.eq_of (by kernel_rfl)
theorem F247_call {K:Ko} (H:HCall CC Tryz.f247 [t0,t1] h n K):CallK CC 247 [t0,t1] h n K:=callK_by CCok F247 (by kernel_rfl) (by kernel_rfl) H
theorem F248:CC.F.get 248=some Tryz.f248:=by kernel_rfl
theorem F248_eq {K:Ko}:Wp CC (bodyOf Tryz.f248) ⟨initTm Tryz.f248 [t0,t1],h,n,[]⟩ (retW CC Tryz.f248 K)=(
CallK CC 158 [t0,t1] h n fun v1 h2 n3=>
oK (binop CC .lss 3 true v1 (.s (.int .i64 0))) fun v4=>
oK (asBool v4) fun b5=>bif b5 then (
K (.tup [(.s (.int .i64 0)),(.s (.bool false))]) h2 n3) else (
CallK CC 194 [t0,v1] h2 n3 fun v6 h7 n8=>
CallK CC 195 [t0,v6] h7 n8 fun v9 h10 n11=>
oK (rNil t0) fun v12=>
oK (rFA CC 250 2 v12) fun v13=>
oK (normO (rLoad CC 248 h10 v13)) fun v14=>
oK (indexAddr CC 248 v14 (.s (.int .i64 0))) fun v15=>
oK (rFA CC 255 1 v15) fun v16=>
oK (normO (rLoad CC 3 h10 v16)) fun v17=>
K (.tup [v17,(.s (.bool true))]) h10 n11)):=Wp.eq_of (by kernel_rfl)
theorem F248_call {K:Ko} (H:HCall CC Tryz.f248 [t0,t1] h n K):CallK CC 248 [t0,t1] h n K:=callK_by CCok F248 (by kernel_rfl) (by kernel_rfl) H
end Go.Ev
