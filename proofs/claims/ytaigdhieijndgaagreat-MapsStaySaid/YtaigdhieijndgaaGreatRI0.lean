import Derived.Test.YtaigdhieijndgaaGreatRF
import Derived.Test.YtaigdhieijndgaaGreatEQ13
namespace Go.Ev
open Proofs
set_option linter.unusedVariables false
set_option autoImplicit true
theorem F4:CC.F.get 4=some Tryz.f4:=by kernel_rfl
theorem F4_eq {K:Ko}:Wp CC (bodyOf Tryz.f4) ⟨initTm Tryz.f4 [t0,t1],h,n,[]⟩ (retW CC Tryz.f4 K)=(
CallK CC 10 [t0] h n fun v1 h2 n3=>
oK (asBool v1) fun b4=>bif b4 then (
CallK CC 11 [] h2 n3 fun v5 h6 n7=>
K v5 h6 n7) else (
CallK CC 12 [] h2 n3 fun v8 h9 n10=>
LoopK CC none (subC [1,1,1,0,1,0,0] (bodyOf Tryz.f4)) ⟨mkTm (t0::t1::undefV::undefV::(.s (.bool false))::v8::(.s (.int .i64 0))::un 11 (t0::v1::undefV::v8::un 150 [])),h9,n10,[]⟩ (resume CC none [.blk 0,.sq (subC [1,1,1,1] (bodyOf Tryz.f4))] (retW CC Tryz.f4 K)))):=Wp.eq_of (by kernel_rfl)
theorem F4_call {K:Ko} (H:HCall CC Tryz.f4 [t0,t1] h n K):CallK CC 4 [t0,t1] h n K:=callK_by CCok F4 (by kernel_rfl) (by kernel_rfl) H
def F4_L1110100 (t0 t1 t5 t6:V) (h:Heap) (n:Nat) (s:St):Prop:=∃ f:Nat→V,s=⟨mkTm (t0::t1::tl f 2 3 (t5::t6::tl f 7 165 [])),h,n,[]⟩
theorem F4_L1110100_of {t0 t1 t5 t6:V} {h:Heap} {n:Nat}:F4_L1110100 t0 t1 t5 t6 h n ⟨mkTm [t0,t1,t2,t3,t4,t5,t6,t7,t8,t9,t10,t11,t12,t13,t14,t15,t16,t17,t18,t19,t20,t21,t22,t23,t24,t25,t26,t27,t28,t29,t30,t31,t32,t33,t34,t35,t36,t37,t38,t39,t40,t41,t42,t43,t44,t45,t46,t47,t48,t49,t50,t51,t52,t53,t54,t55,t56,t57,t58,t59,t60,t61,t62,t63,t64,t65,t66,t67,t68,t69,t70,t71,t72,t73,t74,t75,t76,t77,t78,t79,t80,t81,t82,t83,t84,t85,t86,t87,t88,t89,t90,t91,t92,t93,t94,t95,t96,t97,t98,t99,t100,t101,t102,t103,t104,t105,t106,t107,t108,t109,t110,t111,t112,t113,t114,t115,t116,t117,t118,t119,t120,t121,t122,t123,t124,t125,t126,t127,t128,t129,t130,t131,t132,t133,t134,t135,t136,t137,t138,t139,t140,t141,t142,t143,t144,t145,t146,t147,t148,t149,t150,t151,t152,t153,t154,t155,t156,t157,t158,t159,t160,t161,t162,t163,t164,t165,t166,t167,t168,t169,t170,t171],h,n,[]⟩:=
 ex_of (by kernel_rfl)
theorem F4_b1110100 (f:Nat→V) (t0 t1 t5 t6:V) (h:Heap) (n:Nat) (Q:X→St→Prop):Wp CC (subC [1,1,1,0,1,0,0] (bodyOf Tryz.f4)) ⟨mkTm (t0::t1::tl f 2 3 (t5::t6::tl f 7 165 [])),h,n,[]⟩ Q=(
oK (lenV CC h 22 t0) fun v11=>
oK (binop CC .lss 3 false t6 v11) fun v12=>
oK (asBool v12) fun b13=>bif b13 then (
oK (indexAddr CC 22 t0 t6) fun v14=>
oK (normO (rLoad CC 32 h v14)) fun v15=>
CallK CC 14 [t5,v15] h n fun v16 h17 n18=>
oK (binop CC .add 3 true t6 (.s (.int .i64 1))) fun v19=>
Q .normal ⟨mkTm (t0::t1::tl f 2 3 (t5::v19::tl f 7 15 (t6::t0::v11::v12::t6::v19::t5::t0::t6::v14::v15::v16::tl f 34 138 []))),h17,n18,[]⟩) else (
Q (.exit 0) ⟨mkTm (t0::t1::tl f 2 3 (t5::t6::tl f 7 15 (t6::t0::v11::v12::tl f 26 146 []))),h,n,[]⟩)):=Wp.eq_of (by kernel_rfl)
theorem F4_r1110100_0 (f:Nat→V) (t0 t1 t5 t6:V) (h:Heap) (n:Nat) (K:V→Heap→Nat→Prop):resume CC none [.blk 0,.sq (subC [1,1,1,1] (bodyOf Tryz.f4))] (retW CC Tryz.f4 K) (.exit 0) ⟨mkTm (t0::t1::tl f 2 3 (t5::t6::tl f 7 165 [])),h,n,[]⟩=(
CallK CC 20 [t5] h n fun v20 h21 n22=>
CallK CC 18 [t5] h21 n22 fun v23 h24 n25=>
LoopK CC none (subC [1,1,1,1,1,1,0,1,0,0] (bodyOf Tryz.f4)) ⟨mkTm (t0::t1::tl f 2 3 (t5::t6::v23::(.s (.int .i64 1))::tl f 9 25 (t5::v20::t5::v23::tl f 38 134 []))),h24,n25,[]⟩ (resume CC none [.blk 2,.sq (subC [1,1,1,1,1,1,1] (bodyOf Tryz.f4))] (retW CC Tryz.f4 K))):=by kernel_rfl
def F4_L1111110100 (t1 t5 t7 t8:V) (h:Heap) (n:Nat) (s:St):Prop:=∃ f:Nat→V,s=⟨mkTm ((f 0)::t1::tl f 2 3 (t5::(f 6)::t7::t8::tl f 9 163 [])),h,n,[]⟩
theorem F4_L1111110100_of {t1 t5 t7 t8:V} {h:Heap} {n:Nat}:F4_L1111110100 t1 t5 t7 t8 h n ⟨mkTm [t0,t1,t2,t3,t4,t5,t6,t7,t8,t9,t10,t11,t12,t13,t14,t15,t16,t17,t18,t19,t20,t21,t22,t23,t24,t25,t26,t27,t28,t29,t30,t31,t32,t33,t34,t35,t36,t37,t38,t39,t40,t41,t42,t43,t44,t45,t46,t47,t48,t49,t50,t51,t52,t53,t54,t55,t56,t57,t58,t59,t60,t61,t62,t63,t64,t65,t66,t67,t68,t69,t70,t71,t72,t73,t74,t75,t76,t77,t78,t79,t80,t81,t82,t83,t84,t85,t86,t87,t88,t89,t90,t91,t92,t93,t94,t95,t96,t97,t98,t99,t100,t101,t102,t103,t104,t105,t106,t107,t108,t109,t110,t111,t112,t113,t114,t115,t116,t117,t118,t119,t120,t121,t122,t123,t124,t125,t126,t127,t128,t129,t130,t131,t132,t133,t134,t135,t136,t137,t138,t139,t140,t141,t142,t143,t144,t145,t146,t147,t148,t149,t150,t151,t152,t153,t154,t155,t156,t157,t158,t159,t160,t161,t162,t163,t164,t165,t166,t167,t168,t169,t170,t171],h,n,[]⟩:=
 ex_of (by kernel_rfl)
theorem F4_b1111110100 (f:Nat→V) (t1 t5 t7 t8:V) (h:Heap) (n:Nat) (Q:X→St→Prop):Wp CC (subC [1,1,1,1,1,1,0,1,0,0] (bodyOf Tryz.f4)) ⟨mkTm ((f 0)::t1::tl f 2 3 (t5::(f 6)::t7::t8::tl f 9 163 [])),h,n,[]⟩ Q=(
oK (lenV CC h 42 t7) fun v26=>
oK (binop CC .leq 3 false t8 v26) fun v27=>
oK (asBool v27) fun b28=>bif b28 then (
CallK CC 17 [t5,t8] h n fun v29 h30 n31=>
oK (binop CC .sub 3 true t8 (.s (.int .i64 1))) fun v32=>
oK (indexAddr CC 42 t7 v32) fun v33=>
oK (rFA CC 29 0 v33) fun v34=>
oK (normO (rLoad CC 3 h30 v34)) fun v35=>
oK (binop CC .neq 3 true v35 (.s (.int .i64 2))) fun v36=>
oK (bif (rWant true v36) then some t7 else some undefV) fun v37=>
oK (bif (rWant true v36) then some t8 else some undefV) fun v38=>
oK (bif (rWant true v36) then binop CC .sub 3 true v38 (.s (.int .i64 1)) else some undefV) fun v39=>
oK (bif (rWant true v36) then indexAddr CC 42 v37 v39 else some undefV) fun v40=>
oK (bif (rWant true v36) then rFA CC 29 0 v40 else some undefV) fun v41=>
oK (bif (rWant true v36) then normO (rLoad CC 3 h30 v41) else some undefV) fun v42=>
oK (bif (rWant true v36) then binop CC .neq 3 true v42 (.s (.int .i64 3)) else some undefV) fun v43=>
oK (rPick v36 v43 (.s (.bool false))) fun v44=>
oK (bif (rWant false v44) then some v29 else some undefV) fun v45=>
oK (bif (rWant false v44) then lenV CC h30 40 v45 else some undefV) fun v46=>
oK (bif (rWant false v44) then binop CC .eql 3 true v46 (.s (.int .i64 0)) else some undefV) fun v47=>
oK (rPick v44 (.s (.bool true)) v47) fun v48=>
oK (asBool v48) fun b49=>bif b49 then (
oK (binop CC .add 3 true t8 (.s (.int .i64 1))) fun v50=>
Q .normal ⟨mkTm ((f 0)::t1::tl f 2 3 (t5::(f 6)::t7::v50::v29::tl f 10 28 (t8::t7::v26::v27::t8::v50::t5::t8::v29::t7::t8::v32::v33::v34::v35::v36::v36::v37::v38::v39::v40::v41::v42::v43::v44::v44::v45::v46::v47::v48::tl f 68 104 []))),h30,n31,[]⟩) else (
oK (indexAddr CC 40 v29 (.s (.int .i64 0))) fun v51=>
oK (rFA CC 45 0 v51) fun v52=>
oK (normO (rLoad CC 30 h30 v52)) fun v53=>
CallK CC 13 [t5,t8,v53] h30 n31 fun v54 h55 n56=>
oK (rExt v54 0) fun v57=>
oK (rExt v54 1) fun v58=>
oK (rUn CC .not v58) fun v59=>
oK (bif (rWant false v59) then some t5 else some undefV) fun v60=>
oK (bif (rWant false v59) then some t8 else some undefV) fun v61=>
oK (bif (rWant false v59) then some v29 else some undefV) fun v62=>
oK (bif (rWant false v59) then indexAddr CC 40 v62 (.s (.int .i64 0)) else some undefV) fun v63=>
oK (bif (rWant false v59) then rFA CC 45 0 v63 else some undefV) fun v64=>
oK ((bif (rWant false v59) then normO (rLoad CC 30 h55 v64) else some undefV)) fun v65=>
let k66:=fun (v67:V) (h68:Heap) (n69:Nat)=>(
(True∧True) ∧
oK (bif (rWant false v59) then binop CC .neq 35 true v67 (.s (.int .i64 0)) else some undefV) fun v70=>
oK (rPick v59 (.s (.bool true)) v70) fun v71=>
oK (bif (rWant false v71) then some t5 else some undefV) fun v72=>
oK (bif (rWant false v71) then some v57 else some undefV) fun v73=>
oK (bif (rWant false v71) then some v29 else some undefV) fun v74=>
oK (bif (rWant false v71) then indexAddr CC 40 v74 (.s (.int .i64 0)) else some undefV) fun v75=>
oK (bif (rWant false v71) then rFA CC 45 1 v75 else some undefV) fun v76=>
oK ((bif (rWant false v71) then normO (rLoad CC 30 h68 v76) else some undefV)) fun v77=>
let k78:=fun (v79:V) (h80:Heap) (n81:Nat)=>(
((bif (rWant false v71) then normO (rLoad CC 30 h80 v76) else some undefV)=some v77∧True∧True) ∧
let k82:=fun (v83:V) (h84:Heap) (n85:Nat)=>(
(True∧True∧True) ∧
oK (bif (rWant false v71) then rUn CC .not v83 else some undefV) fun v86=>
oK (rPick v71 (.s (.bool true)) v86) fun v87=>
oK (asBool v87) fun b88=>bif b88 then (
Q .ret ⟨mkTm ((f 0)::t1::(f 2)::(f 3)::(.s (.bool false))::t5::(f 6)::t7::t8::v29::v57::v58::tl f 12 26 (t8::t7::v26::v27::(f 42)::(f 43)::t5::t8::v29::t7::t8::v32::v33::v34::v35::v36::v36::v37::v38::v39::v40::v41::v42::v43::v44::v44::v45::v46::v47::v48::v54::t5::t8::v29::v51::v52::v53::v54::v57::v58::v58::v59::v59::v60::v61::v62::v63::v64::v65::v67::v70::v71::v71::v72::v73::v79::v74::v75::v76::v77::v83::v86::v87::tl f 101 71 [])),h84,n85,[]⟩) else (
CallK CC 22 [t5,v57,(.s (.int .i64 0)),(.s (.int .i64 1)),t1] h84 n85 fun v89 h90 n91=>
CallK CC 23 [t5,v57,(.s (.int .i64 0)),(.s (.int .i64 1))] h90 n91 fun v92 h93 n94=>
oK (rExt v92 0) fun v95=>
oK (rExt v92 1) fun v96=>
oK (rUn CC .not v89) fun v97=>
oK (bif (rWant false v97) then some v96 else some undefV) fun v98=>
oK (bif (rWant false v97) then rUn CC .not v98 else some undefV) fun v99=>
oK (rPick v97 (.s (.bool true)) v99) fun v100=>
oK (bif (rWant false v100) then some v95 else some undefV) fun v101=>
oK (bif (rWant false v100) then some t1 else some undefV) fun v102=>
oK (bif (rWant false v100) then binop CC .rem 27 true v102 (.s (.int .u64 256)) else some undefV) fun v103=>
oK (bif (rWant false v100) then binop CC .neq 27 false v101 v103 else some undefV) fun v104=>
oK (rPick v100 (.s (.bool true)) v104) fun v105=>
oK (bif (rWant false v105) then some t5 else some undefV) fun v106=>
let k107:=fun (v108:V) (h109:Heap) (n110:Nat)=>(
oK (bif (rWant false v105) then binop CC .neq 3 true v108 (.s (.int .i64 1)) else some undefV) fun v111=>
oK (rPick v105 (.s (.bool true)) v111) fun v112=>
oK (bif (rWant false v112) then some t5 else some undefV) fun v113=>
oK (bif (rWant false v112) then some v57 else some undefV) fun v114=>
let k115:=fun (v116:V) (h117:Heap) (n118:Nat)=>(
oK (bif (rWant false v112) then binop CC .neq 3 true v116 (.s (.int .i64 0)) else some undefV) fun v119=>
oK (rPick v112 (.s (.bool true)) v119) fun v120=>
oK (bif (rWant false v120) then some t5 else some undefV) fun v121=>
oK (bif (rWant false v120) then some v57 else some undefV) fun v122=>
oK (bif (rWant false v120) then some t1 else some undefV) fun v123=>
let k124:=fun (v125:V) (h126:Heap) (n127:Nat)=>(
oK (rPick v120 (.s (.bool true)) v125) fun v128=>
oK (asBool v128) fun b129=>bif b129 then (
Q .ret ⟨mkTm ((f 0)::t1::(f 2)::(f 3)::(.s (.bool false))::t5::(f 6)::t7::t8::v29::v57::v58::v89::v95::v96::tl f 15 23 (t8::t7::v26::v27::(f 42)::(f 43)::t5::t8::v29::t7::t8::v32::v33::v34::v35::v36::v36::v37::v38::v39::v40::v41::v42::v43::v44::v44::v45::v46::v47::v48::v54::t5::t8::v29::v51::v52::v53::v54::v57::v58::v58::v59::v59::v60::v61::v62::v63::v64::v65::v67::v70::v71::v71::v72::v73::v79::v74::v75::v76::v77::v83::v86::v87::t5::v57::t1::v89::v92::t5::v57::v92::v95::v96::v89::v97::v97::v98::v99::v100::v100::v101::v102::v103::v104::v105::v105::v106::v108::v111::v112::v112::v113::v114::v116::v119::v120::v120::v121::v122::v123::v125::v128::tl f 140 32 [])),h126,n127,[]⟩) else (
LoopK CC none (subC [1,1,1,1,1,1,0,1,0,0,1,0,0,1,1,1,1,1,1,1,1,0,0] (bodyOf Tryz.f4)) ⟨mkTm ((f 0)::t1::tl f 2 3 (t5::(f 6)::t7::t8::v29::v57::v58::v89::v95::v96::(.s (.int .i64 1))::tl f 16 22 (t8::t7::v26::v27::(f 42)::(f 43)::t5::t8::v29::t7::t8::v32::v33::v34::v35::v36::v36::v37::v38::v39::v40::v41::v42::v43::v44::v44::v45::v46::v47::v48::v54::t5::t8::v29::v51::v52::v53::v54::v57::v58::v58::v59::v59::v60::v61::v62::v63::v64::v65::v67::v70::v71::v71::v72::v73::v79::v74::v75::v76::v77::v83::v86::v87::t5::v57::t1::v89::v92::t5::v57::v92::v95::v96::v89::v97::v97::v98::v99::v100::v100::v101::v102::v103::v104::v105::v105::v106::v108::v111::v112::v112::v113::v114::v116::v119::v120::v120::v121::v122::v123::v125::v128::tl f 140 32 []))),h126,n127,[]⟩ (resume CC none [.blk 4,.blk 3,.sq (subC [1,1,1,1,1,1,0,1,0,0,1,1] (bodyOf Tryz.f4))] Q)));
bif (rWant false v120) then (CallK CC 22 [v121,v122,(.s (.int .i64 0)),(.s (.int .i64 1)),v123] h117 n118 fun v130 h131 n132=>
k124 v130 h131 n132) else k124 undefV h117 n118);
bif (rWant false v112) then (CallK CC 24 [v113,v114] h109 n110 fun v133 h134 n135=>
k115 v133 h134 n135) else k115 undefV h109 n110);
bif (rWant false v105) then (CallK CC 20 [v106] h93 n94 fun v136 h137 n138=>
k107 v136 h137 n138) else k107 undefV h93 n94));
bif (rWant false v71) then (CallK CC 15 [v79,v77] h80 n81 fun v139 h140 n141=>
k82 v139 h140 n141) else k82 undefV h80 n81);
bif (rWant false v71) then (CallK CC 16 [v72,v73] h68 n69 fun v142 h143 n144=>
k78 v142 h143 n144) else k78 undefV h68 n69);
bif (rWant false v59) then (CallK CC 21 [v60,v61,v65] h55 (n56+23) fun v145 h146 n147=>
k66 v145 h146 n147) else k66 undefV h55 (n56+23))) else (
Q (.exit 2) ⟨mkTm ((f 0)::t1::tl f 2 3 (t5::(f 6)::t7::t8::tl f 9 29 (t8::t7::v26::v27::tl f 42 130 []))),h,n,[]⟩)):=Wp.eq_of (by kernel_rfl)
def F4_L11111101001001111111100 (t1 t5 t7 t8 t9 t15:V) (h:Heap) (n:Nat) (s:St):Prop:=∃ f:Nat→V,s=⟨mkTm ((f 0)::t1::tl f 2 3 (t5::(f 6)::t7::t8::t9::tl f 10 5 (t15::tl f 16 156 []))),h,n,[]⟩
theorem F4_L11111101001001111111100_of {t1 t5 t7 t8 t9 t15:V} {h:Heap} {n:Nat}:F4_L11111101001001111111100 t1 t5 t7 t8 t9 t15 h n ⟨mkTm [t0,t1,t2,t3,t4,t5,t6,t7,t8,t9,t10,t11,t12,t13,t14,t15,t16,t17,t18,t19,t20,t21,t22,t23,t24,t25,t26,t27,t28,t29,t30,t31,t32,t33,t34,t35,t36,t37,t38,t39,t40,t41,t42,t43,t44,t45,t46,t47,t48,t49,t50,t51,t52,t53,t54,t55,t56,t57,t58,t59,t60,t61,t62,t63,t64,t65,t66,t67,t68,t69,t70,t71,t72,t73,t74,t75,t76,t77,t78,t79,t80,t81,t82,t83,t84,t85,t86,t87,t88,t89,t90,t91,t92,t93,t94,t95,t96,t97,t98,t99,t100,t101,t102,t103,t104,t105,t106,t107,t108,t109,t110,t111,t112,t113,t114,t115,t116,t117,t118,t119,t120,t121,t122,t123,t124,t125,t126,t127,t128,t129,t130,t131,t132,t133,t134,t135,t136,t137,t138,t139,t140,t141,t142,t143,t144,t145,t146,t147,t148,t149,t150,t151,t152,t153,t154,t155,t156,t157,t158,t159,t160,t161,t162,t163,t164,t165,t166,t167,t168,t169,t170,t171],h,n,[]⟩:=
 ex_of (by kernel_rfl)
theorem F4_b11111101001001111111100 (f:Nat→V) (t1 t5 t7 t8 t9 t15:V) (h:Heap) (n:Nat) (Q:X→St→Prop):Wp CC (subC [1,1,1,1,1,1,0,1,0,0,1,0,0,1,1,1,1,1,1,1,1,0,0] (bodyOf Tryz.f4)) ⟨mkTm ((f 0)::t1::tl f 2 3 (t5::(f 6)::t7::t8::t9::tl f 10 5 (t15::tl f 16 156 []))),h,n,[]⟩ Q=(
oK (lenV CC h 40 t9) fun v148=>
oK (binop CC .lss 3 false t15 v148) fun v149=>
oK (asBool v149) fun b150=>bif b150 then (
oK (indexAddr CC 40 t9 t15) fun v151=>
oK (rFA CC 45 0 v151) fun v152=>
oK (normO (rLoad CC 30 h v152)) fun v153=>
CallK CC 13 [t5,t8,v153] h n fun v154 h155 n156=>
oK (rExt v154 0) fun v157=>
oK (rExt v154 1) fun v158=>
oK (rUn CC .not v158) fun v159=>
oK (bif (rWant false v159) then some t5 else some undefV) fun v160=>
oK (bif (rWant false v159) then some v157 else some undefV) fun v161=>
oK (bif (rWant false v159) then some t9 else some undefV) fun v162=>
oK (bif (rWant false v159) then some t15 else some undefV) fun v163=>
oK (bif (rWant false v159) then indexAddr CC 40 v162 v163 else some undefV) fun v164=>
oK (bif (rWant false v159) then rFA CC 45 1 v164 else some undefV) fun v165=>
oK ((bif (rWant false v159) then normO (rLoad CC 30 h155 v165) else some undefV)) fun v166=>
let k167:=fun (v168:V) (h169:Heap) (n170:Nat)=>(
((bif (rWant false v159) then normO (rLoad CC 30 h169 v165) else some undefV)=some v166∧True) ∧
let k171:=fun (v172:V) (h173:Heap) (n174:Nat)=>(
(True∧True) ∧
oK (bif (rWant false v159) then rUn CC .not v172 else some undefV) fun v175=>
oK (rPick v159 (.s (.bool true)) v175) fun v176=>
oK (asBool v176) fun b177=>bif b177 then (
Q .ret ⟨mkTm ((f 0)::t1::(f 2)::(f 3)::(.s (.bool false))::t5::(f 6)::t7::t8::t9::tl f 10 5 (t15::v157::v158::tl f 18 122 (t15::t9::v148::v149::(f 144)::(f 145)::v154::t5::t8::t9::t15::v151::v152::v153::v154::v157::v158::v158::v159::v159::v160::v161::v168::v162::v163::v164::v165::v166::v172::v175::v176::(f 171)::[]))),h173,n174,[]⟩) else (
oK (binop CC .add 3 true t15 (.s (.int .i64 1))) fun v178=>
Q .normal ⟨mkTm ((f 0)::t1::tl f 2 3 (t5::(f 6)::t7::t8::t9::tl f 10 5 (v178::v157::v158::tl f 18 122 (t15::t9::v148::v149::t15::v178::v154::t5::t8::t9::t15::v151::v152::v153::v154::v157::v158::v158::v159::v159::v160::v161::v168::v162::v163::v164::v165::v166::v172::v175::v176::(f 171)::[])))),h173,n174,[]⟩));
bif (rWant false v159) then (CallK CC 15 [v168,v166] h169 n170 fun v179 h180 n181=>
k171 v179 h180 n181) else k171 undefV h169 n170);
bif (rWant false v159) then (CallK CC 16 [v160,v161] h155 (n156+14) fun v182 h183 n184=>
k167 v182 h183 n184) else k167 undefV h155 (n156+14)) else (
Q (.exit 4) ⟨mkTm ((f 0)::t1::tl f 2 3 (t5::(f 6)::t7::t8::t9::tl f 10 5 (t15::tl f 16 124 (t15::t9::v148::v149::tl f 144 28 [])))),h,n,[]⟩)):=Wp.eq_of (by kernel_rfl)
theorem F4_r11111101001001111111100_4 (f:Nat→V) (t1 t5 t7 t8 t9 t15:V) (h:Heap) (n:Nat) (Q:X→St→Prop):resume CC none [.blk 4,.blk 3,.sq (subC [1,1,1,1,1,1,0,1,0,0,1,1] (bodyOf Tryz.f4))] Q (.exit 4) ⟨mkTm ((f 0)::t1::tl f 2 3 (t5::(f 6)::t7::t8::t9::tl f 10 5 (t15::tl f 16 156 []))),h,n,[]⟩=(
oK (binop CC .add 3 true t8 (.s (.int .i64 1))) fun v185=>
Q .normal ⟨mkTm ((f 0)::t1::tl f 2 3 (t5::(f 6)::t7::v185::t9::tl f 10 5 (t15::tl f 16 26 (t8::v185::tl f 44 128 [])))),h,n,[]⟩):=by kernel_rfl
theorem F4_r1111110100_2 (f:Nat→V) (t1 t5 t7 t8:V) (h:Heap) (n:Nat) (K:V→Heap→Nat→Prop):resume CC none [.blk 2,.sq (subC [1,1,1,1,1,1,1] (bodyOf Tryz.f4))] (retW CC Tryz.f4 K) (.exit 2) ⟨mkTm ((f 0)::t1::tl f 2 3 (t5::(f 6)::t7::t8::tl f 9 163 [])),h,n,[]⟩=(
CallK CC 11 [] h n fun v187 h188 n189=>
K v187 h188 n189):=by kernel_rfl
theorem F10:CC.F.get 10=some Tryz.f10:=by kernel_rfl
theorem F10_eq {K:Ko}:Wp CC (bodyOf Tryz.f10) ⟨initTm Tryz.f10 [t0],h,n,[]⟩ (retW CC Tryz.f10 K)=(
oK (lenV CC h 22 t0) fun v1=>
oK (binop CC .gtr 3 true v1 (.s (.int .i64 200))) fun v2=>
oK (asBool v2) fun b3=>bif b3 then (
K (.s (.bool true)) h n) else (
LoopK CC none (subC [1,1,0,1,0,0] (bodyOf Tryz.f10)) ⟨mkTm (t0::undefV::(.s (.bool false))::(.s (.int .i64 0))::t0::v1::v2::un 22 []),h,n,[]⟩ (resume CC none [.blk 0,.sq (subC [1,1,1] (bodyOf Tryz.f10))] (retW CC Tryz.f10 K)))):=Wp.eq_of (by kernel_rfl)
theorem F10_call {K:Ko} (H:HCall CC Tryz.f10 [t0] h n K):CallK CC 10 [t0] h n K:=callK_by CCok F10 (by kernel_rfl) (by kernel_rfl) H
def F10_L110100 (t0 t3:V) (h:Heap) (n:Nat) (s:St):Prop:=∃ f:Nat→V,s=⟨mkTm (t0::(f 1)::(f 2)::t3::tl f 4 25 []),h,n,[]⟩
theorem F10_L110100_of {t0 t3:V} {h:Heap} {n:Nat}:F10_L110100 t0 t3 h n ⟨mkTm [t0,t1,t2,t3,t4,t5,t6,t7,t8,t9,t10,t11,t12,t13,t14,t15,t16,t17,t18,t19,t20,t21,t22,t23,t24,t25,t26,t27,t28],h,n,[]⟩:=
 ex_of (by kernel_rfl)
theorem F10_b110100 (f:Nat→V) (t0 t3:V) (h:Heap) (n:Nat) (Q:X→St→Prop):Wp CC (subC [1,1,0,1,0,0] (bodyOf Tryz.f10)) ⟨mkTm (t0::(f 1)::(f 2)::t3::tl f 4 25 []),h,n,[]⟩ Q=(
oK (lenV CC h 22 t0) fun v4=>
oK (binop CC .lss 3 false t3 v4) fun v5=>
oK (asBool v5) fun b6=>bif b6 then (
oK (indexAddr CC 22 t0 t3) fun v7=>
oK (rFA CC 32 8 v7) fun v8=>
oK (normO (rLoad CC 30 h v8)) fun v9=>
oK (lenV CC h 30 v9) fun v10=>
oK (binop CC .gtr 3 true v10 (.s (.int .i64 100))) fun v11=>
oK (bif (rWant false v11) then some t0 else some undefV) fun v12=>
oK (bif (rWant false v11) then some t3 else some undefV) fun v13=>
oK (bif (rWant false v11) then indexAddr CC 22 v12 v13 else some undefV) fun v14=>
oK (bif (rWant false v11) then rFA CC 32 9 v14 else some undefV) fun v15=>
oK (bif (rWant false v11) then normO (rLoad CC 30 h v15) else some undefV) fun v16=>
oK (bif (rWant false v11) then lenV CC h 30 v16 else some undefV) fun v17=>
oK (bif (rWant false v11) then binop CC .gtr 3 true v17 (.s (.int .i64 200)) else some undefV) fun v18=>
oK (rPick v11 (.s (.bool true)) v18) fun v19=>
oK (asBool v19) fun b20=>bif b20 then (
Q .ret ⟨mkTm (t0::(f 1)::(.s (.bool true))::t3::tl f 4 3 (t3::t0::v4::v5::(f 11)::(f 12)::t0::t3::v7::v8::v9::v10::v11::v11::v12::v13::v14::v15::v16::v17::v18::v19::[])),h,n,[]⟩) else (
oK (binop CC .add 3 true t3 (.s (.int .i64 1))) fun v21=>
Q .normal ⟨mkTm (t0::(f 1)::(f 2)::v21::tl f 4 3 (t3::t0::v4::v5::t3::v21::t0::t3::v7::v8::v9::v10::v11::v11::v12::v13::v14::v15::v16::v17::v18::v19::[])),h,n,[]⟩)) else (
Q (.exit 0) ⟨mkTm (t0::(f 1)::(f 2)::t3::tl f 4 3 (t3::t0::v4::v5::tl f 11 18 [])),h,n,[]⟩)):=Wp.eq_of (by kernel_rfl)
theorem F10_r110100_0 (f:Nat→V) (t0 t3:V) (h:Heap) (n:Nat) (K:V→Heap→Nat→Prop):resume CC none [.blk 0,.sq (subC [1,1,1] (bodyOf Tryz.f10))] (retW CC Tryz.f10 K) (.exit 0) ⟨mkTm (t0::(f 1)::(f 2)::t3::tl f 4 25 []),h,n,[]⟩=(
K (.s (.bool false)) h n):=by kernel_rfl
theorem F12:CC.F.get 12=some Tryz.f12:=by kernel_rfl
theorem F12_eq {K:Ko}:Wp CC (bodyOf Tryz.f12) ⟨initTm Tryz.f12 ([]:List V),h,n,[]⟩ (retW CC Tryz.f12 K)=(
CallK CC 48 [] h n fun v1 h2 n3=>
oK (normO (build CC 120 [(0,v1)])) fun v4=>
oK (V.cells v4) fun c5=>
let h6:=h2.set n3 (.cells (.lst c5.toList) 4); let n7:=n3+1;
K (.ptr n3 0) h6 n7):=Wp.eq_of (by kernel_rfl)
theorem F12_call {K:Ko} (H:HCall CC Tryz.f12 ([]:List V) h n K):CallK CC 12 ([]:List V) h n K:=callK_by CCok F12 (by kernel_rfl) (by kernel_rfl) H
theorem F13:CC.F.get 13=some Tryz.f13:=by kernel_rfl
theorem F13_eq {K:Ko}:Wp CC (bodyOf Tryz.f13) ⟨initTm Tryz.f13 [t0,t1,t2],h,n,[]⟩ (retW CC Tryz.f13 K)=(
CallK CC 49 [t0,t1] h n fun v1 h2 n3=>
CallK CC 50 [v1,t2,(.s (.bool false))] h2 n3 fun v4 h5 n6=>
oK (rExt v4 0) fun v7=>
oK (rExt v4 1) fun v8=>
K (.tup [v7,v8]) h5 n6):=Wp.eq_of (by kernel_rfl)
theorem F13_call {K:Ko} (H:HCall CC Tryz.f13 [t0,t1,t2] h n K):CallK CC 13 [t0,t1,t2] h n K:=callK_by CCok F13 (by kernel_rfl) (by kernel_rfl) H
theorem F14:CC.F.get 14=some Tryz.f14:=by kernel_rfl
theorem F14_eq {K:Ko}:Wp CC (bodyOf Tryz.f14) ⟨initTm Tryz.f14 [t0,t1],h,n,[]⟩ (retW CC Tryz.f14 K)=(
oK (V.cells t1) fun c1=>
let h2:=h.set n (.cells (.lst c1.toList) 13); let n3:=n+1;
oK (rFA CC 32 8 (.ptr n 0)) fun v4=>
oK (normO (rLoad CC 30 h2 v4)) fun v5=>
CallK CC 51 [v5] h2 n3 fun v6 h7 n8=>
oK (rFA CC 32 9 (.ptr n 0)) fun v9=>
oK (normO (rLoad CC 30 h7 v9)) fun v10=>
CallK CC 51 [v10] h7 n8 fun v11 h12 n13=>
oK (rFA CC 32 0 (.ptr n 0)) fun v14=>
oK (normO (rLoad CC 3 h12 v14)) fun v15=>
oK (binop CC .eql 3 true v15 (.s (.int .i64 0))) fun v16=>
oK (asBool v16) fun b17=>bif b17 then (
oK (rFA CC 32 7 (.ptr n 0)) fun v18=>
oK (normO (rLoad CC 29 h12 v18)) fun v19=>
CallK CC 45 [t0,v19] h12 n13 fun v20 h21 n22=>
oK (rExt v20 0) fun v23=>
oK (rExt v20 1) fun v24=>
oK (rFA CC 32 8 (.ptr n 0)) fun v25=>
oK (normO (rLoad CC 30 h21 v25)) fun v26=>
CallK CC 54 [v6,v26] h21 n22 fun v27 h28 n29=>
oK (rUn CC .not v27) fun v30=>
oK (bif (rWant false v30) then some v11 else some undefV) fun v31=>
oK (bif (rWant false v30) then rFA CC 32 9 (.ptr n 0) else some undefV) fun v32=>
oK (bif (rWant false v30) then normO (rLoad CC 30 h28 v32) else some undefV) fun v33=>
let k34:=fun (v35:V) (h36:Heap) (n37:Nat)=>(
oK (bif (rWant false v30) then rUn CC .not v35 else some undefV) fun v38=>
oK (rPick v30 (.s (.bool true)) v38) fun v39=>
oK (asBool v39) fun b40=>bif b40 then (
K (.tup [(.s (.int .i64 (-77))),(.s (.bool false)),(.s (.int .i64 (-77)))]) h36 n37) else (
CallK CC 55 [v6] h36 n37 fun v41 h42 n43=>
CallK CC 55 [v11] h42 n43 fun v44 h45 n46=>
K (.tup [v23,(.s (.bool true)),v24]) h45 n46));
bif (rWant false v30) then (CallK CC 54 [v31,v33] h28 n29 fun v47 h48 n49=>
k34 v47 h48 n49) else k34 undefV h28 n29) else (
oK (binop CC .eql 3 true v15 (.s (.int .i64 1))) fun v50=>
oK (asBool v50) fun b51=>bif b51 then (
oK (rFA CC 32 1 (.ptr n 0)) fun v52=>
oK (normO (rLoad CC 3 h12 v52)) fun v53=>
oK (rFA CC 32 8 (.ptr n 0)) fun v54=>
oK (normO (rLoad CC 30 h12 v54)) fun v55=>
oK (lenV CC h12 30 v55) fun v56=>
oK (sliceOp CC 30 v6 none (some v56) none) fun v57=>
CallK CC 47 [t0,v53,v57] h12 (n13+14) fun v58 h59 n60=>
(True∧True∧True∧True) ∧
oK (rExt v58 0) fun v61=>
oK (rExt v58 1) fun v62=>
oK (rFA CC 32 8 (.ptr n 0)) fun v63=>
oK (normO (rLoad CC 30 h59 v63)) fun v64=>
CallK CC 54 [v6,v64] h59 n60 fun v65 h66 n67=>
oK (rUn CC .not v65) fun v68=>
oK (bif (rWant false v68) then some v11 else some undefV) fun v69=>
oK (bif (rWant false v68) then rFA CC 32 9 (.ptr n 0) else some undefV) fun v70=>
oK (bif (rWant false v68) then normO (rLoad CC 30 h66 v70) else some undefV) fun v71=>
let k72:=fun (v73:V) (h74:Heap) (n75:Nat)=>(
oK (bif (rWant false v68) then rUn CC .not v73 else some undefV) fun v76=>
oK (rPick v68 (.s (.bool true)) v76) fun v77=>
oK (asBool v77) fun b78=>bif b78 then (
K (.tup [(.s (.int .i64 (-77))),(.s (.bool false)),(.s (.int .i64 (-77)))]) h74 n75) else (
CallK CC 55 [v6] h74 n75 fun v79 h80 n81=>
CallK CC 55 [v11] h80 n81 fun v82 h83 n84=>
K (.tup [v61,v62,(.s (.int .i64 0))]) h83 n84));
bif (rWant false v68) then (CallK CC 54 [v69,v71] h66 n67 fun v85 h86 n87=>
k72 v85 h86 n87) else k72 undefV h66 n67) else (
oK (binop CC .eql 3 true v15 (.s (.int .i64 2))) fun v88=>
oK (asBool v88) fun b89=>bif b89 then (
oK (rFA CC 32 1 (.ptr n 0)) fun v90=>
oK (normO (rLoad CC 3 h12 v90)) fun v91=>
oK (rFA CC 32 8 (.ptr n 0)) fun v92=>
oK (normO (rLoad CC 30 h12 v92)) fun v93=>
oK (lenV CC h12 30 v93) fun v94=>
oK (sliceOp CC 30 v6 none (some v94) none) fun v95=>
CallK CC 13 [t0,v91,v95] h12 (n13+14) fun v96 h97 n98=>
(True∧True∧True∧True) ∧
oK (rExt v96 0) fun v99=>
oK (rExt v96 1) fun v100=>
oK (rFA CC 32 8 (.ptr n 0)) fun v101=>
oK (normO (rLoad CC 30 h97 v101)) fun v102=>
CallK CC 54 [v6,v102] h97 n98 fun v103 h104 n105=>
oK (rUn CC .not v103) fun v106=>
oK (bif (rWant false v106) then some v11 else some undefV) fun v107=>
oK (bif (rWant false v106) then rFA CC 32 9 (.ptr n 0) else some undefV) fun v108=>
oK (bif (rWant false v106) then normO (rLoad CC 30 h104 v108) else some undefV) fun v109=>
let k110:=fun (v111:V) (h112:Heap) (n113:Nat)=>(
oK (bif (rWant false v106) then rUn CC .not v111 else some undefV) fun v114=>
oK (rPick v106 (.s (.bool true)) v114) fun v115=>
oK (asBool v115) fun b116=>bif b116 then (
K (.tup [(.s (.int .i64 (-77))),(.s (.bool false)),(.s (.int .i64 (-77)))]) h112 n113) else (
CallK CC 55 [v6] h112 n113 fun v117 h118 n119=>
CallK CC 55 [v11] h118 n119 fun v120 h121 n122=>
K (.tup [v99,v100,(.s (.int .i64 0))]) h121 n122));
bif (rWant false v106) then (CallK CC 54 [v107,v109] h104 n105 fun v123 h124 n125=>
k110 v123 h124 n125) else k110 undefV h104 n105) else (
oK (binop CC .eql 3 true v15 (.s (.int .i64 3))) fun v126=>
oK (asBool v126) fun b127=>bif b127 then (
oK (rFA CC 32 1 (.ptr n 0)) fun v128=>
oK (normO (rLoad CC 3 h12 v128)) fun v129=>
oK (rFA CC 32 8 (.ptr n 0)) fun v130=>
oK (normO (rLoad CC 30 h12 v130)) fun v131=>
oK (lenV CC h12 30 v131) fun v132=>
oK (sliceOp CC 30 v6 none (some v132) none) fun v133=>
oK (rFA CC 32 9 (.ptr n 0)) fun v134=>
oK (normO (rLoad CC 30 h12 v134)) fun v135=>
oK (lenV CC h12 30 v135) fun v136=>
oK (sliceOp CC 30 v11 none (some v136) none) fun v137=>
CallK CC 46 [t0,v129,v133,v137] h12 (n13+15) fun v138 h139 n140=>
(True∧True∧True∧True∧True∧True) ∧
oK (rFA CC 32 8 (.ptr n 0)) fun v141=>
oK (normO (rLoad CC 30 h139 v141)) fun v142=>
CallK CC 54 [v6,v142] h139 n140 fun v143 h144 n145=>
oK (rUn CC .not v143) fun v146=>
oK (bif (rWant false v146) then some v11 else some undefV) fun v147=>
oK (bif (rWant false v146) then rFA CC 32 9 (.ptr n 0) else some undefV) fun v148=>
oK (bif (rWant false v146) then normO (rLoad CC 30 h144 v148) else some undefV) fun v149=>
let k150:=fun (v151:V) (h152:Heap) (n153:Nat)=>(
oK (bif (rWant false v146) then rUn CC .not v151 else some undefV) fun v154=>
oK (rPick v146 (.s (.bool true)) v154) fun v155=>
oK (asBool v155) fun b156=>bif b156 then (
K (.tup [(.s (.int .i64 (-77))),(.s (.bool false)),(.s (.int .i64 (-77)))]) h152 n153) else (
CallK CC 55 [v6] h152 n153 fun v157 h158 n159=>
CallK CC 55 [v11] h158 n159 fun v160 h161 n162=>
K (.tup [(.s (.int .i64 0)),(.s (.bool true)),v138]) h161 n162));
bif (rWant false v146) then (CallK CC 54 [v147,v149] h144 n145 fun v163 h164 n165=>
k150 v163 h164 n165) else k150 undefV h144 n145) else (
oK (binop CC .eql 3 true v15 (.s (.int .i64 4))) fun v166=>
oK (asBool v166) fun b167=>bif b167 then (
oK (rFA CC 32 1 (.ptr n 0)) fun v168=>
oK (normO (rLoad CC 3 h12 v168)) fun v169=>
oK (rFA CC 32 8 (.ptr n 0)) fun v170=>
oK (normO (rLoad CC 30 h12 v170)) fun v171=>
oK (lenV CC h12 30 v171) fun v172=>
oK (sliceOp CC 30 v6 none (some v172) none) fun v173=>
CallK CC 21 [t0,v169,v173] h12 (n13+10) fun v174 h175 n176=>
(True∧True∧True∧True) ∧
oK (rFA CC 32 8 (.ptr n 0)) fun v177=>
oK (normO (rLoad CC 30 h175 v177)) fun v178=>
CallK CC 54 [v6,v178] h175 n176 fun v179 h180 n181=>
oK (rUn CC .not v179) fun v182=>
oK (bif (rWant false v182) then some v11 else some undefV) fun v183=>
oK (bif (rWant false v182) then rFA CC 32 9 (.ptr n 0) else some undefV) fun v184=>
oK (bif (rWant false v182) then normO (rLoad CC 30 h180 v184) else some undefV) fun v185=>
let k186:=fun (v187:V) (h188:Heap) (n189:Nat)=>(
oK (bif (rWant false v182) then rUn CC .not v187 else some undefV) fun v190=>
oK (rPick v182 (.s (.bool true)) v190) fun v191=>
oK (asBool v191) fun b192=>bif b192 then (
K (.tup [(.s (.int .i64 (-77))),(.s (.bool false)),(.s (.int .i64 (-77)))]) h188 n189) else (
CallK CC 55 [v6] h188 n189 fun v193 h194 n195=>
CallK CC 55 [v11] h194 n195 fun v196 h197 n198=>
K (.tup [(.s (.int .i64 0)),(.s (.bool true)),v174]) h197 n198));
bif (rWant false v182) then (CallK CC 54 [v183,v185] h180 n181 fun v199 h200 n201=>
k186 v199 h200 n201) else k186 undefV h180 n181) else (
oK (binop CC .eql 3 true v15 (.s (.int .i64 5))) fun v202=>
oK (asBool v202) fun b203=>bif b203 then (
oK (rFA CC 32 1 (.ptr n 0)) fun v204=>
oK (normO (rLoad CC 3 h12 v204)) fun v205=>
oK (rFA CC 32 2 (.ptr n 0)) fun v206=>
oK (normO (rLoad CC 3 h12 v206)) fun v207=>
oK (rFA CC 32 3 (.ptr n 0)) fun v208=>
oK (normO (rLoad CC 3 h12 v208)) fun v209=>
CallK CC 52 [t0,v205,v207,v209] h12 n13 fun v210 h211 n212=>
oK (rFA CC 32 8 (.ptr n 0)) fun v213=>
oK (normO (rLoad CC 30 h211 v213)) fun v214=>
CallK CC 54 [v6,v214] h211 n212 fun v215 h216 n217=>
oK (rUn CC .not v215) fun v218=>
oK (bif (rWant false v218) then some v11 else some undefV) fun v219=>
oK (bif (rWant false v218) then rFA CC 32 9 (.ptr n 0) else some undefV) fun v220=>
oK (bif (rWant false v218) then normO (rLoad CC 30 h216 v220) else some undefV) fun v221=>
let k222:=fun (v223:V) (h224:Heap) (n225:Nat)=>(
oK (bif (rWant false v218) then rUn CC .not v223 else some undefV) fun v226=>
oK (rPick v218 (.s (.bool true)) v226) fun v227=>
oK (asBool v227) fun b228=>bif b228 then (
K (.tup [(.s (.int .i64 (-77))),(.s (.bool false)),(.s (.int .i64 (-77)))]) h224 n225) else (
CallK CC 55 [v6] h224 n225 fun v229 h230 n231=>
CallK CC 55 [v11] h230 n231 fun v232 h233 n234=>
K (.tup [(.s (.int .i64 0)),(.s (.bool true)),v210]) h233 n234));
bif (rWant false v218) then (CallK CC 54 [v219,v221] h216 n217 fun v235 h236 n237=>
k222 v235 h236 n237) else k222 undefV h216 n217) else (
oK (binop CC .eql 3 true v15 (.s (.int .i64 6))) fun v238=>
oK (asBool v238) fun b239=>bif b239 then (
oK (rFA CC 32 4 (.ptr n 0)) fun v240=>
oK (normO (rLoad CC 3 h12 v240)) fun v241=>
oK (rFA CC 32 2 (.ptr n 0)) fun v242=>
oK (normO (rLoad CC 3 h12 v242)) fun v243=>
oK (rFA CC 32 5 (.ptr n 0)) fun v244=>
oK (normO (rLoad CC 3 h12 v244)) fun v245=>
oK (rFA CC 32 6 (.ptr n 0)) fun v246=>
oK (normO (rLoad CC 27 h12 v246)) fun v247=>
CallK CC 22 [t0,v241,v243,v245,v247] h12 n13 fun v248 h249 n250=>
oK (rFA CC 32 8 (.ptr n 0)) fun v251=>
oK (normO (rLoad CC 30 h249 v251)) fun v252=>
CallK CC 54 [v6,v252] h249 n250 fun v253 h254 n255=>
oK (rUn CC .not v253) fun v256=>
oK (bif (rWant false v256) then some v11 else some undefV) fun v257=>
oK (bif (rWant false v256) then rFA CC 32 9 (.ptr n 0) else some undefV) fun v258=>
oK (bif (rWant false v256) then normO (rLoad CC 30 h254 v258) else some undefV) fun v259=>
let k260:=fun (v261:V) (h262:Heap) (n263:Nat)=>(
oK (bif (rWant false v256) then rUn CC .not v261 else some undefV) fun v264=>
oK (rPick v256 (.s (.bool true)) v264) fun v265=>
oK (asBool v265) fun b266=>bif b266 then (
K (.tup [(.s (.int .i64 (-77))),(.s (.bool false)),(.s (.int .i64 (-77)))]) h262 n263) else (
CallK CC 55 [v6] h262 n263 fun v267 h268 n269=>
CallK CC 55 [v11] h268 n269 fun v270 h271 n272=>
K (.tup [(.s (.int .i64 0)),v248,(.s (.int .i64 0))]) h271 n272));
bif (rWant false v256) then (CallK CC 54 [v257,v259] h254 n255 fun v273 h274 n275=>
k260 v273 h274 n275) else k260 undefV h254 n255) else (
oK (binop CC .eql 3 true v15 (.s (.int .i64 7))) fun v276=>
oK (asBool v276) fun b277=>bif b277 then (
oK (rFA CC 32 2 (.ptr n 0)) fun v278=>
oK (normO (rLoad CC 3 h12 v278)) fun v279=>
CallK CC 53 [t0,v279] h12 n13 fun v280 h281 n282=>
oK (rFA CC 32 8 (.ptr n 0)) fun v283=>
oK (normO (rLoad CC 30 h281 v283)) fun v284=>
CallK CC 54 [v6,v284] h281 n282 fun v285 h286 n287=>
oK (rUn CC .not v285) fun v288=>
oK (bif (rWant false v288) then some v11 else some undefV) fun v289=>
oK (bif (rWant false v288) then rFA CC 32 9 (.ptr n 0) else some undefV) fun v290=>
oK (bif (rWant false v288) then normO (rLoad CC 30 h286 v290) else some undefV) fun v291=>
let k292:=fun (v293:V) (h294:Heap) (n295:Nat)=>(
oK (bif (rWant false v288) then rUn CC .not v293 else some undefV) fun v296=>
oK (rPick v288 (.s (.bool true)) v296) fun v297=>
oK (asBool v297) fun b298=>bif b298 then (
K (.tup [(.s (.int .i64 (-77))),(.s (.bool false)),(.s (.int .i64 (-77)))]) h294 n295) else (
CallK CC 55 [v6] h294 n295 fun v299 h300 n301=>
CallK CC 55 [v11] h300 n301 fun v302 h303 n304=>
K (.tup [(.s (.int .i64 0)),(.s (.bool true)),(.s (.int .i64 0))]) h303 n304));
bif (rWant false v288) then (CallK CC 54 [v289,v291] h286 n287 fun v305 h306 n307=>
k292 v305 h306 n307) else k292 undefV h286 n287) else (
oK (binop CC .eql 3 true v15 (.s (.int .i64 8))) fun v308=>
oK (asBool v308) fun b309=>bif b309 then (
CallK CC 20 [t0] h12 n13 fun v310 h311 n312=>
oK (rFA CC 32 8 (.ptr n 0)) fun v313=>
oK (normO (rLoad CC 30 h311 v313)) fun v314=>
CallK CC 54 [v6,v314] h311 n312 fun v315 h316 n317=>
oK (rUn CC .not v315) fun v318=>
oK (bif (rWant false v318) then some v11 else some undefV) fun v319=>
oK (bif (rWant false v318) then rFA CC 32 9 (.ptr n 0) else some undefV) fun v320=>
oK (bif (rWant false v318) then normO (rLoad CC 30 h316 v320) else some undefV) fun v321=>
let k322:=fun (v323:V) (h324:Heap) (n325:Nat)=>(
oK (bif (rWant false v318) then rUn CC .not v323 else some undefV) fun v326=>
oK (rPick v318 (.s (.bool true)) v326) fun v327=>
oK (asBool v327) fun b328=>bif b328 then (
K (.tup [(.s (.int .i64 (-77))),(.s (.bool false)),(.s (.int .i64 (-77)))]) h324 n325) else (
CallK CC 55 [v6] h324 n325 fun v329 h330 n331=>
CallK CC 55 [v11] h330 n331 fun v332 h333 n334=>
K (.tup [v310,(.s (.bool true)),(.s (.int .i64 0))]) h333 n334));
bif (rWant false v318) then (CallK CC 54 [v319,v321] h316 n317 fun v335 h336 n337=>
k322 v335 h336 n337) else k322 undefV h316 n317) else (
oK (rFA CC 32 8 (.ptr n 0)) fun v338=>
oK (normO (rLoad CC 30 h12 v338)) fun v339=>
CallK CC 54 [v6,v339] h12 n13 fun v340 h341 n342=>
oK (rUn CC .not v340) fun v343=>
oK (bif (rWant false v343) then some v11 else some undefV) fun v344=>
oK (bif (rWant false v343) then rFA CC 32 9 (.ptr n 0) else some undefV) fun v345=>
oK (bif (rWant false v343) then normO (rLoad CC 30 h341 v345) else some undefV) fun v346=>
let k347:=fun (v348:V) (h349:Heap) (n350:Nat)=>(
oK (bif (rWant false v343) then rUn CC .not v348 else some undefV) fun v351=>
oK (rPick v343 (.s (.bool true)) v351) fun v352=>
oK (asBool v352) fun b353=>bif b353 then (
K (.tup [(.s (.int .i64 (-77))),(.s (.bool false)),(.s (.int .i64 (-77)))]) h349 n350) else (
CallK CC 55 [v6] h349 n350 fun v354 h355 n356=>
CallK CC 55 [v11] h355 n356 fun v357 h358 n359=>
K (.tup [(.s (.int .i64 0)),(.s (.bool true)),(.s (.int .i64 0))]) h358 n359));
bif (rWant false v343) then (CallK CC 54 [v344,v346] h341 n342 fun v360 h361 n362=>
k347 v360 h361 n362) else k347 undefV h341 n342)))))))))):=Wp.eq_of (by kernel_rfl)
theorem F14_call {K:Ko} (H:HCall CC Tryz.f14 [t0,t1] h n K):CallK CC 14 [t0,t1] h n K:=callK_by CCok F14 (by kernel_rfl) (by kernel_rfl) H
theorem F15:CC.F.get 15=some Tryz.f15:=by kernel_rfl
theorem F15_eq {K:Ko}:Wp CC (bodyOf Tryz.f15) ⟨initTm Tryz.f15 [t0,t1],h,n,[]⟩ (retW CC Tryz.f15 K)=(
oK (lenV CC h 30 t0) fun v1=>
oK (lenV CC h 30 t1) fun v2=>
oK (binop CC .neq 3 false v1 v2) fun v3=>
oK (asBool v3) fun b4=>bif b4 then (
K (.s (.bool false)) h n) else (
LoopK CC none (subC [1,1,0,1,0,0] (bodyOf Tryz.f15)) ⟨mkTm (t0::t1::undefV::undefV::(.s (.bool false))::(.s (.int .i64 0))::t0::v1::t1::v2::v3::un 15 []),h,n,[]⟩ (resume CC none [.blk 0,.sq (subC [1,1,1] (bodyOf Tryz.f15))] (retW CC Tryz.f15 K)))):=Wp.eq_of (by kernel_rfl)
theorem F15_call {K:Ko} (H:HCall CC Tryz.f15 [t0,t1] h n K):CallK CC 15 [t0,t1] h n K:=callK_by CCok F15 (by kernel_rfl) (by kernel_rfl) H
def F15_L110100 (t0 t1 t5:V) (h:Heap) (n:Nat) (s:St):Prop:=∃ f:Nat→V,s=⟨mkTm (t0::t1::tl f 2 3 (t5::tl f 6 20 [])),h,n,[]⟩
theorem F15_L110100_of {t0 t1 t5:V} {h:Heap} {n:Nat}:F15_L110100 t0 t1 t5 h n ⟨mkTm [t0,t1,t2,t3,t4,t5,t6,t7,t8,t9,t10,t11,t12,t13,t14,t15,t16,t17,t18,t19,t20,t21,t22,t23,t24,t25],h,n,[]⟩:=
 ex_of (by kernel_rfl)
theorem F15_b110100 (f:Nat→V) (t0 t1 t5:V) (h:Heap) (n:Nat) (Q:X→St→Prop):Wp CC (subC [1,1,0,1,0,0] (bodyOf Tryz.f15)) ⟨mkTm (t0::t1::tl f 2 3 (t5::tl f 6 20 [])),h,n,[]⟩ Q=(
oK (lenV CC h 30 t0) fun v5=>
oK (binop CC .lss 3 false t5 v5) fun v6=>
oK (asBool v6) fun b7=>bif b7 then (
oK (indexAddr CC 30 t0 t5) fun v8=>
oK (normO (rLoad CC 5 h v8)) fun v9=>
oK (indexAddr CC 30 t1 t5) fun v10=>
oK (normO (rLoad CC 5 h v10)) fun v11=>
oK (binop CC .neq 5 false v9 v11) fun v12=>
oK (asBool v12) fun b13=>bif b13 then (
Q .ret ⟨mkTm (t0::t1::(f 2)::(f 3)::(.s (.bool false))::t5::tl f 6 5 (t5::t0::v5::v6::(f 15)::(f 16)::t0::t5::v8::v9::t1::t5::v10::v11::v12::[])),h,(n+9),[]⟩) else (
oK (binop CC .add 3 true t5 (.s (.int .i64 1))) fun v14=>
Q .normal ⟨mkTm (t0::t1::tl f 2 3 (v14::tl f 6 5 (t5::t0::v5::v6::t5::v14::t0::t5::v8::v9::t1::t5::v10::v11::v12::[]))),h,(n+9),[]⟩)) else (
Q (.exit 0) ⟨mkTm (t0::t1::tl f 2 3 (t5::tl f 6 5 (t5::t0::v5::v6::tl f 15 11 []))),h,n,[]⟩)):=Wp.eq_of (by kernel_rfl)
theorem F15_r110100_0 (f:Nat→V) (t0 t1 t5:V) (h:Heap) (n:Nat) (K:V→Heap→Nat→Prop):resume CC none [.blk 0,.sq (subC [1,1,1] (bodyOf Tryz.f15))] (retW CC Tryz.f15 K) (.exit 0) ⟨mkTm (t0::t1::tl f 2 3 (t5::tl f 6 20 [])),h,n,[]⟩=(
K (.s (.bool true)) h n):=by kernel_rfl
theorem F16:CC.F.get 16=some Tryz.f16:=by kernel_rfl
theorem F16_eq {K:Ko}:Wp CC (bodyOf Tryz.f16) ⟨initTm Tryz.f16 [t0,t1],h,n,[]⟩ (retW CC Tryz.f16 K)=(
oK (rNil t0) fun v1=>
oK (rFA CC 120 0 v1) fun v2=>
oK (normO (rLoad CC 116 h v2)) fun v3=>
CallK CC 56 [v3,t1] h n fun v4 h5 n6=>
K v4 h5 n6):=Wp.eq_of (by kernel_rfl)
theorem F16_call {K:Ko} (H:HCall CC Tryz.f16 [t0,t1] h n K):CallK CC 16 [t0,t1] h n K:=callK_by CCok F16 (by kernel_rfl) (by kernel_rfl) H
theorem F17:CC.F.get 17=some Tryz.f17:=by kernel_rfl
theorem F17_eq {K:Ko}:Wp CC (bodyOf Tryz.f17) ⟨initTm Tryz.f17 [t0,t1],h,n,[]⟩ (retW CC Tryz.f17 K)=(
CallK CC 49 [t0,t1] h n fun v1 h2 n3=>
oK (binop CC .eql 121 true v1 (.s (.pointer none))) fun v4=>
oK (asBool v4) fun b5=>bif b5 then (
K (.s (.slice none 0 0)) h2 n3) else (
CallK CC 57 [v1] h2 n3 fun v6 h7 n8=>
oK (lenV CC h7 128 v6) fun v9=>
LoopK CC none (subC [1,1,1,1,0,1,0,0] (bodyOf Tryz.f17)) ⟨mkTm (t0::t1::undefV::undefV::(.s (.slice none 0 0))::v1::(.s (.slice none 0 0))::un 4 (t0::t1::v1::v1::v4::v1::v6::v9::(.s (.int .i64 0))::un 41 [])),h7,n8,[]⟩ (resume CC none [.blk 0,.sq (subC [1,1,1,1,1] (bodyOf Tryz.f17))] (retW CC Tryz.f17 K)))):=Wp.eq_of (by kernel_rfl)
theorem F17_call {K:Ko} (H:HCall CC Tryz.f17 [t0,t1] h n K):CallK CC 17 [t0,t1] h n K:=callK_by CCok F17 (by kernel_rfl) (by kernel_rfl) H
def F17_L11110100 (t0 t5 t6 t17 t18 t19:V) (h:Heap) (n:Nat) (s:St):Prop:=∃ f:Nat→V,s=⟨mkTm (t0::tl f 1 4 (t5::t6::tl f 7 10 (t17::t18::t19::tl f 20 41 []))),h,n,[]⟩
theorem F17_L11110100_of {t0 t5 t6 t17 t18 t19:V} {h:Heap} {n:Nat}:F17_L11110100 t0 t5 t6 t17 t18 t19 h n ⟨mkTm [t0,t1,t2,t3,t4,t5,t6,t7,t8,t9,t10,t11,t12,t13,t14,t15,t16,t17,t18,t19,t20,t21,t22,t23,t24,t25,t26,t27,t28,t29,t30,t31,t32,t33,t34,t35,t36,t37,t38,t39,t40,t41,t42,t43,t44,t45,t46,t47,t48,t49,t50,t51,t52,t53,t54,t55,t56,t57,t58,t59,t60],h,n,[]⟩:=
 ex_of (by kernel_rfl)
theorem F17_b11110100 (f:Nat→V) (t0 t5 t6 t17 t18 t19:V) (h:Heap) (n:Nat) (Q:X→St→Prop):Wp CC (subC [1,1,1,1,0,1,0,0] (bodyOf Tryz.f17)) ⟨mkTm (t0::tl f 1 4 (t5::t6::tl f 7 10 (t17::t18::t19::tl f 20 41 []))),h,n,[]⟩ Q=(
oK (binop CC .lss 3 false t19 t18) fun v10=>
oK (asBool v10) fun b11=>bif b11 then (
oK (indexAddr CC 128 t17 t19) fun v12=>
oK (normO (rLoad CC 30 h v12)) fun v13=>
oK (rNil t5) fun v14=>
oK (rFA CC 131 1 v14) fun v15=>
oK (normO (rLoad CC 20 h v15)) fun v16=>
oK (binop CC .eql 20 true v16 (.s .nilIface)) fun v17=>
oK (asBool v17) fun b18=>bif b18 then (
oK (rNil t5) fun v19=>
oK (rFA CC 131 2 v19) fun v20=>
oK (normO (rLoad CC 85 h v20)) fun v21=>
oK (indexAddr CC 85 v21 t19) fun v22=>
oK (normO (rLoad CC 3 h v22)) fun v23=>
CallK CC 58 [v23] h n fun v24 h25 n26=>
oK (normO (build CC 45 [(0,v13),(1,v24)])) fun v27=>
fillK 2 ((zr CC 45).rep 1) [(0,v27)] fun c28=>
let h29:=h25.set n26 (.cells (.lst c28) 2); let n30:=n26+1;
appendK CC h29 n30 40 40 t6 (.slice n26 0 1 1 false) fun v31 h32 n33=>
oK (binop CC .add 3 true t19 (.s (.int .i64 1))) fun v34=>
Q .normal ⟨mkTm (t0::tl f 1 4 (t5::v31::t19::v13::tl f 9 8 (t17::t18::v34::v10::t19::v12::v13::t5::v14::v15::v16::v17::t6::v13::t5::v19::v20::v21::t19::v22::v23::v24::v27::(.slice n26 0 1 1 false)::v31::tl f 42 17 (v34::(f 60)::[])))),h32,n33,[]⟩) else (
CallK CC 50 [t5,v13,(.s (.bool false))] h n fun v35 h36 n37=>
oK (rExt v35 0) fun v38=>
oK (rExt v35 1) fun v39=>
oK (rNil t0) fun v40=>
oK (rFA CC 120 0 v40) fun v41=>
oK (normO (rLoad CC 116 h36 v41)) fun v42=>
CallK CC 56 [v42,v38] h36 n37 fun v43 h44 n45=>
oK (normO (build CC 45 [(0,v13),(1,v43)])) fun v46=>
fillK 2 ((zr CC 45).rep 1) [(0,v46)] fun c47=>
let h48:=h44.set n45 (.cells (.lst c47) 2); let n49:=n45+1;
appendK CC h48 n49 40 40 t6 (.slice n45 0 1 1 false) fun v50 h51 n52=>
oK (binop CC .add 3 true t19 (.s (.int .i64 1))) fun v53=>
Q .normal ⟨mkTm (t0::tl f 1 4 (t5::v50::t19::v13::v38::v39::tl f 11 6 (t17::t18::v53::v10::t19::v12::v13::t5::v14::v15::v16::v17::tl f 29 13 (v35::t5::v13::v35::v38::v39::t6::v13::t0::v40::v41::v42::v38::v43::v46::(.slice n45 0 1 1 false)::v50::v53::(f 60)::[])))),h51,n52,[]⟩)) else (
Q (.exit 0) ⟨mkTm (t0::tl f 1 4 (t5::t6::tl f 7 10 (t17::t18::t19::v10::tl f 21 40 []))),h,n,[]⟩)):=Wp.eq_of (by kernel_rfl)
theorem F17_r11110100_0 (f:Nat→V) (t0 t5 t6 t17 t18 t19:V) (h:Heap) (n:Nat) (K:V→Heap→Nat→Prop):resume CC none [.blk 0,.sq (subC [1,1,1,1,1] (bodyOf Tryz.f17))] (retW CC Tryz.f17 K) (.exit 0) ⟨mkTm (t0::tl f 1 4 (t5::t6::tl f 7 10 (t17::t18::t19::tl f 20 41 []))),h,n,[]⟩=(
K t6 h n):=by kernel_rfl
theorem F18:CC.F.get 18=some Tryz.f18:=by kernel_rfl
theorem F18_eq {K:Ko}:Wp CC (bodyOf Tryz.f18) ⟨initTm Tryz.f18 [t0],h,n,[]⟩ (retW CC Tryz.f18 K)=(
oK (rNil t0) fun v1=>
oK (rFA CC 120 1 v1) fun v2=>
oK (normO (rLoad CC 118 h v2)) fun v3=>
oK (lenV CC h 118 v3) fun v4=>
LoopK CC none (subC [1,1,0,1,0,0] (bodyOf Tryz.f18)) ⟨mkTm (t0::undefV::(.s (.slice none 0 0))::(.s (.slice none 0 0))::undefV::undefV::t0::v1::v2::v3::v4::(.s (.int .i64 0))::un 12 []),h,n,[]⟩ (resume CC none [.blk 0,.sq (subC [1,1,1] (bodyOf Tryz.f18))] (retW CC Tryz.f18 K))):=Wp.eq_of (by kernel_rfl)
theorem F18_call {K:Ko} (H:HCall CC Tryz.f18 [t0] h n K):CallK CC 18 [t0] h n K:=callK_by CCok F18 (by kernel_rfl) (by kernel_rfl) H
def F18_L110100 (t3 t9 t10 t11:V) (h:Heap) (n:Nat) (s:St):Prop:=∃ f:Nat→V,s=⟨mkTm (tl f 0 3 (t3::tl f 4 5 (t9::t10::t11::tl f 12 12 []))),h,n,[]⟩
theorem F18_L110100_of {t3 t9 t10 t11:V} {h:Heap} {n:Nat}:F18_L110100 t3 t9 t10 t11 h n ⟨mkTm [t0,t1,t2,t3,t4,t5,t6,t7,t8,t9,t10,t11,t12,t13,t14,t15,t16,t17,t18,t19,t20,t21,t22,t23],h,n,[]⟩:=
 ex_of (by kernel_rfl)
theorem F18_b110100 (f:Nat→V) (t3 t9 t10 t11:V) (h:Heap) (n:Nat) (Q:X→St→Prop):Wp CC (subC [1,1,0,1,0,0] (bodyOf Tryz.f18)) ⟨mkTm (tl f 0 3 (t3::tl f 4 5 (t9::t10::t11::tl f 12 12 []))),h,n,[]⟩ Q=(
oK (binop CC .lss 3 false t11 t10) fun v5=>
oK (asBool v5) fun b6=>bif b6 then (
oK (indexAddr CC 118 t9 t11) fun v7=>
oK (normO (rLoad CC 121 h v7)) fun v8=>
oK (rNil v8) fun v9=>
oK (rFA CC 131 0 v9) fun v10=>
oK (normO (rLoad CC 29 h v10)) fun v11=>
fillK 4 ((zr CC 29).rep 1) [(0,v11)] fun c12=>
let h13:=h.set n (.cells (.lst c12) 4); let n14:=n+1;
appendK CC h13 n14 42 42 t3 (.slice n 0 1 1 false) fun v15 h16 n17=>
oK (binop CC .add 3 true t11 (.s (.int .i64 1))) fun v18=>
Q .normal ⟨mkTm (tl f 0 3 (v15::(f 4)::v8::tl f 6 3 (t9::t10::v18::v5::v7::v8::t3::v8::v9::v10::v11::(.slice n 0 1 1 false)::v15::v18::(f 23)::[]))),h16,n17,[]⟩) else (
Q (.exit 0) ⟨mkTm (tl f 0 3 (t3::tl f 4 5 (t9::t10::t11::v5::tl f 13 11 []))),h,n,[]⟩)):=Wp.eq_of (by kernel_rfl)
theorem F18_r110100_0 (f:Nat→V) (t3 t9 t10 t11:V) (h:Heap) (n:Nat) (K:V→Heap→Nat→Prop):resume CC none [.blk 0,.sq (subC [1,1,1] (bodyOf Tryz.f18))] (retW CC Tryz.f18 K) (.exit 0) ⟨mkTm (tl f 0 3 (t3::tl f 4 5 (t9::t10::t11::tl f 12 12 []))),h,n,[]⟩=(
K t3 h n):=by kernel_rfl
theorem F20:CC.F.get 20=some Tryz.f20:=by kernel_rfl
theorem F20_eq {K:Ko}:Wp CC (bodyOf Tryz.f20) ⟨initTm Tryz.f20 [t0],h,n,[]⟩ (retW CC Tryz.f20 K)=(
oK (rNil t0) fun v1=>
oK (rFA CC 120 0 v1) fun v2=>
oK (normO (rLoad CC 116 h v2)) fun v3=>
CallK CC 59 [v3] h n fun v4 h5 n6=>
K v4 h5 n6):=Wp.eq_of (by kernel_rfl)
theorem F20_call {K:Ko} (H:HCall CC Tryz.f20 [t0] h n K):CallK CC 20 [t0] h n K:=callK_by CCok F20 (by kernel_rfl) (by kernel_rfl) H
theorem F21:CC.F.get 21=some Tryz.f21:=by kernel_rfl
theorem F21_eq {K:Ko}:Wp CC (bodyOf Tryz.f21) ⟨initTm Tryz.f21 [t0,t1,t2],h,n,[]⟩ (retW CC Tryz.f21 K)=(
CallK CC 49 [t0,t1] h n fun v1 h2 n3=>
oK (binop CC .eql 121 true v1 (.s (.pointer none))) fun v4=>
oK (asBool v4) fun b5=>bif b5 then (
K (.s (.int .i64 10)) h2 n3) else (
oK (rNil v1) fun v6=>
oK (rFA CC 131 1 v6) fun v7=>
oK (normO (rLoad CC 20 h2 v7)) fun v8=>
oK (typeAssert CC v8 133 true) fun v9=>
oK (rExt v9 0) fun v10=>
oK (rExt v9 1) fun v11=>
oK (rUn CC .not v11) fun v12=>
oK (asBool v12) fun b13=>bif b13 then (
K (.s (.int .i64 13)) h2 n3) else (
oK (lenV CC h2 30 t2) fun v14=>
oK (rNil v1) fun v15=>
oK (rFA CC 131 0 v15) fun v16=>
oK (rFA CC 29 1 v16) fun v17=>
oK (normO (rLoad CC 3 h2 v17)) fun v18=>
oK (binop CC .neq 3 false v14 v18) fun v19=>
oK (asBool v19) fun b20=>bif b20 then (
K (.s (.int .i64 14)) h2 n3) else (
invokeW CC v10 "Del" [t2] h2 n3 fun v21 h22 n23=>
oK (rExt v21 0) fun v24=>
oK (rExt v21 1) fun v25=>
oK (rUn CC .not v25) fun v26=>
oK (asBool v26) fun b27=>bif b27 then (
K (.s (.int .i64 10)) h22 n23) else (
oK (rNil t0) fun v28=>
oK (rFA CC 120 0 v28) fun v29=>
oK (normO (rLoad CC 116 h22 v29)) fun v30=>
CallK CC 60 [v30,v24] h22 n23 fun v31 h32 n33=>
CallK CC 61 [t0,t1,t2] h32 n33 fun v34 h35 n36=>
K (.s (.int .i64 0)) h35 n36))))):=Wp.eq_of (by kernel_rfl)
theorem F21_call {K:Ko} (H:HCall CC Tryz.f21 [t0,t1,t2] h n K):CallK CC 21 [t0,t1,t2] h n K:=callK_by CCok F21 (by kernel_rfl) (by kernel_rfl) H
theorem F22:CC.F.get 22=some Tryz.f22:=by kernel_rfl
theorem F22_eq {K:Ko}:Wp CC (bodyOf Tryz.f22) ⟨initTm Tryz.f22 [t0,t1,t2,t3,t4],h,n,[]⟩ (retW CC Tryz.f22 K)=(
oK (rNil t0) fun v1=>
oK (rFA CC 120 0 v1) fun v2=>
oK (normO (rLoad CC 116 h v2)) fun v3=>
oK (rNil t0) fun v4=>
oK (rFA CC 120 2 v4) fun v5=>
oK (normO (rLoad CC 3 h v5)) fun v6=>
CallK CC 62 [v3,t1,t2,t3,t4,v6] h (n+14) fun v7 h8 n9=>
(True∧True∧True) ∧
oK (rUn CC .not v7) fun v10=>
oK (asBool v10) fun b11=>bif b11 then (
K (.s (.bool false)) h8 n9) else (
oK (normO (build CC 115 [(0,(.s (.int .i64 2))),(3,t1)])) fun v12=>
CallK CC 63 [t0,v12] h8 n9 fun v13 h14 n15=>
K (.s (.bool true)) h14 n15)):=Wp.eq_of (by kernel_rfl)
theorem F22_call {K:Ko} (H:HCall CC Tryz.f22 [t0,t1,t2,t3,t4] h n K):CallK CC 22 [t0,t1,t2,t3,t4] h n K:=callK_by CCok F22 (by kernel_rfl) (by kernel_rfl) H
theorem F23:CC.F.get 23=some Tryz.f23:=by kernel_rfl
theorem F23_eq {K:Ko}:Wp CC (bodyOf Tryz.f23) ⟨initTm Tryz.f23 [t0,t1,t2,t3],h,n,[]⟩ (retW CC Tryz.f23 K)=(
oK (rNil t0) fun v1=>
oK (rFA CC 120 0 v1) fun v2=>
oK (normO (rLoad CC 116 h v2)) fun v3=>
CallK CC 64 [v3,t1,t2,t3] h n fun v4 h5 n6=>
oK (rExt v4 0) fun v7=>
oK (rExt v4 1) fun v8=>
K (.tup [v7,v8]) h5 n6):=Wp.eq_of (by kernel_rfl)
theorem F23_call {K:Ko} (H:HCall CC Tryz.f23 [t0,t1,t2,t3] h n K):CallK CC 23 [t0,t1,t2,t3] h n K:=callK_by CCok F23 (by kernel_rfl) (by kernel_rfl) H
theorem F24:CC.F.get 24=some Tryz.f24:=by kernel_rfl
theorem F24_eq {K:Ko}:Wp CC (bodyOf Tryz.f24) ⟨initTm Tryz.f24 [t0,t1],h,n,[]⟩ (retW CC Tryz.f24 K)=(
oK (rNil t0) fun v1=>
oK (rFA CC 120 0 v1) fun v2=>
oK (normO (rLoad CC 116 h v2)) fun v3=>
CallK CC 65 [v3,t1] h n fun v4 h5 n6=>
K v4 h5 n6):=Wp.eq_of (by kernel_rfl)
theorem F24_call {K:Ko} (H:HCall CC Tryz.f24 [t0,t1] h n K):CallK CC 24 [t0,t1] h n K:=callK_by CCok F24 (by kernel_rfl) (by kernel_rfl) H
theorem F45:CC.F.get 45=some Tryz.f45:=by kernel_rfl
theorem F45_eq {K:Ko}:Wp CC (bodyOf Tryz.f45) ⟨initTm Tryz.f45 [t0,t1],h,n,[]⟩ (retW CC Tryz.f45 K)=(
oK (V.cells t1) fun c1=>
let h2:=h.set n (.cells (.lst c1.toList) 4); let n3:=n+1;
oK (rNil t0) fun v4=>
oK (rFA CC 120 1 v4) fun v5=>
oK (normO (rLoad CC 118 h2 v5)) fun v6=>
oK (lenV CC h2 118 v6) fun v7=>
oK (binop CC .geq 3 true v7 (.s (.int .i64 8))) fun v8=>
oK (asBool v8) fun b9=>bif b9 then (
K (.tup [(.s (.int .i64 0)),(.s (.int .i64 9))]) h2 n3) else (
oK (rFA CC 29 0 (.ptr n 0)) fun v10=>
oK (normO (rLoad CC 3 h2 v10)) fun v11=>
CallK CC 98 [v11,(.s (.int .i64 1)),(.s (.int .i64 4))] h2 n3 fun v12 h13 n14=>
oK (rUn CC .not v12) fun v15=>
oK (asBool v15) fun b16=>bif b16 then (
K (.tup [(.s (.int .i64 0)),(.s (.int .i64 13))]) h13 n14) else (
oK (normO (rLoad CC 29 h13 (.ptr n 0))) fun v17=>
CallK CC 99 [v17] h13 n14 fun v18 h19 n20=>
oK (rUn CC .not v18) fun v21=>
oK (asBool v21) fun b22=>bif b22 then (
K (.tup [(.s (.int .i64 0)),(.s (.int .i64 14))]) h19 n20) else (
oK (normO (rLoad CC 29 h19 (.ptr n 0))) fun v23=>
oK (normO (build CC 131 [(0,v23)])) fun v24=>
oK (V.cells v24) fun c25=>
let h26:=h19.set n20 (.cells (.lst c25.toList) 6); let n27:=n20+1;
oK (rFA CC 29 0 (.ptr n 0)) fun v28=>
oK (normO (rLoad CC 3 h26 v28)) fun v29=>
oK (binop CC .eql 3 true v29 (.s (.int .i64 1))) fun v30=>
oK (asBool v30) fun b31=>bif b31 then (
oK (rNil t0) fun v32=>
oK (rFA CC 120 0 v32) fun v33=>
oK (normO (rLoad CC 116 h26 v33)) fun v34=>
oK (rFA CC 29 3 (.ptr n 0)) fun v35=>
oK (normO (rLoad CC 3 h26 v35)) fun v36=>
oK (rFA CC 29 2 (.ptr n 0)) fun v37=>
oK (normO (rLoad CC 3 h26 v37)) fun v38=>
CallK CC 100 [v34,v36,v38] h26 (n27+14) fun v39 h40 n41=>
(True∧True∧True∧True) ∧
oK (rNil (.ptr n20 0)) fun v42=>
oK (rFA CC 131 1 v42) fun v43=>
oK (asPtr v43) fun p44=>oK (store CC h40 20 p44.1 p44.2 (.iface 180 v39)) fun h45=>
(True∧True∧True∧True) ∧
oK (rNil t0) fun v46=>
oK (rFA CC 120 1 v46) fun v47=>
oK (normO (rLoad CC 118 h45 v47)) fun v48=>
fillK 1 ((zr CC 121).rep 1) [(0,(.ptr n20 0))] fun c49=>
let h50:=h45.set n41 (.cells (.lst c49) 1); let n51:=n41+1;
appendK CC h50 n51 118 118 v48 (.slice n41 0 1 1 false) fun v52 h53 n54=>
oK (rNil t0) fun v55=>
oK (rFA CC 120 1 v55) fun v56=>
oK (asPtr v56) fun p57=>oK (store CC h53 118 p57.1 p57.2 v52) fun h58=>
oK (rNil t0) fun v59=>
oK (rFA CC 120 1 v59) fun v60=>
oK (normO (rLoad CC 118 h58 v60)) fun v61=>
oK (lenV CC h58 118 v61) fun v62=>
K (.tup [v62,(.s (.int .i64 0))]) h58 n54) else (
oK (binop CC .eql 3 true v29 (.s (.int .i64 2))) fun v63=>
oK (asBool v63) fun b64=>bif b64 then (
oK (rFA CC 29 1 (.ptr n 0)) fun v65=>
oK (normO (rLoad CC 3 h26 v65)) fun v66=>
oK (rFA CC 29 3 (.ptr n 0)) fun v67=>
oK (normO (rLoad CC 3 h26 v67)) fun v68=>
CallK CC 101 [v66,v68] h26 n27 fun v69 h70 n71=>
oK (rNil (.ptr n20 0)) fun v72=>
oK (rFA CC 131 1 v72) fun v73=>
oK (asPtr v73) fun p74=>oK (store CC h70 20 p74.1 p74.2 (.iface 182 v69)) fun h75=>
oK (rNil t0) fun v76=>
oK (rFA CC 120 1 v76) fun v77=>
oK (normO (rLoad CC 118 h75 v77)) fun v78=>
fillK 1 ((zr CC 121).rep 1) [(0,(.ptr n20 0))] fun c79=>
let h80:=h75.set n71 (.cells (.lst c79) 1); let n81:=n71+1;
appendK CC h80 n81 118 118 v78 (.slice n71 0 1 1 false) fun v82 h83 n84=>
oK (rNil t0) fun v85=>
oK (rFA CC 120 1 v85) fun v86=>
oK (asPtr v86) fun p87=>oK (store CC h83 118 p87.1 p87.2 v82) fun h88=>
oK (rNil t0) fun v89=>
oK (rFA CC 120 1 v89) fun v90=>
oK (normO (rLoad CC 118 h88 v90)) fun v91=>
oK (lenV CC h88 118 v91) fun v92=>
K (.tup [v92,(.s (.int .i64 0))]) h88 n84) else (
oK (binop CC .eql 3 true v29 (.s (.int .i64 3))) fun v93=>
oK (asBool v93) fun b94=>bif b94 then (
oK (rFA CC 29 1 (.ptr n 0)) fun v95=>
oK (normO (rLoad CC 3 h26 v95)) fun v96=>
oK (rFA CC 29 3 (.ptr n 0)) fun v97=>
oK (normO (rLoad CC 3 h26 v97)) fun v98=>
CallK CC 102 [v96,v98] h26 n27 fun v99 h100 n101=>
oK (rNil (.ptr n20 0)) fun v102=>
oK (rFA CC 131 1 v102) fun v103=>
oK (asPtr v103) fun p104=>oK (store CC h100 20 p104.1 p104.2 (.iface 184 v99)) fun h105=>
oK (rNil t0) fun v106=>
oK (rFA CC 120 1 v106) fun v107=>
oK (normO (rLoad CC 118 h105 v107)) fun v108=>
fillK 1 ((zr CC 121).rep 1) [(0,(.ptr n20 0))] fun c109=>
let h110:=h105.set n101 (.cells (.lst c109) 1); let n111:=n101+1;
appendK CC h110 n111 118 118 v108 (.slice n101 0 1 1 false) fun v112 h113 n114=>
oK (rNil t0) fun v115=>
oK (rFA CC 120 1 v115) fun v116=>
oK (asPtr v116) fun p117=>oK (store CC h113 118 p117.1 p117.2 v112) fun h118=>
oK (rNil t0) fun v119=>
oK (rFA CC 120 1 v119) fun v120=>
oK (normO (rLoad CC 118 h118 v120)) fun v121=>
oK (lenV CC h118 118 v121) fun v122=>
K (.tup [v122,(.s (.int .i64 0))]) h118 n114) else (
oK (rFA CC 29 3 (.ptr n 0)) fun v123=>
oK (normO (rLoad CC 3 h26 v123)) fun v124=>
oK (asNat v124) fun l125=>oK (asNat v124) fun c126=>
bif Nat.ble l125 c126 && (Nat.ble (8*c126) 281474976710656 && (Nat.blt c126 9223372036854775808 && true)) then (
let h127:=h26.set n27 (.cells (.lst ((zr CC 3).rep c126).toList) 1); let n128:=n27+1;
oK (rNil (.ptr n20 0)) fun v129=>
oK (rFA CC 131 2 v129) fun v130=>
oK (asPtr v130) fun p131=>oK (store CC h127 85 p131.1 p131.2 (.slice n27 0 l125 c126 false)) fun h132=>
oK (rNil t0) fun v133=>
oK (rFA CC 120 1 v133) fun v134=>
oK (normO (rLoad CC 118 h132 v134)) fun v135=>
fillK 1 ((zr CC 121).rep 1) [(0,(.ptr n20 0))] fun c136=>
let h137:=h132.set n128 (.cells (.lst c136) 1); let n138:=n128+1;
appendK CC h137 n138 118 118 v135 (.slice n128 0 1 1 false) fun v139 h140 n141=>
oK (rNil t0) fun v142=>
oK (rFA CC 120 1 v142) fun v143=>
oK (asPtr v143) fun p144=>oK (store CC h140 118 p144.1 p144.2 v139) fun h145=>
oK (rNil t0) fun v146=>
oK (rFA CC 120 1 v146) fun v147=>
oK (normO (rLoad CC 118 h145 v147)) fun v148=>
oK (lenV CC h145 118 v148) fun v149=>
K (.tup [v149,(.s (.int .i64 0))]) h145 n141) else False))))))):=Wp.eq_of (by kernel_rfl)
theorem F45_call {K:Ko} (H:HCall CC Tryz.f45 [t0,t1] h n K):CallK CC 45 [t0,t1] h n K:=callK_by CCok F45 (by kernel_rfl) (by kernel_rfl) H
theorem F46:CC.F.get 46=some Tryz.f46:=by kernel_rfl
theorem F46_eq {K:Ko}:Wp CC (bodyOf Tryz.f46) ⟨initTm Tryz.f46 [t0,t1,t2,t3],h,n,[]⟩ (retW CC Tryz.f46 K)=(
CallK CC 49 [t0,t1] h n fun v1 h2 n3=>
oK (binop CC .eql 121 true v1 (.s (.pointer none))) fun v4=>
oK (asBool v4) fun b5=>bif b5 then (
K (.s (.int .i64 10)) h2 n3) else (
oK (rNil v1) fun v6=>
oK (rFA CC 131 1 v6) fun v7=>
oK (normO (rLoad CC 20 h2 v7)) fun v8=>
oK (binop CC .eql 20 true v8 (.s .nilIface)) fun v9=>
oK (asBool v9) fun b10=>bif b10 then (
K (.s (.int .i64 13)) h2 n3) else (
oK (lenV CC h2 30 t2) fun v11=>
oK (rNil v1) fun v12=>
oK (rFA CC 131 0 v12) fun v13=>
oK (rFA CC 29 1 v13) fun v14=>
oK (normO (rLoad CC 3 h2 v14)) fun v15=>
oK (binop CC .neq 3 false v11 v15) fun v16=>
oK (bif (rWant false v16) then some t3 else some undefV) fun v17=>
oK (bif (rWant false v16) then lenV CC h2 30 v17 else some undefV) fun v18=>
oK (bif (rWant false v16) then some v1 else some undefV) fun v19=>
oK (bif (rWant false v16) then rNil v19 else some undefV) fun v20=>
oK (bif (rWant false v16) then rFA CC 131 0 v20 else some undefV) fun v21=>
oK (bif (rWant false v16) then rFA CC 29 2 v21 else some undefV) fun v22=>
oK (bif (rWant false v16) then normO (rLoad CC 3 h2 v22) else some undefV) fun v23=>
oK (bif (rWant false v16) then binop CC .neq 3 false v18 v23 else some undefV) fun v24=>
oK (rPick v16 (.s (.bool true)) v24) fun v25=>
oK (asBool v25) fun b26=>bif b26 then (
K (.s (.int .i64 14)) h2 n3) else (
CallK CC 50 [v1,t2,(.s (.bool true))] h2 n3 fun v27 h28 n29=>
oK (rExt v27 0) fun v30=>
oK (rExt v27 1) fun v31=>
oK (asBool v31) fun b32=>bif b32 then (
oK (rNil t0) fun v33=>
oK (rFA CC 120 0 v33) fun v34=>
oK (normO (rLoad CC 116 h28 v34)) fun v35=>
oK (rNil t0) fun v36=>
oK (rFA CC 120 2 v36) fun v37=>
oK (normO (rLoad CC 3 h28 v37)) fun v38=>
CallK CC 103 [v35,v30,t3,v38] h28 (n29+11) fun v39 h40 n41=>
(True∧True∧True) ∧
oK (normO (build CC 115 [(0,(.s (.int .i64 2))),(3,v30)])) fun v42=>
CallK CC 63 [t0,v42] h40 n41 fun v43 h44 n45=>
K (.s (.int .i64 0)) h44 n45) else (
oK (rNil v1) fun v46=>
oK (rFA CC 131 1 v46) fun v47=>
oK (normO (rLoad CC 20 h28 v47)) fun v48=>
oK (typeAssert CC v48 180 true) fun v49=>
oK (rExt v49 1) fun v50=>
oK (rExt v49 0) fun v51=>
oK (asBool v50) fun b52=>bif b52 then (
K (.s (.int .i64 15)) h28 n29) else (
oK (typeAssert CC v48 182 true) fun v53=>
oK (rExt v53 1) fun v54=>
oK (rExt v53 0) fun v55=>
oK (asBool v54) fun b56=>bif b56 then (
oK (rNil v1) fun v57=>
oK (rFA CC 131 0 v57) fun v58=>
oK (rFA CC 29 3 v58) fun v59=>
oK (normO (rLoad CC 3 h28 v59)) fun v60=>
CallK CC 104 [v55] h28 (n29+8) fun v61 h62 n63=>
(normO (rLoad CC 3 h62 v59)=some v60∧True) ∧
oK (binop CC .eql 3 false v61 v60) fun v64=>
oK (asBool v64) fun b65=>bif b65 then (
K (.s (.int .i64 12)) h62 n63) else (
CallK CC 105 [t0,t1,t2,t3] h62 n63 fun v66 h67 n68=>
K (.s (.int .i64 0)) h67 n68)) else (
CallK CC 105 [t0,t1,t2,t3] h28 n29 fun v69 h70 n71=>
K (.s (.int .i64 0)) h70 n71))))))):=Wp.eq_of (by kernel_rfl)
theorem F46_call {K:Ko} (H:HCall CC Tryz.f46 [t0,t1,t2,t3] h n K):CallK CC 46 [t0,t1,t2,t3] h n K:=callK_by CCok F46 (by kernel_rfl) (by kernel_rfl) H
theorem F47:CC.F.get 47=some Tryz.f47:=by kernel_rfl
theorem F47_eq {K:Ko}:Wp CC (bodyOf Tryz.f47) ⟨initTm Tryz.f47 [t0,t1,t2],h,n,[]⟩ (retW CC Tryz.f47 K)=(
CallK CC 49 [t0,t1] h n fun v1 h2 n3=>
CallK CC 50 [v1,t2,(.s (.bool true))] h2 n3 fun v4 h5 n6=>
oK (rExt v4 0) fun v7=>
oK (rExt v4 1) fun v8=>
K (.tup [v7,v8]) h5 n6):=Wp.eq_of (by kernel_rfl)
theorem F47_call {K:Ko} (H:HCall CC Tryz.f47 [t0,t1,t2] h n K):CallK CC 47 [t0,t1,t2] h n K:=callK_by CCok F47 (by kernel_rfl) (by kernel_rfl) H
theorem F48:CC.F.get 48=some Tryz.f48:=by kernel_rfl
theorem F48_eq {K:Ko}:Wp CC (bodyOf Tryz.f48) ⟨initTm Tryz.f48 ([]:List V),h,n,[]⟩ (retW CC Tryz.f48 K)=(
let h1:=h.set n (.map [] 0); let n2:=n+1;
oK (normO (build CC 190 [(0,(.map n))])) fun v3=>
oK (V.cells v3) fun c4=>
let h5:=h1.set n2 (.cells (.lst c4.toList) 2); let n6:=n2+1;
K (.ptr n2 0) h5 n6):=Wp.eq_of (by kernel_rfl)
theorem F48_call {K:Ko} (H:HCall CC Tryz.f48 ([]:List V) h n K):CallK CC 48 ([]:List V) h n K:=callK_by CCok F48 (by kernel_rfl) (by kernel_rfl) H
theorem F49:CC.F.get 49=some Tryz.f49:=by kernel_rfl
theorem F49_eq {K:Ko}:Wp CC (bodyOf Tryz.f49) ⟨initTm Tryz.f49 [t0,t1],h,n,[]⟩ (retW CC Tryz.f49 K)=(
oK (rNil t0) fun v1=>
oK (rFA CC 120 1 v1) fun v2=>
oK (normO (rLoad CC 118 h v2)) fun v3=>
oK (lenV CC h 118 v3) fun v4=>
CallK CC 98 [t1,(.s (.int .i64 1)),v4] h n fun v5 h6 n7=>
oK (rUn CC .not v5) fun v8=>
oK (asBool v8) fun b9=>bif b9 then (
K (.s (.pointer none)) h6 n7) else (
oK (rNil t0) fun v10=>
oK (rFA CC 120 1 v10) fun v11=>
oK (normO (rLoad CC 118 h6 v11)) fun v12=>
oK (binop CC .sub 3 true t1 (.s (.int .i64 1))) fun v13=>
oK (indexAddr CC 118 v12 v13) fun v14=>
oK (normO (rLoad CC 121 h6 v14)) fun v15=>
K v15 h6 n7)):=Wp.eq_of (by kernel_rfl)
theorem F49_call {K:Ko} (H:HCall CC Tryz.f49 [t0,t1] h n K):CallK CC 49 [t0,t1] h n K:=callK_by CCok F49 (by kernel_rfl) (by kernel_rfl) H
theorem F50:CC.F.get 50=some Tryz.f50:=by kernel_rfl
theorem F50_eq {K:Ko}:Wp CC (bodyOf Tryz.f50) ⟨initTm Tryz.f50 [t0,t1,t2],h,n,[]⟩ (retW CC Tryz.f50 K)=(
oK (binop CC .eql 121 true t0 (.s (.pointer none))) fun v1=>
oK (bif (rWant false v1) then some t1 else some undefV) fun v2=>
oK (bif (rWant false v1) then lenV CC h 30 v2 else some undefV) fun v3=>
oK (bif (rWant false v1) then some t0 else some undefV) fun v4=>
oK (bif (rWant false v1) then rNil v4 else some undefV) fun v5=>
oK (bif (rWant false v1) then rFA CC 131 0 v5 else some undefV) fun v6=>
oK (bif (rWant false v1) then rFA CC 29 1 v6 else some undefV) fun v7=>
oK (bif (rWant false v1) then normO (rLoad CC 3 h v7) else some undefV) fun v8=>
oK (bif (rWant false v1) then binop CC .neq 3 false v3 v8 else some undefV) fun v9=>
oK (rPick v1 (.s (.bool true)) v9) fun v10=>
oK (asBool v10) fun b11=>bif b11 then (
K (.tup [(.s (.int .i64 0)),(.s (.bool false))]) h n) else (
oK (rNil t0) fun v12=>
oK (rFA CC 131 1 v12) fun v13=>
oK (normO (rLoad CC 20 h v13)) fun v14=>
oK (typeAssert CC v14 180 true) fun v15=>
oK (rExt v15 1) fun v16=>
oK (rExt v15 0) fun v17=>
oK (asBool v16) fun b18=>bif b18 then (
CallK CC 107 [t1] h n fun v19 h20 n21=>
CallK CC 106 [v17,v19] h20 n21 fun v22 h23 n24=>
oK (rExt v22 0) fun v25=>
oK (rExt v22 1) fun v26=>
K (.tup [v25,v26]) h23 n24) else (
oK (typeAssert CC v14 184 true) fun v27=>
oK (rExt v27 1) fun v28=>
oK (rExt v27 0) fun v29=>
oK (asBool v28) fun b30=>bif b30 then (
oK (rUn CC .not t2) fun v31=>
oK (asBool v31) fun b32=>bif b32 then (
CallK CC 108 [v29,t1] h n fun v33 h34 n35=>
oK (rExt v33 0) fun v36=>
oK (rExt v33 1) fun v37=>
K (.tup [v36,v37]) h34 n35) else (
oK (rNil t0) fun v38=>
oK (rFA CC 131 1 v38) fun v39=>
oK (normO (rLoad CC 20 h v39)) fun v40=>
oK (typeAssert CC v40 133 true) fun v41=>
oK (rExt v41 0) fun v42=>
oK (rExt v41 1) fun v43=>
oK (asBool v43) fun b44=>bif b44 then (
invokeW CC v42 "Find" [t1] h n fun v45 h46 n47=>
oK (rExt v45 0) fun v48=>
oK (rExt v45 1) fun v49=>
K (.tup [v48,v49]) h46 n47) else (
K (.tup [(.s (.int .i64 0)),(.s (.bool false))]) h n))) else (
oK (rNil t0) fun v50=>
oK (rFA CC 131 1 v50) fun v51=>
oK (normO (rLoad CC 20 h v51)) fun v52=>
oK (typeAssert CC v52 133 true) fun v53=>
oK (rExt v53 0) fun v54=>
oK (rExt v53 1) fun v55=>
oK (asBool v55) fun b56=>bif b56 then (
invokeW CC v54 "Find" [t1] h n fun v57 h58 n59=>
oK (rExt v57 0) fun v60=>
oK (rExt v57 1) fun v61=>
K (.tup [v60,v61]) h58 n59) else (
K (.tup [(.s (.int .i64 0)),(.s (.bool false))]) h n))))):=Wp.eq_of (by kernel_rfl)
theorem F50_call {K:Ko} (H:HCall CC Tryz.f50 [t0,t1,t2] h n K):CallK CC 50 [t0,t1,t2] h n K:=callK_by CCok F50 (by kernel_rfl) (by kernel_rfl) H
theorem F51:CC.F.get 51=some Tryz.f51:=by kernel_rfl
theorem F51_eq {K:Ko}:Wp CC (bodyOf Tryz.f51) ⟨initTm Tryz.f51 [t0],h,n,[]⟩ (retW CC Tryz.f51 K)=(
CallK CC 109 [t0] h n fun v1 h2 n3=>
LoopK CC none (subC [1,1,0,1,0,0] (bodyOf Tryz.f51)) ⟨mkTm (t0::undefV::(.s (.slice none 0 0))::v1::(.s (.int .i64 0))::t0::v1::un 10 []),h2,n3,[]⟩ (resume CC none [.blk 0,.sq (subC [1,1,1] (bodyOf Tryz.f51))] (retW CC Tryz.f51 K))):=Wp.eq_of (by kernel_rfl)
theorem F51_call {K:Ko} (H:HCall CC Tryz.f51 [t0] h n K):CallK CC 51 [t0] h n K:=callK_by CCok F51 (by kernel_rfl) (by kernel_rfl) H
def F51_L110100 (t3 t4:V) (h:Heap) (n:Nat) (s:St):Prop:=∃ f:Nat→V,s=⟨mkTm (tl f 0 3 (t3::t4::tl f 5 12 [])),h,n,[]⟩
theorem F51_L110100_of {t3 t4:V} {h:Heap} {n:Nat}:F51_L110100 t3 t4 h n ⟨mkTm [t0,t1,t2,t3,t4,t5,t6,t7,t8,t9,t10,t11,t12,t13,t14,t15,t16],h,n,[]⟩:=
 ex_of (by kernel_rfl)
theorem F51_b110100 (f:Nat→V) (t3 t4:V) (h:Heap) (n:Nat) (Q:X→St→Prop):Wp CC (subC [1,1,0,1,0,0] (bodyOf Tryz.f51)) ⟨mkTm (tl f 0 3 (t3::t4::tl f 5 12 [])),h,n,[]⟩ Q=(
oK (binop CC .lss 3 true t4 (.s (.int .i64 5))) fun v4=>
oK (asBool v4) fun b5=>bif b5 then (
CallK CC 110 [t4] h n fun v6 h7 n8=>
fillK 1 ((zr CC 5).rep 1) [(0,v6)] fun c9=>
let h10:=h7.set n8 (.cells (.lst c9) 1); let n11:=n8+1;
appendK CC h10 n11 30 30 t3 (.slice n8 0 1 1 false) fun v12 h13 n14=>
oK (binop CC .add 3 true t4 (.s (.int .i64 1))) fun v15=>
Q .normal ⟨mkTm (tl f 0 3 (v12::v15::(f 5)::(f 6)::t4::v4::t4::v15::t3::t4::v6::(.slice n8 0 1 1 false)::v12::(f 16)::[])),h13,n14,[]⟩) else (
Q (.exit 0) ⟨mkTm (tl f 0 3 (t3::t4::(f 5)::(f 6)::t4::v4::tl f 9 8 [])),h,n,[]⟩)):=Wp.eq_of (by kernel_rfl)
theorem F51_r110100_0 (f:Nat→V) (t3 t4:V) (h:Heap) (n:Nat) (K:V→Heap→Nat→Prop):resume CC none [.blk 0,.sq (subC [1,1,1] (bodyOf Tryz.f51))] (retW CC Tryz.f51 K) (.exit 0) ⟨mkTm (tl f 0 3 (t3::t4::tl f 5 12 [])),h,n,[]⟩=(
K t3 h n):=by kernel_rfl
theorem F52:CC.F.get 52=some Tryz.f52:=by kernel_rfl
theorem F52_eq {K:Ko}:Wp CC (bodyOf Tryz.f52) ⟨initTm Tryz.f52 [t0,t1,t2,t3],h,n,[]⟩ (retW CC Tryz.f52 K)=(
CallK CC 49 [t0,t1] h n fun v1 h2 n3=>
oK (binop CC .eql 121 true v1 (.s (.pointer none))) fun v4=>
oK (asBool v4) fun b5=>bif b5 then (
K (.s (.int .i64 10)) h2 n3) else (
oK (rNil v1) fun v6=>
oK (rFA CC 131 1 v6) fun v7=>
oK (normO (rLoad CC 20 h2 v7)) fun v8=>
oK (binop CC .neq 20 true v8 (.s .nilIface)) fun v9=>
oK (asBool v9) fun b10=>bif b10 then (
K (.s (.int .i64 13)) h2 n3) else (
oK (rNil v1) fun v11=>
oK (rFA CC 131 0 v11) fun v12=>
oK (rFA CC 29 3 v12) fun v13=>
oK (normO (rLoad CC 3 h2 v13)) fun v14=>
oK (binop CC .sub 3 true v14 (.s (.int .i64 1))) fun v15=>
CallK CC 98 [t2,(.s (.int .i64 0)),v15] h2 n3 fun v16 h17 n18=>
oK (rUn CC .not v16) fun v19=>
oK (asBool v19) fun b20=>bif b20 then (
K (.s (.int .i64 15)) h17 n18) else (
oK (binop CC .lss 3 true t3 (.s (.int .i64 0))) fun v21=>
oK (asBool v21) fun b22=>bif b22 then (
K (.s (.int .i64 1)) h17 n18) else (
oK (rNil v1) fun v23=>
oK (rFA CC 131 2 v23) fun v24=>
oK (normO (rLoad CC 85 h17 v24)) fun v25=>
oK (indexAddr CC 85 v25 t2) fun v26=>
oK (asPtr v26) fun p27=>oK (store CC h17 3 p27.1 p27.2 t3) fun h28=>
oK (normO (build CC 115 [(0,(.s (.int .i64 3))),(1,t1),(2,t2)])) fun v29=>
CallK CC 63 [t0,v29] h28 n18 fun v30 h31 n32=>
K (.s (.int .i64 0)) h31 n32))))):=Wp.eq_of (by kernel_rfl)
theorem F52_call {K:Ko} (H:HCall CC Tryz.f52 [t0,t1,t2,t3] h n K):CallK CC 52 [t0,t1,t2,t3] h n K:=callK_by CCok F52 (by kernel_rfl) (by kernel_rfl) H
theorem F53:CC.F.get 53=some Tryz.f53:=by kernel_rfl
theorem F53_eq {K:Ko}:Wp CC (bodyOf Tryz.f53) ⟨initTm Tryz.f53 [t0,t1],h,n,[]⟩ (retW CC Tryz.f53 K)=(
oK (rNil t0) fun v1=>
oK (rFA CC 120 2 v1) fun v2=>
oK (normO (rLoad CC 3 h v2)) fun v3=>
oK (rMax CC #[3,3] 3 [t1,(.s (.int .i64 0))]) fun v4=>
oK (rMin CC #[3,3] 3 [v4,(.s (.int .i64 1099511627776))]) fun v5=>
oK (binop CC .add 3 false v3 v5) fun v6=>
oK (rNil t0) fun v7=>
oK (rFA CC 120 2 v7) fun v8=>
oK (asPtr v8) fun p9=>oK (store CC h 3 p9.1 p9.2 v6) fun h10=>
K (.tup []) h10 n):=Wp.eq_of (by kernel_rfl)
theorem F53_call {K:Ko} (H:HCall CC Tryz.f53 [t0,t1] h n K):CallK CC 53 [t0,t1] h n K:=callK_by CCok F53 (by kernel_rfl) (by kernel_rfl) H
theorem F54:CC.F.get 54=some Tryz.f54:=by kernel_rfl
theorem F54_eq {K:Ko}:Wp CC (bodyOf Tryz.f54) ⟨initTm Tryz.f54 [t0,t1],h,n,[]⟩ (retW CC Tryz.f54 K)=(
oK (lenV CC h 30 t0) fun v1=>
oK (lenV CC h 30 t1) fun v2=>
oK (binop CC .add 3 true v2 (.s (.int .i64 5))) fun v3=>
oK (binop CC .neq 3 false v1 v3) fun v4=>
oK (bif (rWant false v4) then some t0 else some undefV) fun v5=>
oK (bif (rWant false v4) then some t1 else some undefV) fun v6=>
oK (bif (rWant false v4) then lenV CC h 30 v6 else some undefV) fun v7=>
oK (bif (rWant false v4) then sliceOp CC 30 v5 none (some v7) none else some undefV) fun v8=>
oK (bif (rWant false v4) then some t1 else some undefV) fun v9=>
let k10:=fun (v11:V) (h12:Heap) (n13:Nat)=>(
oK (bif (rWant false v4) then rUn CC .not v11 else some undefV) fun v14=>
oK (rPick v4 (.s (.bool true)) v14) fun v15=>
oK (asBool v15) fun b16=>bif b16 then (
K (.s (.bool false)) h12 n13) else (
LoopK CC none (subC [1,1,0,1,0,0] (bodyOf Tryz.f54)) ⟨mkTm (t0::t1::undefV::undefV::(.s (.bool false))::(.s (.int .i64 0))::t0::v1::t1::v2::v3::v4::v4::v5::v6::v7::v8::v9::v11::v14::v15::un 14 []),h12,n13,[]⟩ (resume CC none [.blk 0,.sq (subC [1,1,1] (bodyOf Tryz.f54))] (retW CC Tryz.f54 K))));
bif (rWant false v4) then (CallK CC 15 [v8,v9] h n fun v17 h18 n19=>
k10 v17 h18 n19) else k10 undefV h n):=Wp.eq_of (by kernel_rfl)
theorem F54_call {K:Ko} (H:HCall CC Tryz.f54 [t0,t1] h n K):CallK CC 54 [t0,t1] h n K:=callK_by CCok F54 (by kernel_rfl) (by kernel_rfl) H
def F54_L110100 (t0 t1 t5:V) (h:Heap) (n:Nat) (s:St):Prop:=∃ f:Nat→V,s=⟨mkTm (t0::t1::tl f 2 3 (t5::tl f 6 29 [])),h,n,[]⟩
theorem F54_L110100_of {t0 t1 t5:V} {h:Heap} {n:Nat}:F54_L110100 t0 t1 t5 h n ⟨mkTm [t0,t1,t2,t3,t4,t5,t6,t7,t8,t9,t10,t11,t12,t13,t14,t15,t16,t17,t18,t19,t20,t21,t22,t23,t24,t25,t26,t27,t28,t29,t30,t31,t32,t33,t34],h,n,[]⟩:=
 ex_of (by kernel_rfl)
theorem F54_b110100 (f:Nat→V) (t0 t1 t5:V) (h:Heap) (n:Nat) (Q:X→St→Prop):Wp CC (subC [1,1,0,1,0,0] (bodyOf Tryz.f54)) ⟨mkTm (t0::t1::tl f 2 3 (t5::tl f 6 29 [])),h,n,[]⟩ Q=(
oK (binop CC .lss 3 true t5 (.s (.int .i64 5))) fun v20=>
oK (asBool v20) fun b21=>bif b21 then (
oK (lenV CC h 30 t1) fun v22=>
oK (binop CC .add 3 false v22 t5) fun v23=>
oK (indexAddr CC 30 t0 v23) fun v24=>
oK (normO (rLoad CC 5 h v24)) fun v25=>
CallK CC 110 [t5] h (n+10) fun v26 h27 n28=>
(normO (rLoad CC 5 h27 v24)=some v25∧lenV CC h27 30 t1=some v22∧True) ∧
oK (binop CC .neq 5 false v25 v26) fun v29=>
oK (asBool v29) fun b30=>bif b30 then (
Q .ret ⟨mkTm (t0::t1::(f 2)::(f 3)::(.s (.bool false))::t5::tl f 6 15 (t5::v20::(f 23)::(f 24)::t0::t1::v22::t5::v23::v24::v25::t5::v26::v29::[])),h27,n28,[]⟩) else (
oK (binop CC .add 3 true t5 (.s (.int .i64 1))) fun v31=>
Q .normal ⟨mkTm (t0::t1::tl f 2 3 (v31::tl f 6 15 (t5::v20::t5::v31::t0::t1::v22::t5::v23::v24::v25::t5::v26::v29::[]))),h27,n28,[]⟩)) else (
Q (.exit 0) ⟨mkTm (t0::t1::tl f 2 3 (t5::tl f 6 15 (t5::v20::tl f 23 12 []))),h,n,[]⟩)):=Wp.eq_of (by kernel_rfl)
theorem F54_r110100_0 (f:Nat→V) (t0 t1 t5:V) (h:Heap) (n:Nat) (K:V→Heap→Nat→Prop):resume CC none [.blk 0,.sq (subC [1,1,1] (bodyOf Tryz.f54))] (retW CC Tryz.f54 K) (.exit 0) ⟨mkTm (t0::t1::tl f 2 3 (t5::tl f 6 29 [])),h,n,[]⟩=(
K (.s (.bool true)) h n):=by kernel_rfl
theorem F55:CC.F.get 55=some Tryz.f55:=by kernel_rfl
theorem F55_eq {K:Ko}:Wp CC (bodyOf Tryz.f55) ⟨initTm Tryz.f55 [t0],h,n,[]⟩ (retW CC Tryz.f55 K)=(
LoopK CC none (subC [1,0,0] (bodyOf Tryz.f55)) ⟨mkTm (t0::undefV::(.s (.int .i64 0))::un 12 []),h,n,[]⟩ (resume CC none [.blk 0] (retW CC Tryz.f55 K))):=Wp.eq_of (by kernel_rfl)
theorem F55_call {K:Ko} (H:HCall CC Tryz.f55 [t0] h n K):CallK CC 55 [t0] h n K:=callK_by CCok F55 (by kernel_rfl) (by kernel_rfl) H
def F55_L100 (t0 t2:V) (h:Heap) (n:Nat) (s:St):Prop:=∃ f:Nat→V,s=⟨mkTm (t0::(f 1)::t2::tl f 3 12 []),h,n,[]⟩
theorem F55_L100_of {t0 t2:V} {h:Heap} {n:Nat}:F55_L100 t0 t2 h n ⟨mkTm [t0,t1,t2,t3,t4,t5,t6,t7,t8,t9,t10,t11,t12,t13,t14],h,n,[]⟩:=
 ex_of (by kernel_rfl)
theorem F55_b100 (f:Nat→V) (t0 t2:V) (h:Heap) (n:Nat) (Q:X→St→Prop):Wp CC (subC [1,0,0] (bodyOf Tryz.f55)) ⟨mkTm (t0::(f 1)::t2::tl f 3 12 []),h,n,[]⟩ Q=(
oK (lenV CC h 30 t0) fun v1=>
oK (binop CC .lss 3 false t2 v1) fun v2=>
oK (asBool v2) fun b3=>bif b3 then (
oK (binop CC .add 3 true t2 (.s (.int .i64 7))) fun v4=>
CallK CC 110 [v4] h n fun v5 h6 n7=>
oK (indexAddr CC 30 t0 t2) fun v8=>
oK (asPtr v8) fun p9=>oK (store CC h6 5 p9.1 p9.2 v5) fun h10=>
oK (binop CC .add 3 true t2 (.s (.int .i64 1))) fun v11=>
Q .normal ⟨mkTm [t0,(f 1),v11,t2,t0,v1,v2,t2,v11,t0,t2,t2,v4,v5,v8],h10,n7,[]⟩) else (
Q (.exit 0) ⟨mkTm (t0::(f 1)::t2::t2::t0::v1::v2::tl f 7 8 []),h,n,[]⟩)):=Wp.eq_of (by kernel_rfl)
theorem F55_r100_0 (f:Nat→V) (t0 t2:V) (h:Heap) (n:Nat) (K:V→Heap→Nat→Prop):resume CC none [.blk 0] (retW CC Tryz.f55 K) (.exit 0) ⟨mkTm (t0::(f 1)::t2::tl f 3 12 []),h,n,[]⟩=(
K (.tup []) h n):=by kernel_rfl
theorem F56:CC.F.get 56=some Tryz.f56:=by kernel_rfl
theorem F56_eq {K:Ko}:Wp CC (bodyOf Tryz.f56) ⟨initTm Tryz.f56 [t0,t1],h,n,[]⟩ (retW CC Tryz.f56 K)=(
oK (rNil t0) fun v1=>
oK (rFA CC 190 0 v1) fun v2=>
oK (normO (rLoad CC 188 h v2)) fun v3=>
oK (lookup CC h 188 v3 t1 true) fun v4=>
oK (rExt v4 0) fun v5=>
oK (rExt v4 1) fun v6=>
oK (rUn CC .not v6) fun v7=>
oK (asBool v7) fun b8=>bif b8 then (
K (.s (.slice none 0 0)) h n) else (
oK (rNil v5) fun v9=>
oK (rFA CC 200 0 v9) fun v10=>
oK (normO (rLoad CC 30 h v10)) fun v11=>
CallK CC 74 [v11] h n fun v12 h13 n14=>
K v12 h13 n14)):=Wp.eq_of (by kernel_rfl)
theorem F56_call {K:Ko} (H:HCall CC Tryz.f56 [t0,t1] h n K):CallK CC 56 [t0,t1] h n K:=callK_by CCok F56 (by kernel_rfl) (by kernel_rfl) H
theorem F57:CC.F.get 57=some Tryz.f57:=by kernel_rfl
theorem F57_eq {K:Ko}:Wp CC (bodyOf Tryz.f57) ⟨initTm Tryz.f57 [t0],h,n,[]⟩ (retW CC Tryz.f57 K)=(
oK (rNil t0) fun v1=>
oK (rFA CC 131 1 v1) fun v2=>
oK (normO (rLoad CC 20 h v2)) fun v3=>
oK (typeAssert CC v3 133 true) fun v4=>
oK (rExt v4 0) fun v5=>
oK (rExt v4 1) fun v6=>
oK (asBool v6) fun b7=>bif b7 then (
invokeW CC v5 "Keys" [] h n fun v8 h9 n10=>
CallK CC 111 [v8,(.func (.func 112) [] [])] h9 n10 fun v11 h12 n13=>
K v8 h12 n13) else (
oK (rNil t0) fun v14=>
oK (rFA CC 131 0 v14) fun v15=>
oK (rFA CC 29 3 v15) fun v16=>
oK (normO (rLoad CC 3 h v16)) fun v17=>
LoopK CC none (subC [1,1,1,0,1,0,0] (bodyOf Tryz.f57)) ⟨mkTm (t0::undefV::(.s (.slice none 0 0))::(.s (.slice none 0 0))::v5::v6::undefV::v4::t0::v1::v2::v3::v4::v5::v6::v6::un 5 (t0::v14::v15::v16::v17::(.s (.int .i64 0))::un 9 [])),h,n,[]⟩ (resume CC none [.blk 0,.sq (subC [1,1,1,1] (bodyOf Tryz.f57))] (retW CC Tryz.f57 K)))):=Wp.eq_of (by kernel_rfl)
theorem F57_call {K:Ko} (H:HCall CC Tryz.f57 [t0] h n K):CallK CC 57 [t0] h n K:=callK_by CCok F57 (by kernel_rfl) (by kernel_rfl) H
def F57_L1110100 (t3 t25 t26:V) (h:Heap) (n:Nat) (s:St):Prop:=∃ f:Nat→V,s=⟨mkTm (tl f 0 3 (t3::tl f 4 21 (t25::t26::tl f 27 9 []))),h,n,[]⟩
theorem F57_L1110100_of {t3 t25 t26:V} {h:Heap} {n:Nat}:F57_L1110100 t3 t25 t26 h n ⟨mkTm [t0,t1,t2,t3,t4,t5,t6,t7,t8,t9,t10,t11,t12,t13,t14,t15,t16,t17,t18,t19,t20,t21,t22,t23,t24,t25,t26,t27,t28,t29,t30,t31,t32,t33,t34,t35],h,n,[]⟩:=
 ex_of (by kernel_rfl)
theorem F57_b1110100 (f:Nat→V) (t3 t25 t26:V) (h:Heap) (n:Nat) (Q:X→St→Prop):Wp CC (subC [1,1,1,0,1,0,0] (bodyOf Tryz.f57)) ⟨mkTm (tl f 0 3 (t3::tl f 4 21 (t25::t26::tl f 27 9 []))),h,n,[]⟩ Q=(
oK (binop CC .lss 3 false t26 t25) fun v18=>
oK (asBool v18) fun b19=>bif b19 then (
CallK CC 58 [t26] h n fun v20 h21 n22=>
fillK 1 ((zr CC 30).rep 1) [(0,v20)] fun c23=>
let h24:=h21.set n22 (.cells (.lst c23) 1); let n25:=n22+1;
appendK CC h24 n25 128 128 t3 (.slice n22 0 1 1 false) fun v26 h27 n28=>
oK (binop CC .add 3 true t26 (.s (.int .i64 1))) fun v29=>
Q .normal ⟨mkTm (tl f 0 3 (v26::(f 4)::(f 5)::t26::tl f 7 18 (t25::v29::v18::t26::t3::t26::v20::(.slice n22 0 1 1 false)::v26::v29::(f 35)::[]))),h27,n28,[]⟩) else (
Q (.exit 0) ⟨mkTm (tl f 0 3 (t3::tl f 4 21 (t25::t26::v18::tl f 28 8 []))),h,n,[]⟩)):=Wp.eq_of (by kernel_rfl)
theorem F57_r1110100_0 (f:Nat→V) (t3 t25 t26:V) (h:Heap) (n:Nat) (K:V→Heap→Nat→Prop):resume CC none [.blk 0,.sq (subC [1,1,1,1] (bodyOf Tryz.f57))] (retW CC Tryz.f57 K) (.exit 0) ⟨mkTm (tl f 0 3 (t3::tl f 4 21 (t25::t26::tl f 27 9 []))),h,n,[]⟩=(
K t3 h n):=by kernel_rfl
theorem F58:CC.F.get 58=some Tryz.f58:=by kernel_rfl
theorem F58_eq {K:Ko}:Wp CC (bodyOf Tryz.f58) ⟨initTm Tryz.f58 [t0],h,n,[]⟩ (retW CC Tryz.f58 K)=(
oK (convert CC h 3 5 t0) fun v1=>
oK (binop CC .shr 3 true t0 (.s (.int .u64 8))) fun v2=>
oK (convert CC h 3 5 v2) fun v3=>
oK (binop CC .shr 3 true t0 (.s (.int .u64 16))) fun v4=>
oK (convert CC h 3 5 v4) fun v5=>
oK (binop CC .shr 3 true t0 (.s (.int .u64 24))) fun v6=>
oK (convert CC h 3 5 v6) fun v7=>
fillK 1 ((zr CC 5).rep 4) [(0,v1),(1,v3),(2,v5),(3,v7)] fun c8=>
let h9:=h.set n (.cells (.lst c8) 1); let n10:=n+1;
K (.slice n 0 4 4 false) h9 n10):=Wp.eq_of (by kernel_rfl)
theorem F58_call {K:Ko} (H:HCall CC Tryz.f58 [t0] h n K):CallK CC 58 [t0] h n K:=callK_by CCok F58 (by kernel_rfl) (by kernel_rfl) H
theorem F59:CC.F.get 59=some Tryz.f59:=by kernel_rfl
theorem F59_eq {K:Ko}:Wp CC (bodyOf Tryz.f59) ⟨initTm Tryz.f59 [t0],h,n,[]⟩ (retW CC Tryz.f59 K)=(
CallK CC 113 [t0] h n fun v1 h2 n3=>
oK (lenV CC h2 85 v1) fun v4=>
LoopK CC none (subC [1,1,0,1,0,0] (bodyOf Tryz.f59)) ⟨mkTm (t0::undefV::(.s (.int .i64 0))::v1::undefV::undefV::t0::v1::v1::v4::(.s (.int .i64 0))::un 11 []),h2,n3,[]⟩ (resume CC none [.blk 0,.sq (subC [1,1,1] (bodyOf Tryz.f59))] (retW CC Tryz.f59 K))):=Wp.eq_of (by kernel_rfl)
theorem F59_call {K:Ko} (H:HCall CC Tryz.f59 [t0] h n K):CallK CC 59 [t0] h n K:=callK_by CCok F59 (by kernel_rfl) (by kernel_rfl) H
def F59_L110100 (t0 t3 t8 t9 t10:V) (h:Heap) (n:Nat) (s:St):Prop:=∃ f:Nat→V,s=⟨mkTm (t0::(f 1)::(f 2)::t3::tl f 4 4 (t8::t9::t10::tl f 11 11 [])),h,n,[]⟩
theorem F59_L110100_of {t0 t3 t8 t9 t10:V} {h:Heap} {n:Nat}:F59_L110100 t0 t3 t8 t9 t10 h n ⟨mkTm [t0,t1,t2,t3,t4,t5,t6,t7,t8,t9,t10,t11,t12,t13,t14,t15,t16,t17,t18,t19,t20,t21],h,n,[]⟩:=
 ex_of (by kernel_rfl)
theorem F59_b110100 (f:Nat→V) (t0 t3 t8 t9 t10:V) (h:Heap) (n:Nat) (Q:X→St→Prop):Wp CC (subC [1,1,0,1,0,0] (bodyOf Tryz.f59)) ⟨mkTm (t0::(f 1)::(f 2)::t3::tl f 4 4 (t8::t9::t10::tl f 11 11 [])),h,n,[]⟩ Q=(
oK (binop CC .lss 3 false t10 t9) fun v5=>
oK (asBool v5) fun b6=>bif b6 then (
oK (indexAddr CC 85 t8 t10) fun v7=>
oK (normO (rLoad CC 3 h v7)) fun v8=>
oK (rNil t0) fun v9=>
oK (rFA CC 190 0 v9) fun v10=>
oK (normO (rLoad CC 188 h v10)) fun v11=>
oK (mapDelete CC h 188 v11 v8) fun h12=>
oK (binop CC .add 3 true t10 (.s (.int .i64 1))) fun v13=>
Q .normal ⟨mkTm [t0,(f 1),(f 2),t3,(f 4),v8,(f 6),(f 7),t8,t9,v13,v5,v7,v8,t0,v9,v10,v11,v8,v13,(f 20),(f 21)],h12,n,[]⟩) else (
Q (.exit 0) ⟨mkTm (t0::(f 1)::(f 2)::t3::tl f 4 4 (t8::t9::t10::v5::tl f 12 10 [])),h,n,[]⟩)):=Wp.eq_of (by kernel_rfl)
theorem F59_r110100_0 (f:Nat→V) (t0 t3 t8 t9 t10:V) (h:Heap) (n:Nat) (K:V→Heap→Nat→Prop):resume CC none [.blk 0,.sq (subC [1,1,1] (bodyOf Tryz.f59))] (retW CC Tryz.f59 K) (.exit 0) ⟨mkTm (t0::(f 1)::(f 2)::t3::tl f 4 4 (t8::t9::t10::tl f 11 11 [])),h,n,[]⟩=(
oK (lenV CC h 85 t3) fun v14=>
K v14 h n):=by kernel_rfl
theorem F60:CC.F.get 60=some Tryz.f60:=by kernel_rfl
theorem F60_eq {K:Ko}:Wp CC (bodyOf Tryz.f60) ⟨initTm Tryz.f60 [t0,t1],h,n,[]⟩ (retW CC Tryz.f60 K)=(
oK (rNil t0) fun v1=>
oK (rFA CC 190 0 v1) fun v2=>
oK (normO (rLoad CC 188 h v2)) fun v3=>
oK (lookup CC h 188 v3 t1 true) fun v4=>
oK (rExt v4 0) fun v5=>
oK (rExt v4 1) fun v6=>
oK (rUn CC .not v6) fun v7=>
oK (bif (rWant false v7) then some v5 else some undefV) fun v8=>
oK (bif (rWant false v7) then rNil v8 else some undefV) fun v9=>
oK (bif (rWant false v7) then rFA CC 200 3 v9 else some undefV) fun v10=>
oK (bif (rWant false v7) then normO (rLoad CC 4 h v10) else some undefV) fun v11=>
oK (rPick v7 (.s (.bool true)) v11) fun v12=>
oK (asBool v12) fun b13=>bif b13 then (
K (.s (.bool false)) h n) else (
oK (rNil v5) fun v14=>
oK (rFA CC 200 3 v14) fun v15=>
oK (asPtr v15) fun p16=>oK (store CC h 4 p16.1 p16.2 (.s (.bool true))) fun h17=>
K (.s (.bool true)) h17 n)):=Wp.eq_of (by kernel_rfl)
theorem F60_call {K:Ko} (H:HCall CC Tryz.f60 [t0,t1] h n K):CallK CC 60 [t0,t1] h n K:=callK_by CCok F60 (by kernel_rfl) (by kernel_rfl) H
theorem F61:CC.F.get 61=some Tryz.f61:=by kernel_rfl
theorem F61_eq {K:Ko}:Wp CC (bodyOf Tryz.f61) ⟨initTm Tryz.f61 [t0,t1,t2],h,n,[]⟩ (retW CC Tryz.f61 K)=(
CallK CC 114 [t2] h n fun v1 h2 n3=>
oK (normO (build CC 115 [(0,(.s (.int .i64 1))),(1,t1),(4,v1)])) fun v4=>
CallK CC 63 [t0,v4] h2 n3 fun v5 h6 n7=>
K (.tup []) h6 n7):=Wp.eq_of (by kernel_rfl)
theorem F61_call {K:Ko} (H:HCall CC Tryz.f61 [t0,t1,t2] h n K):CallK CC 61 [t0,t1,t2] h n K:=callK_by CCok F61 (by kernel_rfl) (by kernel_rfl) H
theorem F62:CC.F.get 62=some Tryz.f62:=by kernel_rfl
theorem F62_eq {K:Ko}:Wp CC (bodyOf Tryz.f62) ⟨initTm Tryz.f62 [t0,t1,t2,t3,t4,t5],h,n,[]⟩ (retW CC Tryz.f62 K)=(
CallK CC 115 [t0,t1,t2,t3] h n fun v1 h2 n3=>
oK (rExt v1 0) fun v4=>
oK (rExt v1 1) fun v5=>
oK (rExt v1 2) fun v6=>
oK (rUn CC .not v6) fun v7=>
oK (asBool v7) fun b8=>bif b8 then (
K (.s (.bool false)) h2 n3) else (
oK (lenV CC h2 30 v5) fun v9=>
LoopK CC none (subC [1,1,1,0,1,0,0] (bodyOf Tryz.f62)) ⟨mkTm (t0::t1::t2::t3::t4::t5::un 6 ((.s (.bool false))::v4::v5::v6::undefV::v1::t0::t1::t2::t3::v1::v4::v5::v6::v6::v7::v5::v9::(.s (.int .i64 0))::un 14 [])),h2,n3,[]⟩ (resume CC none [.blk 0,.sq (subC [1,1,1,1] (bodyOf Tryz.f62))] (retW CC Tryz.f62 K)))):=Wp.eq_of (by kernel_rfl)
theorem F62_call {K:Ko} (H:HCall CC Tryz.f62 [t0,t1,t2,t3,t4,t5] h n K):CallK CC 62 [t0,t1,t2,t3,t4,t5] h n K:=callK_by CCok F62 (by kernel_rfl) (by kernel_rfl) H
def F62_L1110100 (t4 t5 t13 t14 t29 t30:V) (h:Heap) (n:Nat) (s:St):Prop:=∃ f:Nat→V,s=⟨mkTm (tl f 0 4 (t4::t5::tl f 6 7 (t13::t14::tl f 15 14 (t29::t30::tl f 31 14 [])))),h,n,[]⟩
theorem F62_L1110100_of {t4 t5 t13 t14 t29 t30:V} {h:Heap} {n:Nat}:F62_L1110100 t4 t5 t13 t14 t29 t30 h n ⟨mkTm [t0,t1,t2,t3,t4,t5,t6,t7,t8,t9,t10,t11,t12,t13,t14,t15,t16,t17,t18,t19,t20,t21,t22,t23,t24,t25,t26,t27,t28,t29,t30,t31,t32,t33,t34,t35,t36,t37,t38,t39,t40,t41,t42,t43,t44],h,n,[]⟩:=
 ex_of (by kernel_rfl)
theorem F62_b1110100 (f:Nat→V) (t4 t5 t13 t14 t29 t30:V) (h:Heap) (n:Nat) (Q:X→St→Prop):Wp CC (subC [1,1,1,0,1,0,0] (bodyOf Tryz.f62)) ⟨mkTm (tl f 0 4 (t4::t5::tl f 6 7 (t13::t14::tl f 15 14 (t29::t30::tl f 31 14 [])))),h,n,[]⟩ Q=(
oK (binop CC .lss 3 false t30 t29) fun v10=>
oK (asBool v10) fun b11=>bif b11 then (
oK (binop CC .mul 3 true (.s (.int .i64 8)) t30) fun v12=>
oK (binop CC .shr 27 false t4 v12) fun v13=>
oK (convert CC h 27 5 v13) fun v14=>
oK (indexAddr CC 30 t14 t30) fun v15=>
oK (asPtr v15) fun p16=>oK (store CC h 5 p16.1 p16.2 v14) fun h17=>
oK (binop CC .add 3 true t30 (.s (.int .i64 1))) fun v18=>
Q .normal ⟨mkTm (tl f 0 4 (t4::t5::tl f 6 7 (t13::t14::(f 15)::t30::tl f 17 12 (t29::v18::v10::t30::t14::t30::t4::t30::v12::v13::v14::v15::v18::tl f 42 3 [])))),h17,n,[]⟩) else (
Q (.exit 0) ⟨mkTm (tl f 0 4 (t4::t5::tl f 6 7 (t13::t14::tl f 15 14 (t29::t30::v10::tl f 32 13 [])))),h,n,[]⟩)):=Wp.eq_of (by kernel_rfl)
theorem F62_r1110100_0 (f:Nat→V) (t4 t5 t13 t14 t29 t30:V) (h:Heap) (n:Nat) (K:V→Heap→Nat→Prop):resume CC none [.blk 0,.sq (subC [1,1,1,1] (bodyOf Tryz.f62))] (retW CC Tryz.f62 K) (.exit 0) ⟨mkTm (tl f 0 4 (t4::t5::tl f 6 7 (t13::t14::tl f 15 14 (t29::t30::tl f 31 14 [])))),h,n,[]⟩=(
CallK CC 116 [t13,t5] h n fun v19 h20 n21=>
K (.s (.bool true)) h20 n21):=by kernel_rfl
theorem F63:CC.F.get 63=some Tryz.f63:=by kernel_rfl
theorem F63_eq {K:Ko}:Wp CC (bodyOf Tryz.f63) ⟨initTm Tryz.f63 [t0,t1],h,n,[]⟩ (retW CC Tryz.f63 K)=(
oK (V.cells t1) fun c1=>
let h2:=h.set n (.cells (.lst c1.toList) 5); let n3:=n+1;
oK (rNil t0) fun v4=>
oK (rFA CC 120 3 v4) fun v5=>
oK (normO (rLoad CC 109 h2 v5)) fun v6=>
oK (normO (rLoad CC 115 h2 (.ptr n 0))) fun v7=>
oK (fillA 5 ((zr CC 115).rep 1) [(0,v7)]) fun c8=>
appendK CC (h2.set (n3+6) (.cells c8 5)) (n3+11) 109 109 v6 (.slice (n3+6) 0 1 1 false) fun v9 h10 n11=>
(True∧True∧True) ∧
oK (rNil t0) fun v12=>
oK (rFA CC 120 3 v12) fun v13=>
oK (asPtr v13) fun p14=>oK (store CC h10 109 p14.1 p14.2 v9) fun h15=>
(True∧True∧True) ∧
K (.tup []) h15 n11):=Wp.eq_of (by kernel_rfl)
theorem F63_call {K:Ko} (H:HCall CC Tryz.f63 [t0,t1] h n K):CallK CC 63 [t0,t1] h n K:=callK_by CCok F63 (by kernel_rfl) (by kernel_rfl) H
theorem F64:CC.F.get 64=some Tryz.f64:=by kernel_rfl
theorem F64_eq {K:Ko}:Wp CC (bodyOf Tryz.f64) ⟨initTm Tryz.f64 [t0,t1,t2,t3],h,n,[]⟩ (retW CC Tryz.f64 K)=(
CallK CC 115 [t0,t1,t2,t3] h n fun v1 h2 n3=>
oK (rExt v1 0) fun v4=>
oK (rExt v1 1) fun v5=>
oK (rExt v1 2) fun v6=>
oK (lenV CC h2 30 v5) fun v7=>
LoopK CC none (subC [1,1,1,0,1,0,0] (bodyOf Tryz.f64)) ⟨mkTm (t0::t1::t2::t3::un 4 ((.s (.int .u64 0))::(.s (.bool false))::v4::v5::v6::(.s (.int .u64 0))::undefV::undefV::v1::t0::t1::t2::t3::v1::v4::v5::v6::v5::v7::(.s (.int .i64 0))::un 14 [])),h2,n3,[]⟩ (resume CC none [.blk 0,.sq (subC [1,1,1,1] (bodyOf Tryz.f64))] (retW CC Tryz.f64 K))):=Wp.eq_of (by kernel_rfl)
theorem F64_call {K:Ko} (H:HCall CC Tryz.f64 [t0,t1,t2,t3] h n K):CallK CC 64 [t0,t1,t2,t3] h n K:=callK_by CCok F64 (by kernel_rfl) (by kernel_rfl) H
def F64_L1110100 (t12 t13 t25 t26 t27:V) (h:Heap) (n:Nat) (s:St):Prop:=∃ f:Nat→V,s=⟨mkTm (tl f 0 12 (t12::t13::tl f 14 11 (t25::t26::t27::tl f 28 14 []))),h,n,[]⟩
theorem F64_L1110100_of {t12 t13 t25 t26 t27:V} {h:Heap} {n:Nat}:F64_L1110100 t12 t13 t25 t26 t27 h n ⟨mkTm [t0,t1,t2,t3,t4,t5,t6,t7,t8,t9,t10,t11,t12,t13,t14,t15,t16,t17,t18,t19,t20,t21,t22,t23,t24,t25,t26,t27,t28,t29,t30,t31,t32,t33,t34,t35,t36,t37,t38,t39,t40,t41],h,n,[]⟩:=
 ex_of (by kernel_rfl)
theorem F64_b1110100 (f:Nat→V) (t12 t13 t25 t26 t27:V) (h:Heap) (n:Nat) (Q:X→St→Prop):Wp CC (subC [1,1,1,0,1,0,0] (bodyOf Tryz.f64)) ⟨mkTm (tl f 0 12 (t12::t13::tl f 14 11 (t25::t26::t27::tl f 28 14 []))),h,n,[]⟩ Q=(
oK (binop CC .lss 3 false t27 t26) fun v8=>
oK (asBool v8) fun b9=>bif b9 then (
oK (indexAddr CC 30 t25 t27) fun v10=>
oK (normO (rLoad CC 5 h v10)) fun v11=>
oK (convert CC h 5 27 v11) fun v12=>
oK (binop CC .mul 3 true (.s (.int .i64 8)) t27) fun v13=>
oK (binop CC .shl 27 false v12 v13) fun v14=>
oK (binop CC .or 27 false t13 v14) fun v15=>
oK (binop CC .add 3 true t27 (.s (.int .i64 1))) fun v16=>
Q .normal ⟨mkTm (tl f 0 12 (t12::v15::t27::v11::tl f 16 9 (t25::t26::v16::v8::t27::v10::v11::t13::v11::v12::t27::v13::v14::v15::v16::(f 40)::(f 41)::[]))),h,n,[]⟩) else (
Q (.exit 0) ⟨mkTm (tl f 0 12 (t12::t13::tl f 14 11 (t25::t26::t27::v8::tl f 29 13 []))),h,n,[]⟩)):=Wp.eq_of (by kernel_rfl)
theorem F64_r1110100_0 (f:Nat→V) (t12 t13 t25 t26 t27:V) (h:Heap) (n:Nat) (K:V→Heap→Nat→Prop):resume CC none [.blk 0,.sq (subC [1,1,1,1] (bodyOf Tryz.f64))] (retW CC Tryz.f64 K) (.exit 0) ⟨mkTm (tl f 0 12 (t12::t13::tl f 14 11 (t25::t26::t27::tl f 28 14 []))),h,n,[]⟩=(
K (.tup [t13,t12]) h n):=by kernel_rfl
theorem F65:CC.F.get 65=some Tryz.f65:=by kernel_rfl
theorem F65_eq {K:Ko}:Wp CC (bodyOf Tryz.f65) ⟨initTm Tryz.f65 [t0,t1],h,n,[]⟩ (retW CC Tryz.f65 K)=(
CallK CC 56 [t0,t1] h n fun v1 h2 n3=>
oK (lenV CC h2 30 v1) fun v4=>
K v4 h2 n3):=Wp.eq_of (by kernel_rfl)
theorem F65_call {K:Ko} (H:HCall CC Tryz.f65 [t0,t1] h n K):CallK CC 65 [t0,t1] h n K:=callK_by CCok F65 (by kernel_rfl) (by kernel_rfl) H
theorem F74:CC.F.get 74=some Tryz.f74:=by kernel_rfl
theorem F74_eq {K:Ko}:Wp CC (bodyOf Tryz.f74) ⟨initTm Tryz.f74 [t0],h,n,[]⟩ (retW CC Tryz.f74 K)=(
oK (binop CC .eql 30 true t0 (.s (.slice none 0 0))) fun v1=>
oK (asBool v1) fun b2=>bif b2 then (
K (.s (.slice none 0 0)) h n) else (
fillK 1 ((zr CC 5).rep 0) [] fun c3=>
let h4:=h.set n (.cells (.lst c3) 1); let n5:=n+1;
appendK CC h4 n5 30 30 (.slice n 0 0 0 false) t0 fun v6 h7 n8=>
K v6 h7 n8)):=Wp.eq_of (by kernel_rfl)
theorem F74_call {K:Ko} (H:HCall CC Tryz.f74 [t0] h n K):CallK CC 74 [t0] h n K:=callK_by CCok F74 (by kernel_rfl) (by kernel_rfl) H
theorem F98:CC.F.get 98=some Tryz.f98:=by kernel_rfl
theorem F98_eq {K:Ko}:Wp CC (bodyOf Tryz.f98) ⟨initTm Tryz.f98 [t0,t1,t2],h,n,[]⟩ (retW CC Tryz.f98 K)=(
oK (binop CC .geq 3 false t0 t1) fun v1=>
oK (bif (rWant true v1) then some t0 else some undefV) fun v2=>
oK (bif (rWant true v1) then some t2 else some undefV) fun v3=>
oK (bif (rWant true v1) then binop CC .leq 3 false v2 v3 else some undefV) fun v4=>
oK (rPick v1 v4 (.s (.bool false))) fun v5=>
K v5 h n):=Wp.eq_of (by kernel_rfl)
theorem F98_call {K:Ko} (H:HCall CC Tryz.f98 [t0,t1,t2] h n K):CallK CC 98 [t0,t1,t2] h n K:=callK_by CCok F98 (by kernel_rfl) (by kernel_rfl) H
theorem F99:CC.F.get 99=some Tryz.f99:=by kernel_rfl
theorem F99_eq {K:Ko}:Wp CC (bodyOf Tryz.f99) ⟨initTm Tryz.f99 [t0],h,n,[]⟩ (retW CC Tryz.f99 K)=(
oK (V.cells t0) fun c1=>
let h2:=h.set n (.cells (.lst c1.toList) 4); let n3:=n+1;
oK (rFA CC 29 0 (.ptr n 0)) fun v4=>
oK (normO (rLoad CC 3 h2 v4)) fun v5=>
oK (binop CC .eql 3 true v5 (.s (.int .i64 1))) fun v6=>
oK (bif (rWant false v6) then rFA CC 29 0 (.ptr n 0) else some undefV) fun v7=>
oK (bif (rWant false v6) then normO (rLoad CC 3 h2 v7) else some undefV) fun v8=>
oK (bif (rWant false v6) then binop CC .eql 3 true v8 (.s (.int .i64 4)) else some undefV) fun v9=>
oK (rPick v6 (.s (.bool true)) v9) fun v10=>
oK (rFA CC 29 1 (.ptr n 0)) fun v11=>
oK (normO (rLoad CC 3 h2 v11)) fun v12=>
CallK CC 98 [v12,(.s (.int .i64 1)),(.s (.int .i64 16))] h2 n3 fun v13 h14 n15=>
oK (rUn CC .not v13) fun v16=>
oK (bif (rWant false v16) then rFA CC 29 2 (.ptr n 0) else some undefV) fun v17=>
oK (bif (rWant false v16) then normO (rLoad CC 3 h14 v17) else some undefV) fun v18=>
let k19:=fun (v20:V) (h21:Heap) (n22:Nat)=>(
oK (bif (rWant false v16) then rUn CC .not v20 else some undefV) fun v23=>
oK (rPick v16 (.s (.bool true)) v23) fun v24=>
oK (bif (rWant false v24) then rFA CC 29 3 (.ptr n 0) else some undefV) fun v25=>
oK (bif (rWant false v24) then normO (rLoad CC 3 h21 v25) else some undefV) fun v26=>
let k27:=fun (v28:V) (h29:Heap) (n30:Nat)=>(
oK (bif (rWant false v24) then rUn CC .not v28 else some undefV) fun v31=>
oK (rPick v24 (.s (.bool true)) v31) fun v32=>
oK (asBool v32) fun b33=>bif b33 then (
K (.s (.bool false)) h29 n30) else (
oK (bif (rWant true v10) then rFA CC 29 1 (.ptr n 0) else some undefV) fun v34=>
oK (bif (rWant true v10) then normO (rLoad CC 3 h29 v34) else some undefV) fun v35=>
oK (bif (rWant true v10) then binop CC .neq 3 true v35 (.s (.int .i64 4)) else some undefV) fun v36=>
oK (rPick v10 v36 (.s (.bool false))) fun v37=>
oK (asBool v37) fun b38=>bif b38 then (
K (.s (.bool false)) h29 n30) else (
oK (rFA CC 29 0 (.ptr n 0)) fun v39=>
oK (normO (rLoad CC 3 h29 v39)) fun v40=>
oK (binop CC .neq 3 true v40 (.s (.int .i64 4))) fun v41=>
oK (bif (rWant false v41) then rFA CC 29 2 (.ptr n 0) else some undefV) fun v42=>
oK (bif (rWant false v41) then normO (rLoad CC 3 h29 v42) else some undefV) fun v43=>
oK (bif (rWant false v41) then binop CC .eql 3 true v43 (.s (.int .i64 4)) else some undefV) fun v44=>
oK (rPick v41 (.s (.bool true)) v44) fun v45=>
K v45 h29 n30)));
bif (rWant false v24) then (CallK CC 98 [v26,(.s (.int .i64 1)),(.s (.int .i64 64))] h21 n22 fun v46 h47 n48=>
k27 v46 h47 n48) else k27 undefV h21 n22);
bif (rWant false v16) then (CallK CC 98 [v18,(.s (.int .i64 1)),(.s (.int .i64 64))] h14 n15 fun v49 h50 n51=>
k19 v49 h50 n51) else k19 undefV h14 n15):=Wp.eq_of (by kernel_rfl)
theorem F99_call {K:Ko} (H:HCall CC Tryz.f99 [t0] h n K):CallK CC 99 [t0] h n K:=callK_by CCok F99 (by kernel_rfl) (by kernel_rfl) H
theorem F100:CC.F.get 100=some Tryz.f100:=by kernel_rfl
theorem F100_eq {K:Ko}:Wp CC (bodyOf Tryz.f100) ⟨initTm Tryz.f100 [t0,t1,t2],h,n,[]⟩ (retW CC Tryz.f100 K)=(
oK (rMin CC #[3,3] 3 [t1,(.s (.int .i64 64))]) fun v1=>
oK (rMax CC #[3,3] 3 [(.s (.int .i64 1)),v1]) fun v2=>
oK (asNat v2) fun l3=>oK (asNat v2) fun c4=>
bif Nat.ble l3 c4 && (Nat.ble (8*c4) 281474976710656 && (Nat.blt c4 9223372036854775808 && true)) then (
let h5:=h.set n (.cells (.lst ((zr CC 3).rep c4).toList) 1); let n6:=n+1;
oK (normO (build CC 245 [(0,(.slice n 0 l3 c4 false))])) fun v7=>
oK (V.cells v7) fun c8=>
let h9:=h5.set n6 (.cells (.lst c8.toList) 1); let n10:=n6+1;
oK (rMin CC #[3,3] 3 [t2,(.s (.int .i64 64))]) fun v11=>
oK (rMax CC #[3,3] 3 [(.s (.int .i64 1)),v11]) fun v12=>
oK (asNat v12) fun l13=>oK (asNat v12) fun c14=>
bif Nat.ble l13 c14 && (Nat.ble (1*c14) 281474976710656 && (Nat.blt c14 9223372036854775808 && true)) then (
let h15:=h9.set n10 (.cells (.lst ((zr CC 5).rep c14).toList) 1); let n16:=n10+1;
oK (rNil (.ptr n6 0)) fun v17=>
oK (rFA CC 245 0 v17) fun v18=>
oK (normO (rLoad CC 85 h15 v18)) fun v19=>
oK (lenV CC h15 85 v19) fun v20=>
LoopK CC none (subC [1,1,1,0,1,0,0] (bodyOf Tryz.f100)) ⟨mkTm (t0::t1::t2::undefV::undefV::undefV::(.s (.pointer none))::(.ptr n6 0)::(.slice n10 0 l13 c14 false)::undefV::t1::v1::v2::(.slice n 0 l3 c4 false)::v7::(.ptr n6 0)::t2::v11::v12::(.slice n10 0 l13 c14 false)::(.ptr n6 0)::v17::v18::v19::v20::(.s (.int .i64 0))::un 13 []),h15,n16,[]⟩ (resume CC none [.blk 0,.sq (subC [1,1,1,1] (bodyOf Tryz.f100))] (retW CC Tryz.f100 K))) else False) else False):=Wp.eq_of (by kernel_rfl)
theorem F100_call {K:Ko} (H:HCall CC Tryz.f100 [t0,t1,t2] h n K):CallK CC 100 [t0,t1,t2] h n K:=callK_by CCok F100 (by kernel_rfl) (by kernel_rfl) H
def F100_L1110100 (t0 t7 t8 t24 t25:V) (h:Heap) (n:Nat) (s:St):Prop:=∃ f:Nat→V,s=⟨mkTm (t0::tl f 1 6 (t7::t8::tl f 9 15 (t24::t25::tl f 26 13 []))),h,n,[]⟩
theorem F100_L1110100_of {t0 t7 t8 t24 t25:V} {h:Heap} {n:Nat}:F100_L1110100 t0 t7 t8 t24 t25 h n ⟨mkTm [t0,t1,t2,t3,t4,t5,t6,t7,t8,t9,t10,t11,t12,t13,t14,t15,t16,t17,t18,t19,t20,t21,t22,t23,t24,t25,t26,t27,t28,t29,t30,t31,t32,t33,t34,t35,t36,t37,t38],h,n,[]⟩:=
 ex_of (by kernel_rfl)
theorem F100_b1110100 (f:Nat→V) (t0 t7 t8 t24 t25:V) (h:Heap) (n:Nat) (Q:X→St→Prop):Wp CC (subC [1,1,1,0,1,0,0] (bodyOf Tryz.f100)) ⟨mkTm (t0::tl f 1 6 (t7::t8::tl f 9 15 (t24::t25::tl f 26 13 []))),h,n,[]⟩ Q=(
oK (binop CC .lss 3 false t25 t24) fun v21=>
oK (asBool v21) fun b22=>bif b22 then (
oK (rNil t7) fun v23=>
oK (rFA CC 245 0 v23) fun v24=>
oK (normO (rLoad CC 85 h v24)) fun v25=>
CallK CC 154 [t0,t8] h (n+10) fun v26 h27 n28=>
(normO (rLoad CC 85 h27 v24)=some v25∧True) ∧
oK (indexAddr CC 85 v25 t25) fun v29=>
oK (asPtr v29) fun p30=>oK (store CC h27 3 p30.1 p30.2 v26) fun h31=>
(True∧True) ∧
oK (binop CC .add 3 true t25 (.s (.int .i64 1))) fun v32=>
Q .normal ⟨mkTm (t0::tl f 1 6 (t7::t8::t25::tl f 10 14 (t24::v32::v21::t25::t7::v23::v24::v25::t25::t0::t8::v26::v29::v32::(f 38)::[]))),h31,n28,[]⟩) else (
Q (.exit 0) ⟨mkTm (t0::tl f 1 6 (t7::t8::tl f 9 15 (t24::t25::v21::tl f 27 12 []))),h,n,[]⟩)):=Wp.eq_of (by kernel_rfl)
theorem F100_r1110100_0 (f:Nat→V) (t0 t7 t8 t24 t25:V) (h:Heap) (n:Nat) (K:V→Heap→Nat→Prop):resume CC none [.blk 0,.sq (subC [1,1,1,1] (bodyOf Tryz.f100))] (retW CC Tryz.f100 K) (.exit 0) ⟨mkTm (t0::tl f 1 6 (t7::t8::tl f 9 15 (t24::t25::tl f 26 13 []))),h,n,[]⟩=(
K t7 h n):=by kernel_rfl
theorem F101:CC.F.get 101=some Tryz.f101:=by kernel_rfl
theorem F101_eq {K:Ko}:Wp CC (bodyOf Tryz.f101) ⟨initTm Tryz.f101 [t0,t1],h,n,[]⟩ (retW CC Tryz.f101 K)=(
CallK CC 155 [t0,(.s (.int .i64 16))] h n fun v1 h2 n3=>
CallK CC 155 [t1,(.s (.int .i64 64))] h2 n3 fun v4 h5 n6=>
oK (normO (build CC 247 [(0,v1),(1,v4)])) fun v7=>
oK (V.cells v7) fun c8=>
let h9:=h5.set n6 (.cells (.lst c8.toList) 6); let n10:=n6+1;
LoopK CC none (subC [1,1,1,0,0,0] (bodyOf Tryz.f101)) ⟨mkTm (t0::t1::undefV::undefV::(.s (.pointer none))::(.ptr n6 0)::(.s (.int .i64 1))::t0::v1::t1::v4::v7::(.ptr n6 0)::un 30 []),h9,n10,[]⟩ (resume CC none [.blk 0,.sq (subC [1,1,1,1] (bodyOf Tryz.f101))] (retW CC Tryz.f101 K))):=Wp.eq_of (by kernel_rfl)
theorem F101_call {K:Ko} (H:HCall CC Tryz.f101 [t0,t1] h n K):CallK CC 101 [t0,t1] h n K:=callK_by CCok F101 (by kernel_rfl) (by kernel_rfl) H
def F101_L111000 (t5 t6:V) (h:Heap) (n:Nat) (s:St):Prop:=∃ f:Nat→V,s=⟨mkTm (tl f 0 5 (t5::t6::tl f 7 36 [])),h,n,[]⟩
theorem F101_L111000_of {t5 t6:V} {h:Heap} {n:Nat}:F101_L111000 t5 t6 h n ⟨mkTm [t0,t1,t2,t3,t4,t5,t6,t7,t8,t9,t10,t11,t12,t13,t14,t15,t16,t17,t18,t19,t20,t21,t22,t23,t24,t25,t26,t27,t28,t29,t30,t31,t32,t33,t34,t35,t36,t37,t38,t39,t40,t41,t42],h,n,[]⟩:=
 ex_of (by kernel_rfl)
theorem F101_b111000 (f:Nat→V) (t5 t6:V) (h:Heap) (n:Nat) (Q:X→St→Prop):Wp CC (subC [1,1,1,0,0,0] (bodyOf Tryz.f101)) ⟨mkTm (tl f 0 5 (t5::t6::tl f 7 36 [])),h,n,[]⟩ Q=(
oK (rNil t5) fun v11=>
oK (rFA CC 247 1 v11) fun v12=>
oK (normO (rLoad CC 3 h v12)) fun v13=>
oK (binop CC .mul 3 true (.s (.int .i64 2)) v13) fun v14=>
oK (binop CC .lss 3 false t6 v14) fun v15=>
oK (asBool v15) fun b16=>bif b16 then (
oK (binop CC .mul 3 true t6 (.s (.int .i64 2))) fun v17=>
Q .normal ⟨mkTm (tl f 0 5 (t5::v17::tl f 7 6 (t6::t5::v11::v12::v13::v14::v15::t6::v17::tl f 22 21 []))),h,n,[]⟩) else (
Q (.exit 0) ⟨mkTm (tl f 0 5 (t5::t6::tl f 7 6 (t6::t5::v11::v12::v13::v14::v15::tl f 20 23 []))),h,n,[]⟩)):=Wp.eq_of (by kernel_rfl)
theorem F101_r111000_0 (f:Nat→V) (t5 t6:V) (h:Heap) (n:Nat) (K:V→Heap→Nat→Prop):resume CC none [.blk 0,.sq (subC [1,1,1,1] (bodyOf Tryz.f101))] (retW CC Tryz.f101 K) (.exit 0) ⟨mkTm (tl f 0 5 (t5::t6::tl f 7 36 [])),h,n,[]⟩=(
oK (rNil t5) fun v18=>
oK (rFA CC 247 0 v18) fun v19=>
oK (normO (rLoad CC 3 h v19)) fun v20=>
oK (binop CC .mul 3 false t6 v20) fun v21=>
oK (asNat v21) fun l22=>oK (asNat v21) fun c23=>
bif Nat.ble l22 c23 && (Nat.ble (1*c23) 281474976710656 && (Nat.blt c23 9223372036854775808 && true)) then (
let h24:=h.set n (.cells (.lst ((zr CC 5).rep c23).toList) 1); let n25:=n+1;
oK (rNil t5) fun v26=>
oK (rFA CC 247 3 v26) fun v27=>
oK (asPtr v27) fun p28=>oK (store CC h24 30 p28.1 p28.2 (.slice n 0 l22 c23 false)) fun h29=>
oK (asNat t6) fun l30=>oK (asNat t6) fun c31=>
bif Nat.ble l30 c31 && (Nat.ble (1*c31) 281474976710656 && (Nat.blt c31 9223372036854775808 && true)) then (
let h32:=h29.set n25 (.cells (.lst ((zr CC 5).rep c31).toList) 1); let n33:=n25+1;
oK (rNil t5) fun v34=>
oK (rFA CC 247 4 v34) fun v35=>
oK (asPtr v35) fun p36=>oK (store CC h32 30 p36.1 p36.2 (.slice n25 0 l30 c31 false)) fun h37=>
oK (asNat t6) fun l38=>oK (asNat t6) fun c39=>
bif Nat.ble l38 c39 && (Nat.ble (8*c39) 281474976710656 && (Nat.blt c39 9223372036854775808 && true)) then (
let h40:=h37.set n33 (.cells (.lst ((zr CC 3).rep c39).toList) 1); let n41:=n33+1;
oK (rNil t5) fun v42=>
oK (rFA CC 247 5 v42) fun v43=>
oK (asPtr v43) fun p44=>oK (store CC h40 85 p44.1 p44.2 (.slice n33 0 l38 c39 false)) fun h45=>
K t5 h45 n41) else False) else False) else False):=by kernel_rfl
theorem F102:CC.F.get 102=some Tryz.f102:=by kernel_rfl
theorem F102_eq {K:Ko}:Wp CC (bodyOf Tryz.f102) ⟨initTm Tryz.f102 [t0,t1],h,n,[]⟩ (retW CC Tryz.f102 K)=(
oK (rMin CC #[3,3] 3 [t0,(.s (.int .i64 16))]) fun v1=>
oK (rMax CC #[3,3] 3 [(.s (.int .i64 1)),v1]) fun v2=>
oK (rMin CC #[3,3] 3 [t1,(.s (.int .i64 64))]) fun v3=>
oK (rMax CC #[3,3] 3 [(.s (.int .i64 1)),v3]) fun v4=>
oK (normO (build CC 250 [(0,v2),(1,v4)])) fun v5=>
oK (V.cells v5) fun c6=>
let h7:=h.set n (.cells (.lst c6.toList) 3); let n8:=n+1;
K (.ptr n 0) h7 n8):=Wp.eq_of (by kernel_rfl)
theorem F102_call {K:Ko} (H:HCall CC Tryz.f102 [t0,t1] h n K):CallK CC 102 [t0,t1] h n K:=callK_by CCok F102 (by kernel_rfl) (by kernel_rfl) H
theorem F103:CC.F.get 103=some Tryz.f103:=by kernel_rfl
theorem F103_eq {K:Ko}:Wp CC (bodyOf Tryz.f103) ⟨initTm Tryz.f103 [t0,t1,t2,t3],h,n,[]⟩ (retW CC Tryz.f103 K)=(
oK (rNil t0) fun v1=>
oK (rFA CC 190 0 v1) fun v2=>
oK (normO (rLoad CC 188 h v2)) fun v3=>
oK (lookup CC h 188 v3 t1 true) fun v4=>
oK (rExt v4 0) fun v5=>
oK (rExt v4 1) fun v6=>
oK (rUn CC .not v6) fun v7=>
oK (bif (rWant false v7) then some t2 else some undefV) fun v8=>
oK (bif (rWant false v7) then lenV CC h 30 v8 else some undefV) fun v9=>
oK (bif (rWant false v7) then some v5 else some undefV) fun v10=>
oK (bif (rWant false v7) then rNil v10 else some undefV) fun v11=>
oK (bif (rWant false v7) then rFA CC 200 0 v11 else some undefV) fun v12=>
oK (bif (rWant false v7) then normO (rLoad CC 30 h v12) else some undefV) fun v13=>
oK (bif (rWant false v7) then lenV CC h 30 v13 else some undefV) fun v14=>
oK (bif (rWant false v7) then binop CC .neq 3 false v9 v14 else some undefV) fun v15=>
oK (rPick v7 (.s (.bool true)) v15) fun v16=>
oK (asBool v16) fun b17=>bif b17 then (
K (.s (.bool false)) h n) else (
oK (rNil v5) fun v18=>
oK (rFA CC 200 0 v18) fun v19=>
oK (normO (rLoad CC 30 h v19)) fun v20=>
copyK CC h 30 v20 t2 fun v21 h22=>
CallK CC 116 [v5,t3] h22 n fun v23 h24 n25=>
K (.s (.bool true)) h24 n25)):=Wp.eq_of (by kernel_rfl)
theorem F103_call {K:Ko} (H:HCall CC Tryz.f103 [t0,t1,t2,t3] h n K):CallK CC 103 [t0,t1,t2,t3] h n K:=callK_by CCok F103 (by kernel_rfl) (by kernel_rfl) H
theorem F104:CC.F.get 104=some Tryz.f104:=by kernel_rfl
theorem F104_eq {K:Ko}:Wp CC (bodyOf Tryz.f104) ⟨initTm Tryz.f104 [t0],h,n,[]⟩ (retW CC Tryz.f104 K)=(
oK (rNil t0) fun v1=>
oK (rFA CC 247 2 v1) fun v2=>
oK (normO (rLoad CC 3 h v2)) fun v3=>
K v3 h n):=Wp.eq_of (by kernel_rfl)
theorem F104_call {K:Ko} (H:HCall CC Tryz.f104 [t0] h n K):CallK CC 104 [t0] h n K:=callK_by CCok F104 (by kernel_rfl) (by kernel_rfl) H
theorem F105:CC.F.get 105=some Tryz.f105:=by kernel_rfl
theorem F105_eq {K:Ko}:Wp CC (bodyOf Tryz.f105) ⟨initTm Tryz.f105 [t0,t1,t2,t3],h,n,[]⟩ (retW CC Tryz.f105 K)=(
CallK CC 49 [t0,t1] h n fun v1 h2 n3=>
oK (rNil v1) fun v4=>
oK (rFA CC 131 1 v4) fun v5=>
oK (normO (rLoad CC 20 h2 v5)) fun v6=>
oK (typeAssert CC v6 182 true) fun v7=>
oK (rExt v7 1) fun v8=>
oK (rExt v7 0) fun v9=>
oK (asBool v8) fun b10=>bif b10 then (
oK (rNil t0) fun v11=>
oK (rFA CC 120 0 v11) fun v12=>
oK (normO (rLoad CC 116 h2 v12)) fun v13=>
CallK CC 154 [v13,t3] h2 n3 fun v14 h15 n16=>
CallK CC 156 [v9,t2,v14] h15 n16 fun v17 h18 n19=>
CallK CC 61 [t0,t1,t2] h18 n19 fun v20 h21 n22=>
K (.tup []) h21 n22) else (
oK (typeAssert CC v6 184 true) fun v23=>
oK (rExt v23 1) fun v24=>
oK (rExt v23 0) fun v25=>
oK (asBool v24) fun b26=>bif b26 then (
oK (rNil t0) fun v27=>
oK (rFA CC 120 0 v27) fun v28=>
oK (normO (rLoad CC 116 h2 v28)) fun v29=>
CallK CC 154 [v29,t3] h2 n3 fun v30 h31 n32=>
CallK CC 157 [v25,t2,v30] h31 n32 fun v33 h34 n35=>
oK (rExt v33 0) fun v36=>
oK (rExt v33 1) fun v37=>
oK (rExt v33 2) fun v38=>
oK (binop CC .gtr 3 true v37 (.s (.int .i64 0))) fun v39=>
oK (asBool v39) fun b40=>bif b40 then (
oK (rNil t0) fun v41=>
oK (rFA CC 120 0 v41) fun v42=>
oK (normO (rLoad CC 116 h34 v42)) fun v43=>
CallK CC 60 [v43,v37] h34 n35 fun v44 h45 n46=>
CallK CC 61 [t0,t1,v36] h45 n46 fun v47 h48 n49=>
CallK CC 61 [t0,t1,t2] h48 n49 fun v50 h51 n52=>
K (.tup []) h51 n52) else (
CallK CC 61 [t0,t1,t2] h34 n35 fun v53 h54 n55=>
K (.tup []) h54 n55)) else (
CallK CC 61 [t0,t1,t2] h2 n3 fun v56 h57 n58=>
K (.tup []) h57 n58))):=Wp.eq_of (by kernel_rfl)
theorem F105_call {K:Ko} (H:HCall CC Tryz.f105 [t0,t1,t2,t3] h n K):CallK CC 105 [t0,t1,t2,t3] h n K:=callK_by CCok F105 (by kernel_rfl) (by kernel_rfl) H
theorem F106:CC.F.get 106=some Tryz.f106:=by kernel_rfl
theorem F106_eq {K:Ko}:Wp CC (bodyOf Tryz.f106) ⟨initTm Tryz.f106 [t0,t1],h,n,[]⟩ (retW CC Tryz.f106 K)=(
oK (binop CC .lss 3 true t1 (.s (.int .i64 0))) fun v1=>
oK (bif (rWant false v1) then some t1 else some undefV) fun v2=>
oK (bif (rWant false v1) then some t0 else some undefV) fun v3=>
oK (bif (rWant false v1) then rNil v3 else some undefV) fun v4=>
oK (bif (rWant false v1) then rFA CC 245 0 v4 else some undefV) fun v5=>
oK (bif (rWant false v1) then normO (rLoad CC 85 h v5) else some undefV) fun v6=>
oK (bif (rWant false v1) then lenV CC h 85 v6 else some undefV) fun v7=>
oK (bif (rWant false v1) then binop CC .geq 3 false v2 v7 else some undefV) fun v8=>
oK (rPick v1 (.s (.bool true)) v8) fun v9=>
oK (asBool v9) fun b10=>bif b10 then (
K (.tup [(.s (.int .i64 0)),(.s (.bool false))]) h n) else (
oK (rNil t0) fun v11=>
oK (rFA CC 245 0 v11) fun v12=>
oK (normO (rLoad CC 85 h v12)) fun v13=>
oK (indexAddr CC 85 v13 t1) fun v14=>
oK (normO (rLoad CC 3 h v14)) fun v15=>
K (.tup [v15,(.s (.bool true))]) h n)):=Wp.eq_of (by kernel_rfl)
theorem F106_call {K:Ko} (H:HCall CC Tryz.f106 [t0,t1] h n K):CallK CC 106 [t0,t1] h n K:=callK_by CCok F106 (by kernel_rfl) (by kernel_rfl) H
theorem F107:CC.F.get 107=some Tryz.f107:=by kernel_rfl
theorem F107_eq {K:Ko}:Wp CC (bodyOf Tryz.f107) ⟨initTm Tryz.f107 [t0],h,n,[]⟩ (retW CC Tryz.f107 K)=(
oK (indexAddr CC 30 t0 (.s (.int .i64 0))) fun v1=>
oK (normO (rLoad CC 5 h v1)) fun v2=>
oK (convert CC .leaf 5 3 v2) fun v3=>
oK (indexAddr CC 30 t0 (.s (.int .i64 1))) fun v4=>
oK (normO (rLoad CC 5 h v4)) fun v5=>
oK (convert CC .leaf 5 3 v5) fun v6=>
oK (binop CC .shl 3 true v6 (.s (.int .u64 8))) fun v7=>
oK (binop CC .or 3 false v3 v7) fun v8=>
oK (indexAddr CC 30 t0 (.s (.int .i64 2))) fun v9=>
oK (normO (rLoad CC 5 h v9)) fun v10=>
oK (convert CC .leaf 5 3 v10) fun v11=>
oK (binop CC .shl 3 true v11 (.s (.int .u64 16))) fun v12=>
oK (binop CC .or 3 false v8 v12) fun v13=>
oK (indexAddr CC 30 t0 (.s (.int .i64 3))) fun v14=>
oK (normO (rLoad CC 5 h v14)) fun v15=>
oK (convert CC .leaf 5 3 v15) fun v16=>
oK (binop CC .shl 3 true v16 (.s (.int .u64 24))) fun v17=>
oK (binop CC .or 3 false v13 v17) fun v18=>
K v18 h (n+23)):=Wp.eq_of (by kernel_rfl)
theorem F107_call {K:Ko} (H:HCall CC Tryz.f107 [t0] h n K):CallK CC 107 [t0] h n K:=callK_by CCok F107 (by kernel_rfl) (by kernel_rfl) H
theorem F108:CC.F.get 108=some Tryz.f108:=by kernel_rfl
theorem F108_eq {K:Ko}:Wp CC (bodyOf Tryz.f108) ⟨initTm Tryz.f108 [t0,t1],h,n,[]⟩ (retW CC Tryz.f108 K)=(
CallK CC 158 [t0,t1] h n fun v1 h2 n3=>
oK (binop CC .geq 3 true v1 (.s (.int .i64 0))) fun v4=>
oK (asBool v4) fun b5=>bif b5 then (
oK (rNil t0) fun v6=>
oK (rFA CC 250 2 v6) fun v7=>
oK (normO (rLoad CC 248 h2 v7)) fun v8=>
oK (indexAddr CC 248 v8 v1) fun v9=>
oK (rFA CC 255 1 v9) fun v10=>
oK (normO (rLoad CC 3 h2 v10)) fun v11=>
K (.tup [v11,(.s (.bool true))]) h2 n3) else (
K (.tup [(.s (.int .i64 0)),(.s (.bool false))]) h2 n3)):=Wp.eq_of (by kernel_rfl)
theorem F108_call {K:Ko} (H:HCall CC Tryz.f108 [t0,t1] h n K):CallK CC 108 [t0,t1] h n K:=callK_by CCok F108 (by kernel_rfl) (by kernel_rfl) H
theorem F109:CC.F.get 109=some Tryz.f109:=by kernel_rfl
theorem F109_eq {K:Ko}:Wp CC (bodyOf Tryz.f109) ⟨initTm Tryz.f109 [t0],h,n,[]⟩ (retW CC Tryz.f109 K)=(
LoopK CC none (subC [1,1,0,1,0,0] (bodyOf Tryz.f109)) ⟨mkTm (t0::undefV::(.s (.slice none 0 0))::(.s (.slice none 0 0))::(.s (.int .i64 0))::un 14 []),h,n,[]⟩ (resume CC none [.blk 0,.sq (subC [1,1,1] (bodyOf Tryz.f109))] (retW CC Tryz.f109 K))):=Wp.eq_of (by kernel_rfl)
theorem F109_call {K:Ko} (H:HCall CC Tryz.f109 [t0] h n K):CallK CC 109 [t0] h n K:=callK_by CCok F109 (by kernel_rfl) (by kernel_rfl) H
def F109_L110100 (t0 t3 t4:V) (h:Heap) (n:Nat) (s:St):Prop:=∃ f:Nat→V,s=⟨mkTm (t0::(f 1)::(f 2)::t3::t4::tl f 5 14 []),h,n,[]⟩
theorem F109_L110100_of {t0 t3 t4:V} {h:Heap} {n:Nat}:F109_L110100 t0 t3 t4 h n ⟨mkTm [t0,t1,t2,t3,t4,t5,t6,t7,t8,t9,t10,t11,t12,t13,t14,t15,t16,t17,t18],h,n,[]⟩:=
 ex_of (by kernel_rfl)
theorem F109_b110100 (f:Nat→V) (t0 t3 t4:V) (h:Heap) (n:Nat) (Q:X→St→Prop):Wp CC (subC [1,1,0,1,0,0] (bodyOf Tryz.f109)) ⟨mkTm (t0::(f 1)::(f 2)::t3::t4::tl f 5 14 []),h,n,[]⟩ Q=(
oK (lenV CC h 30 t0) fun v1=>
oK (binop CC .lss 3 false t4 v1) fun v2=>
oK (asBool v2) fun b3=>bif b3 then (
oK (indexAddr CC 30 t0 t4) fun v4=>
oK (normO (rLoad CC 5 h v4)) fun v5=>
fillK 1 ((zr CC 5).rep 1) [(0,v5)] fun c6=>
let h7:=h.set n (.cells (.lst c6) 1); let n8:=n+1;
appendK CC h7 n8 30 30 t3 (.slice n 0 1 1 false) fun v9 h10 n11=>
oK (binop CC .add 3 true t4 (.s (.int .i64 1))) fun v12=>
Q .normal ⟨mkTm [t0,(f 1),(f 2),v9,v12,t4,t0,v1,v2,t4,v12,t3,t0,t4,v4,v5,(.slice n 0 1 1 false),v9,(f 18)],h10,n11,[]⟩) else (
Q (.exit 0) ⟨mkTm (t0::(f 1)::(f 2)::t3::t4::t4::t0::v1::v2::tl f 9 10 []),h,n,[]⟩)):=Wp.eq_of (by kernel_rfl)
theorem F109_r110100_0 (f:Nat→V) (t0 t3 t4:V) (h:Heap) (n:Nat) (K:V→Heap→Nat→Prop):resume CC none [.blk 0,.sq (subC [1,1,1] (bodyOf Tryz.f109))] (retW CC Tryz.f109 K) (.exit 0) ⟨mkTm (t0::(f 1)::(f 2)::t3::t4::tl f 5 14 []),h,n,[]⟩=(
K t3 h n):=by kernel_rfl
theorem F110:CC.F.get 110=some Tryz.f110:=by kernel_rfl
theorem F110_eq {K:Ko}:Wp CC (bodyOf Tryz.f110) ⟨initTm Tryz.f110 [t0],h,n,[]⟩ (retW CC Tryz.f110 K)=(
oK (binop CC .mul 3 true (.s (.int .i64 7)) t0) fun v1=>
oK (binop CC .add 3 true (.s (.int .i64 201)) v1) fun v2=>
oK (convert CC h 3 5 v2) fun v3=>
K v3 h n):=Wp.eq_of (by kernel_rfl)
theorem F110_call {K:Ko} (H:HCall CC Tryz.f110 [t0] h n K):CallK CC 110 [t0] h n K:=callK_by CCok F110 (by kernel_rfl) (by kernel_rfl) H
theorem F111:CC.F.get 111=some Tryz.f111:=by kernel_rfl
theorem F111_eq {K:Ko}:Wp CC (bodyOf Tryz.f111) ⟨initTm Tryz.f111 [t0,t1],h,n,[]⟩ (retW CC Tryz.f111 K)=(
oK (lenV CC h 128 t0) fun v1=>
oK (convert CC h 3 203 v1) fun v2=>
CallK CC 160 [v2] h n fun v3 h4 n5=>
CallK CC 159 [t0,(.s (.int .i64 0)),v1,v3,t1] h4 n5 fun v6 h7 n8=>
K (.tup []) h7 n8):=Wp.eq_of (by kernel_rfl)
theorem F111_call {K:Ko} (H:HCall CC Tryz.f111 [t0,t1] h n K):CallK CC 111 [t0,t1] h n K:=callK_by CCok F111 (by kernel_rfl) (by kernel_rfl) H
theorem F112:CC.F.get 112=some Tryz.f112:=by kernel_rfl
theorem F112_eq {K:Ko}:Wp CC (bodyOf Tryz.f112) ⟨initTm Tryz.f112 [t0,t1],h,n,[]⟩ (retW CC Tryz.f112 K)=(
callV CC (.func (.func 161) [] []) [t0,t1] h n fun v1 h2 n3=>
K v1 h2 n3):=Wp.eq_of (by kernel_rfl)
theorem F112_call {K:Ko} (H:HCall CC Tryz.f112 [t0,t1] h n K):CallK CC 112 [t0,t1] h n K:=callK_by CCok F112 (by kernel_rfl) (by kernel_rfl) H
theorem F113:CC.F.get 113=some Tryz.f113:=by kernel_rfl
theorem F113_eq {K:Ko}:Wp CC (bodyOf Tryz.f113) ⟨initTm Tryz.f113 [t0],h,n,[]⟩ (retW CC Tryz.f113 K)=(
LoopK CC none (subC [1,1,0,1,0,0] (bodyOf Tryz.f113)) ⟨mkTm (t0::undefV::(.s (.slice none 0 0))::(.s (.slice none 0 0))::(.s (.int .i64 1))::un 31 []),h,n,[]⟩ (resume CC none [.blk 0,.sq (subC [1,1,1] (bodyOf Tryz.f113))] (retW CC Tryz.f113 K))):=Wp.eq_of (by kernel_rfl)
theorem F113_call {K:Ko} (H:HCall CC Tryz.f113 [t0] h n K):CallK CC 113 [t0] h n K:=callK_by CCok F113 (by kernel_rfl) (by kernel_rfl) H
def F113_L110100 (t0 t3 t4:V) (h:Heap) (n:Nat) (s:St):Prop:=∃ f:Nat→V,s=⟨mkTm (t0::(f 1)::(f 2)::t3::t4::tl f 5 31 []),h,n,[]⟩
theorem F113_L110100_of {t0 t3 t4:V} {h:Heap} {n:Nat}:F113_L110100 t0 t3 t4 h n ⟨mkTm [t0,t1,t2,t3,t4,t5,t6,t7,t8,t9,t10,t11,t12,t13,t14,t15,t16,t17,t18,t19,t20,t21,t22,t23,t24,t25,t26,t27,t28,t29,t30,t31,t32,t33,t34,t35],h,n,[]⟩:=
 ex_of (by kernel_rfl)
theorem F113_b110100 (f:Nat→V) (t0 t3 t4:V) (h:Heap) (n:Nat) (Q:X→St→Prop):Wp CC (subC [1,1,0,1,0,0] (bodyOf Tryz.f113)) ⟨mkTm (t0::(f 1)::(f 2)::t3::t4::tl f 5 31 []),h,n,[]⟩ Q=(
oK (rNil t0) fun v1=>
oK (rFA CC 190 1 v1) fun v2=>
oK (normO (rLoad CC 3 h v2)) fun v3=>
oK (binop CC .leq 3 false t4 v3) fun v4=>
oK (asBool v4) fun b5=>bif b5 then (
oK (rNil t0) fun v6=>
oK (rFA CC 190 0 v6) fun v7=>
oK (normO (rLoad CC 188 h v7)) fun v8=>
oK (lookup CC h 188 v8 t4 true) fun v9=>
oK (rExt v9 0) fun v10=>
oK (rExt v9 1) fun v11=>
oK (bif (rWant true v11) then some v10 else some undefV) fun v12=>
oK (bif (rWant true v11) then rNil v12 else some undefV) fun v13=>
oK (bif (rWant true v11) then rFA CC 200 3 v13 else some undefV) fun v14=>
oK (bif (rWant true v11) then normO (rLoad CC 4 h v14) else some undefV) fun v15=>
oK (rPick v11 v15 (.s (.bool false))) fun v16=>
oK (asBool v16) fun b17=>bif b17 then (
fillK 1 ((zr CC 3).rep 1) [(0,t4)] fun c18=>
let h19:=h.set n (.cells (.lst c18) 1); let n20:=n+1;
appendK CC h19 n20 85 85 t3 (.slice n 0 1 1 false) fun v21 h22 n23=>
oK (binop CC .add 3 true t4 (.s (.int .i64 1))) fun v24=>
Q .normal ⟨mkTm [t0,(f 1),(f 2),v21,v24,v10,v11,t4,t0,v1,v2,v3,v4,t4,v24,v9,t0,v6,v7,v8,t4,v9,v10,v11,v11,v11,v12,v13,v14,v15,v16,t3,t4,(.slice n 0 1 1 false),v21,(f 35)],h22,n23,[]⟩) else (
oK (binop CC .add 3 true t4 (.s (.int .i64 1))) fun v25=>
Q .normal ⟨mkTm (t0::(f 1)::(f 2)::t3::v25::v10::v11::t4::t0::v1::v2::v3::v4::t4::v25::v9::t0::v6::v7::v8::t4::v9::v10::v11::v11::v11::v12::v13::v14::v15::v16::tl f 31 5 []),h,n,[]⟩)) else (
Q (.exit 0) ⟨mkTm (t0::(f 1)::(f 2)::t3::t4::(f 5)::(f 6)::t4::t0::v1::v2::v3::v4::tl f 13 23 []),h,n,[]⟩)):=Wp.eq_of (by kernel_rfl)
theorem F113_r110100_0 (f:Nat→V) (t0 t3 t4:V) (h:Heap) (n:Nat) (K:V→Heap→Nat→Prop):resume CC none [.blk 0,.sq (subC [1,1,1] (bodyOf Tryz.f113))] (retW CC Tryz.f113 K) (.exit 0) ⟨mkTm (t0::(f 1)::(f 2)::t3::t4::tl f 5 31 []),h,n,[]⟩=(
K t3 h n):=by kernel_rfl
theorem F114:CC.F.get 114=some Tryz.f114:=by kernel_rfl
theorem F114_eq {K:Ko}:Wp CC (bodyOf Tryz.f114) ⟨initTm Tryz.f114 [t0],h,n,[]⟩ (retW CC Tryz.f114 K)=(
oK (binop CC .eql 30 true t0 (.s (.slice none 0 0))) fun v1=>
oK (asBool v1) fun b2=>bif b2 then (
K (.s (.slice none 0 0)) h n) else (
fillK 1 ((zr CC 5).rep 0) [] fun c3=>
let h4:=h.set n (.cells (.lst c3) 1); let n5:=n+1;
appendK CC h4 n5 30 30 (.slice n 0 0 0 false) t0 fun v6 h7 n8=>
K v6 h7 n8)):=Wp.eq_of (by kernel_rfl)
theorem F114_call {K:Ko} (H:HCall CC Tryz.f114 [t0] h n K):CallK CC 114 [t0] h n K:=callK_by CCok F114 (by kernel_rfl) (by kernel_rfl) H
theorem F115:CC.F.get 115=some Tryz.f115:=by kernel_rfl
theorem F115_eq {K:Ko}:Wp CC (bodyOf Tryz.f115) ⟨initTm Tryz.f115 [t0,t1,t2,t3],h,n,[]⟩ (retW CC Tryz.f115 K)=(
oK (rNil t0) fun v1=>
oK (rFA CC 190 0 v1) fun v2=>
oK (normO (rLoad CC 188 h v2)) fun v3=>
oK (lookup CC h 188 v3 t1 true) fun v4=>
oK (rExt v4 0) fun v5=>
oK (rExt v4 1) fun v6=>
oK (rUn CC .not v6) fun v7=>
let k8:=fun (v9:V) (h10:Heap) (n11:Nat)=>(
oK (bif (rWant false v7) then some t3 else some undefV) fun v12=>
let k13:=fun (v14:V) (h15:Heap) (n16:Nat)=>(
oK (bif (rWant false v7) then rUn CC .not v14 else some undefV) fun v17=>
oK (rPick v7 (.s (.bool true)) v17) fun v18=>
oK (bif (rWant false v18) then some t2 else some undefV) fun v19=>
oK (bif (rWant false v18) then binop CC .lss 3 true v19 (.s (.int .i64 0)) else some undefV) fun v20=>
oK (rPick v18 (.s (.bool true)) v20) fun v21=>
oK (bif (rWant false v21) then some t2 else some undefV) fun v22=>
oK (bif (rWant false v21) then some v5 else some undefV) fun v23=>
oK (bif (rWant false v21) then rNil v23 else some undefV) fun v24=>
oK (bif (rWant false v21) then rFA CC 200 0 v24 else some undefV) fun v25=>
oK (bif (rWant false v21) then normO (rLoad CC 30 h15 v25) else some undefV) fun v26=>
oK (bif (rWant false v21) then lenV CC h15 30 v26 else some undefV) fun v27=>
oK (bif (rWant false v21) then binop CC .gtr 3 false v22 v27 else some undefV) fun v28=>
oK (rPick v21 (.s (.bool true)) v28) fun v29=>
oK (bif (rWant false v29) then some t3 else some undefV) fun v30=>
oK (bif (rWant false v29) then some v5 else some undefV) fun v31=>
oK (bif (rWant false v29) then rNil v31 else some undefV) fun v32=>
oK (bif (rWant false v29) then rFA CC 200 0 v32 else some undefV) fun v33=>
oK (bif (rWant false v29) then normO (rLoad CC 30 h15 v33) else some undefV) fun v34=>
oK (bif (rWant false v29) then lenV CC h15 30 v34 else some undefV) fun v35=>
oK (bif (rWant false v29) then some t2 else some undefV) fun v36=>
oK (bif (rWant false v29) then binop CC .sub 3 false v35 v36 else some undefV) fun v37=>
oK (bif (rWant false v29) then binop CC .gtr 3 false v30 v37 else some undefV) fun v38=>
oK (rPick v29 (.s (.bool true)) v38) fun v39=>
oK (asBool v39) fun b40=>bif b40 then (
K (.tup [(.s (.pointer none)),(.s (.slice none 0 0)),(.s (.bool false))]) h15 n16) else (
oK (rNil v5) fun v41=>
oK (rFA CC 200 0 v41) fun v42=>
oK (normO (rLoad CC 30 h15 v42)) fun v43=>
oK (binop CC .add 3 false t2 t3) fun v44=>
oK (sliceOp CC 30 v43 (some t2) (some v44) none) fun v45=>
K (.tup [v5,v45,(.s (.bool true))]) h15 (n16+13)));
bif (rWant false v7) then (CallK CC 162 [v9,v12] h10 n11 fun v46 h47 n48=>
k13 v46 h47 n48) else k13 undefV h10 n11);
bif (rWant false v7) then (fillK 1 ((zr CC 3).rep 4) [(0,(.s (.int .i64 1))),(1,(.s (.int .i64 2))),(2,(.s (.int .i64 4))),(3,(.s (.int .i64 8)))] fun c49=>
let h50:=h.set n (.cells (.lst c49) 1); let n51:=n+1;
k8 (.slice n 0 4 4 false) h50 n51) else k8 undefV h n):=Wp.eq_of (by kernel_rfl)
theorem F115_call {K:Ko} (H:HCall CC Tryz.f115 [t0,t1,t2,t3] h n K):CallK CC 115 [t0,t1,t2,t3] h n K:=callK_by CCok F115 (by kernel_rfl) (by kernel_rfl) H
theorem F116:CC.F.get 116=some Tryz.f116:=by kernel_rfl
theorem F116_eq {K:Ko}:Wp CC (bodyOf Tryz.f116) ⟨initTm Tryz.f116 [t0,t1],h,n,[]⟩ (retW CC Tryz.f116 K)=(
oK (rNil t0) fun v1=>
oK (rFA CC 200 1 v1) fun v2=>
oK (normO (rLoad CC 3 h v2)) fun v3=>
oK (binop CC .add 3 true v3 (.s (.int .i64 1))) fun v4=>
oK (rNil t0) fun v5=>
oK (rFA CC 200 1 v5) fun v6=>
oK (asPtr v6) fun p7=>oK (store CC h 3 p7.1 p7.2 v4) fun h8=>
oK (rNil t0) fun v9=>
oK (rFA CC 200 2 v9) fun v10=>
oK (normO (rLoad CC 198 h8 v10)) fun v11=>
CallK CC 163 [v11,t1] h8 n fun v12 h13 n14=>
oK (rNil t0) fun v15=>
oK (rFA CC 200 2 v15) fun v16=>
oK (asPtr v16) fun p17=>oK (store CC h13 198 p17.1 p17.2 v12) fun h18=>
K (.tup []) h18 n14):=Wp.eq_of (by kernel_rfl)
theorem F116_call {K:Ko} (H:HCall CC Tryz.f116 [t0,t1] h n K):CallK CC 116 [t0,t1] h n K:=callK_by CCok F116 (by kernel_rfl) (by kernel_rfl) H
theorem F154:CC.F.get 154=some Tryz.f154:=by kernel_rfl
theorem F154_eq {K:Ko}:Wp CC (bodyOf Tryz.f154) ⟨initTm Tryz.f154 [t0,t1],h,n,[]⟩ (retW CC Tryz.f154 K)=(
oK (rNil t0) fun v1=>
oK (rFA CC 190 1 v1) fun v2=>
oK (normO (rLoad CC 3 h v2)) fun v3=>
oK (binop CC .add 3 true v3 (.s (.int .i64 1))) fun v4=>
oK (rNil t0) fun v5=>
oK (rFA CC 190 1 v5) fun v6=>
oK (asPtr v6) fun p7=>oK (store CC h 3 p7.1 p7.2 v4) fun h8=>
oK (rNil t0) fun v9=>
oK (rFA CC 190 0 v9) fun v10=>
oK (normO (rLoad CC 188 h8 v10)) fun v11=>
oK (rNil t0) fun v12=>
oK (rFA CC 190 1 v12) fun v13=>
oK (normO (rLoad CC 3 h8 v13)) fun v14=>
oK (lenV CC h8 30 t1) fun v15=>
oK (rMin CC #[3,3] 3 [v15,(.s (.int .i64 64))]) fun v16=>
oK (sliceOp CC 30 t1 none (some v16) none) fun v17=>
CallK CC 74 [v17] h8 (n+18) fun v18 h19 n20=>
(True∧normO (rLoad CC 3 h19 v13)=some v14∧normO (rLoad CC 188 h19 v10)=some v11∧True) ∧
CallK CC 190 [] h19 n20 fun v21 h22 n23=>
(True∧normO (rLoad CC 3 h22 v13)=some v14∧normO (rLoad CC 188 h22 v10)=some v11∧True) ∧
oK (normO (build CC 200 [(0,v18),(2,v21)])) fun v24=>
oK (V.cells v24) fun c25=>
oK (mapUpdate CC (h22.set (n+16) (.cells c25 6)) 188 v11 v14 (.ptr (n+16) 0)) fun h26=>
(True∧True∧True∧True) ∧
oK (rNil t0) fun v27=>
oK (rFA CC 190 1 v27) fun v28=>
oK (normO (rLoad CC 3 h26 v28)) fun v29=>
K v29 h26 n23):=Wp.eq_of (by kernel_rfl)
theorem F154_call {K:Ko} (H:HCall CC Tryz.f154 [t0,t1] h n K):CallK CC 154 [t0,t1] h n K:=callK_by CCok F154 (by kernel_rfl) (by kernel_rfl) H
theorem F155:CC.F.get 155=some Tryz.f155:=by kernel_rfl
theorem F155_eq {K:Ko}:Wp CC (bodyOf Tryz.f155) ⟨initTm Tryz.f155 [t0,t1],h,n,[]⟩ (retW CC Tryz.f155 K)=(
oK (rMax CC #[3,3] 3 [t0,(.s (.int .i64 1))]) fun v1=>
oK (rMin CC #[3,3] 3 [v1,t1]) fun v2=>
K v2 h n):=Wp.eq_of (by kernel_rfl)
theorem F155_call {K:Ko} (H:HCall CC Tryz.f155 [t0,t1] h n K):CallK CC 155 [t0,t1] h n K:=callK_by CCok F155 (by kernel_rfl) (by kernel_rfl) H
theorem F156:CC.F.get 156=some Tryz.f156:=by kernel_rfl
theorem F156_eq {K:Ko}:Wp CC (bodyOf Tryz.f156) ⟨initTm Tryz.f156 [t0,t1,t2],h,n,[]⟩ (retW CC Tryz.f156 K)=(
oK (V.cells t0) fun c1=>
let h2:=h.set n (.cells (.lst c1.toList) 1); let n3:=n+1;
oK (V.cells t1) fun c4=>
let h5:=h2.set n3 (.cells (.lst c4.toList) 1); let n6:=n3+1;
oK (V.cells t2) fun c7=>
let h8:=h5.set n6 (.cells (.lst c7.toList) 1); let n9:=n6+1;
oK (normO (rLoad CC 30 h8 (.ptr n3 0))) fun v10=>
oK (lenV CC h8 30 v10) fun v11=>
oK (normO (rLoad CC 182 h8 (.ptr n 0))) fun v12=>
oK (rNil v12) fun v13=>
oK (rFA CC 247 0 v13) fun v14=>
oK (normO (rLoad CC 3 h8 v14)) fun v15=>
oK (binop CC .neq 3 false v11 v15) fun v16=>
oK (asBool v16) fun b17=>bif b17 then (
K (.s (.int .i64 14)) h8 (n9+8)) else (
oK (normO (rLoad CC 182 h8 (.ptr n 0))) fun v18=>
oK (normO (rLoad CC 30 h8 (.ptr n3 0))) fun v19=>
CallK CC 191 [v18,v19] h8 (n9+8) fun v20 h21 n22=>
oK (binop CC .geq 3 true v20 (.s (.int .i64 0))) fun v23=>
oK (asBool v23) fun b24=>bif b24 then (
K (.s (.int .i64 11)) h21 n22) else (
oK (normO (rLoad CC 182 h21 (.ptr n 0))) fun v25=>
oK (rNil v25) fun v26=>
oK (rFA CC 247 2 v26) fun v27=>
oK (normO (rLoad CC 3 h21 v27)) fun v28=>
oK (normO (rLoad CC 182 h21 (.ptr n 0))) fun v29=>
oK (rNil v29) fun v30=>
oK (rFA CC 247 1 v30) fun v31=>
oK (normO (rLoad CC 3 h21 v31)) fun v32=>
oK (binop CC .eql 3 false v28 v32) fun v33=>
oK (asBool v33) fun b34=>bif b34 then (
K (.s (.int .i64 12)) h21 (n22+10)) else (
oK (normO (rLoad CC 182 h21 (.ptr n 0))) fun v35=>
oK (normO (rLoad CC 30 h21 (.ptr n3 0))) fun v36=>
CallK CC 192 [v35,v36] h21 (n22+10) fun v37 h38 n39=>
CodeK CC none (subC [1,1,0,1,0] (bodyOf Tryz.f156)) ⟨mkTm (t0::t1::t2::(.ptr n 0)::(.ptr n3 0)::(.ptr n6 0)::(.s (.int .i64 0))::undefV::v16::v10::v11::v12::v13::v14::v15::v16::v23::v18::v19::v20::v23::v33::v25::v26::v27::v28::v29::v30::v31::v32::v33::v35::v36::v37::un 34 []),h38,n39,[]⟩ (resume CC none [.blk 1,.sq (subC [1,1,1] (bodyOf Tryz.f156))] (retW CC Tryz.f156 K)))))):=Wp.eq_of (by kernel_rfl)
theorem F156_call {K:Ko} (H:HCall CC Tryz.f156 [t0,t1,t2] h n K):CallK CC 156 [t0,t1,t2] h n K:=callK_by CCok F156 (by kernel_rfl) (by kernel_rfl) H
theorem F156_r11010 (t0 t1 t2 t3 t4 t5 t6 t7 t8 t9 t10 t11 t12 t13 t14 t15 t16 t17 t18 t19 t20 t21 t22 t23 t24 t25 t26 t27 t28 t29 t30 t31 t32 t33 t34 t35 t36 t37 t38 t39 t40 t41 t42 t43 t44 t45 t46 t47 t48 t49 t50 t51 t52 t53 t54 t55 t56 t57 t58 t59 t60 t61 t62 t63 t64 t65 t66 t67:V) (h:Heap) (n:Nat) (d:Nat) (K:V→Heap→Nat→Prop):resume CC none [.blk 1,.sq (subC [1,1,1] (bodyOf Tryz.f156))] (retW CC Tryz.f156 K) .normal ⟨mkTm [t0,t1,t2,t3,t4,t5,t6,t7,t8,t9,t10,t11,t12,t13,t14,t15,t16,t17,t18,t19,t20,t21,t22,t23,t24,t25,t26,t27,t28,t29,t30,t31,t32,t33,t34,t35,t36,t37,t38,t39,t40,t41,t42,t43,t44,t45,t46,t47,t48,t49,t50,t51,t52,t53,t54,t55,t56,t57,t58,t59,t60,t61,t62,t63,t64,t65,t66,t67],h,n,[d]⟩=(
oK (dropDefs [d] h) fun h40=>K (.s (.int .i64 0)) h40 n):=by kernel_rfl
theorem F156_r11010_1 (t0 t1 t2 t3 t4 t5 t6 t7 t8 t9 t10 t11 t12 t13 t14 t15 t16 t17 t18 t19 t20 t21 t22 t23 t24 t25 t26 t27 t28 t29 t30 t31 t32 t33 t34 t35 t36 t37 t38 t39 t40 t41 t42 t43 t44 t45 t46 t47 t48 t49 t50 t51 t52 t53 t54 t55 t56 t57 t58 t59 t60 t61 t62 t63 t64 t65 t66 t67:V) (h:Heap) (n:Nat) (d:Nat) (K:V→Heap→Nat→Prop):resume CC none [.blk 1,.sq (subC [1,1,1] (bodyOf Tryz.f156))] (retW CC Tryz.f156 K) (.exit 1) ⟨mkTm [t0,t1,t2,t3,t4,t5,t6,t7,t8,t9,t10,t11,t12,t13,t14,t15,t16,t17,t18,t19,t20,t21,t22,t23,t24,t25,t26,t27,t28,t29,t30,t31,t32,t33,t34,t35,t36,t37,t38,t39,t40,t41,t42,t43,t44,t45,t46,t47,t48,t49,t50,t51,t52,t53,t54,t55,t56,t57,t58,t59,t60,t61,t62,t63,t64,t65,t66,t67],h,n,[d]⟩=(
oK (dropDefs [d] h) fun h42=>K (.s (.int .i64 0)) h42 n):=by kernel_rfl
theorem F156_f11010:(subC [1,1,0,1,0] (bodyOf Tryz.f156))=.rangeFunc (.tmp 33) #[34] (subC [1,1,0,1,0,0] (bodyOf Tryz.f156)) (subC [1,1,0,1,0,1] (bodyOf Tryz.f156)):=by kernel_rfl
theorem F156_g110100 (t0 t1 t2 t3 t4 t5 t6 t7 t8 t9 t10 t11 t12 t13 t14 t15 t16 t17 t18 t19 t20 t21 t22 t23 t24 t25 t26 t27 t28 t29 t30 t31 t32 t33 t34 t35 t36 t37 t38 t39 t40 t41 t42 t43 t44 t45 t46 t47 t48 t49 t50 t51 t52 t53 t54 t55 t56 t57 t58 t59 t60 t61 t62 t63 t64 t65 t66 t67:V) (l:Nat) (h:Heap) (n:Nat) (Q:X→St→Prop):wpC CC (some l) (subC [1,1,0,1,0,0] (bodyOf Tryz.f156)) ⟨mkTm [t0,t1,t2,t3,t4,t5,t6,t7,t8,t9,t10,t11,t12,t13,t14,t15,t16,t17,t18,t19,t20,t21,t22,t23,t24,t25,t26,t27,t28,t29,t30,t31,t32,t33,t34,t35,t36,t37,t38,t39,t40,t41,t42,t43,t44,t45,t46,t47,t48,t49,t50,t51,t52,t53,t54,t55,t56,t57,t58,t59,t60,t61,t62,t63,t64,t65,t66,t67],h,n,[]⟩ Q=(
Q .normal ⟨mkTm [t0,t1,t2,t3,t4,t5,t6,t34,t8,t9,t10,t11,t12,t13,t14,t15,t16,t17,t18,t19,t20,t21,t22,t23,t24,t25,t26,t27,t28,t29,t30,t31,t32,t33,t34,t35,t36,t37,t38,t39,t40,t41,t42,t43,t44,t45,t46,t47,t48,t49,t50,t51,t52,t53,t54,t55,t56,t57,t58,t59,t60,t61,t62,t63,t64,t65,t66,t67],h,n,[]⟩):=by kernel_rfl
theorem F156_g110101 (t0 t1 t2 t3 t4 t5 t6 t7 t8 t9 t10 t11 t12 t13 t14 t15 t16 t17 t18 t19 t20 t21 t22 t23 t24 t25 t26 t27 t28 t29 t30 t31 t32 t33 t34 t35 t36 t37 t38 t39 t40 t41 t42 t43 t44 t45 t46 t47 t48 t49 t50 t51 t52 t53 t54 t55 t56 t57 t58 t59 t60 t61 t62 t63 t64 t65 t66 t67:V) (l:Nat) (h:Heap) (n:Nat) (Q:X→St→Prop):wpC CC (some l) (subC [1,1,0,1,0,1] (bodyOf Tryz.f156)) ⟨mkTm [t0,t1,t2,t3,t4,t5,t6,t7,t8,t9,t10,t11,t12,t13,t14,t15,t16,t17,t18,t19,t20,t21,t22,t23,t24,t25,t26,t27,t28,t29,t30,t31,t32,t33,t34,t35,t36,t37,t38,t39,t40,t41,t42,t43,t44,t45,t46,t47,t48,t49,t50,t51,t52,t53,t54,t55,t56,t57,t58,t59,t60,t61,t62,t63,t64,t65,t66,t67],h,n,[]⟩ Q=(
oK (normO (rLoad CC 182 h t3)) fun v43=>
oK (rNil v43) fun v44=>
oK (rFA CC 247 4 v44) fun v45=>
oK (normO (rLoad CC 30 h v45)) fun v46=>
oK (indexAddr CC 30 v46 t7) fun v47=>
oK (normO (rLoad CC 5 h v47)) fun v48=>
oK (binop CC .neq 5 true v48 (.s (.int .u8 1))) fun v49=>
oK (asBool v49) fun b50=>bif b50 then (
oK (normO (rLoad CC 182 h t3)) fun v51=>
oK (normO (rLoad CC 30 h t4)) fun v52=>
CallK CC 193 [v51,t7] h (n+5) fun v53 h54 n55=>
(normO (rLoad CC 30 h54 t4)=some v52∧True∧True) ∧
copyK CC h54 30 v53 v52 fun v56 h57=>
(True∧True∧True) ∧
oK (normO (rLoad CC 182 h57 t3)) fun v58=>
oK (rNil v58) fun v59=>
oK (rFA CC 247 4 v59) fun v60=>
oK (normO (rLoad CC 30 h57 v60)) fun v61=>
oK (normO (rLoad CC 182 h57 t3)) fun v62=>
oK (rNil v62) fun v63=>
oK (rFA CC 247 5 v63) fun v64=>
oK (normO (rLoad CC 85 h57 v64)) fun v65=>
oK (normO (rLoad CC 3 h57 t5)) fun v66=>
oK (indexAddr CC 30 v61 t7) fun v67=>
oK (asPtr v67) fun p68=>oK (store CC h57 5 p68.1 p68.2 (.s (.int .u8 1))) fun h69=>
(normO (rLoad CC 3 h69 t5)=some v66∧True∧True∧True∧True∧True) ∧
oK (indexAddr CC 85 v65 t7) fun v70=>
oK (asPtr v70) fun p71=>oK (store CC h69 3 p71.1 p71.2 v66) fun h72=>
(True∧True∧True∧True∧True∧True) ∧
oK (normO (rLoad CC 182 h72 t3)) fun v73=>
oK (rNil v73) fun v74=>
oK (rFA CC 247 2 v74) fun v75=>
oK (normO (rLoad CC 3 h72 v75)) fun v76=>
oK (binop CC .add 3 true v76 (.s (.int .i64 1))) fun v77=>
oK (rNil v73) fun v78=>
oK (rFA CC 247 2 v78) fun v79=>
oK (asPtr v79) fun p80=>oK (store CC h72 3 p80.1 p80.2 v77) fun h81=>
Q (.exit 1) ⟨mkTm [t0,t1,t2,t3,t4,t5,t6,t7,t8,t9,t10,t11,t12,t13,t14,t15,t16,t17,t18,t19,t20,t21,t22,t23,t24,t25,t26,t27,t28,t29,t30,t31,t32,t33,t34,v43,v44,v45,v46,t7,v47,v48,v49,v51,t7,v53,v52,v56,v58,v59,v60,v61,t7,v62,v63,v64,v65,t7,v66,v67,v70,v73,v74,v75,v76,v77,v78,v79],h81,(n55+15),[]⟩) else (
Q .normal ⟨mkTm [t0,t1,t2,t3,t4,t5,t6,t7,t8,t9,t10,t11,t12,t13,t14,t15,t16,t17,t18,t19,t20,t21,t22,t23,t24,t25,t26,t27,t28,t29,t30,t31,t32,t33,t34,v43,v44,v45,v46,t7,v47,v48,v49,t43,t44,t45,t46,t47,t48,t49,t50,t51,t52,t53,t54,t55,t56,t57,t58,t59,t60,t61,t62,t63,t64,t65,t66,t67],h,n,[]⟩)):=by kernel_rfl
theorem F156_R11010 {t0 t1 t2 t3 t4 t5 t6 t7 t8 t9 t10 t11 t12 t13 t14 t15 t16 t17 t18 t19 t20 t21 t22 t23 t24 t25 t26 t27 t28 t29 t30 t31 t32 t33 t34 t35 t36 t37 t38 t39 t40 t41 t42 t43 t44 t45 t46 t47 t48 t49 t50 t51 t52 t53 t54 t55 t56 t57 t58 t59 t60 t61 t62 t63 t64 t65 t66 t67:V} (x:V) {l:Nat} {h:Heap} {n:Nat} {pend:Option Code} {K:V→Heap→Nat→Prop} (hl:h.get l=some (.loop .ready pend (mkTm [t0,t1,t2,t3,t4,t5,t6,t7,t8,t9,t10,t11,t12,t13,t14,t15,t16,t17,t18,t19,t20,t21,t22,t23,t24,t25,t26,t27,t28,t29,t30,t31,t32,t33,t34,t35,t36,t37,t38,t39,t40,t41,t42,t43,t44,t45,t46,t47,t48,t49,t50,t51,t52,t53,t54,t55,t56,t57,t58,t59,t60,t61,t62,t63,t64,t65,t66,t67]) [34] (subC [1,1,0,1,0,0] (bodyOf Tryz.f156)) (subC [1,1,0,1,0,1] (bodyOf Tryz.f156)))) (H:wpC CC (some l) (subC [1,1,0,1,0,1] (bodyOf Tryz.f156)) ⟨mkTm [t0,t1,t2,t3,t4,t5,t6,x,t8,t9,t10,t11,t12,t13,t14,t15,t16,t17,t18,t19,t20,t21,t22,t23,t24,t25,t26,t27,t28,t29,t30,t31,t32,t33,x,t35,t36,t37,t38,t39,t40,t41,t42,t43,t44,t45,t46,t47,t48,t49,t50,t51,t52,t53,t54,t55,t56,t57,t58,t59,t60,t61,t62,t63,t64,t65,t66,t67],h.set l (.loop .busy pend (mkTm [t0,t1,t2,t3,t4,t5,t6,t7,t8,t9,t10,t11,t12,t13,t14,t15,t16,t17,t18,t19,t20,t21,t22,t23,t24,t25,t26,t27,t28,t29,t30,t31,t32,t33,t34,t35,t36,t37,t38,t39,t40,t41,t42,t43,t44,t45,t46,t47,t48,t49,t50,t51,t52,t53,t54,t55,t56,t57,t58,t59,t60,t61,t62,t63,t64,t65,t66,t67]) [34] (subC [1,1,0,1,0,0] (bodyOf Tryz.f156)) (subC [1,1,0,1,0,1] (bodyOf Tryz.f156))),n,[]⟩ fun x s2=>oK (endRound x l s2.h s2.n) fun r=>K r.1 r.2.1 r.2.2):RoundK CC l [x] h n K:=
 roundK hl (tm1:=mkTm [t0,t1,t2,t3,t4,t5,t6,t7,t8,t9,t10,t11,t12,t13,t14,t15,t16,t17,t18,t19,t20,t21,t22,t23,t24,t25,t26,t27,t28,t29,t30,t31,t32,t33,x,t35,t36,t37,t38,t39,t40,t41,t42,t43,t44,t45,t46,t47,t48,t49,t50,t51,t52,t53,t54,t55,t56,t57,t58,t59,t60,t61,t62,t63,t64,t65,t66,t67]) (by kernel_rfl) (wpC_sound CCok (some l) _ _ _ (by
  rw [F156_g110100]
  refine ⟨rfl,?_⟩
  simp only [setBusy,hl,oK_some]
  exact wpC_sound CCok (some l) _ _ _ H))
theorem F156_E11010 {t0 t1 t2 t3 t4 t5 t6 t7 t8 t9 t10 t11 t12 t13 t14 t15 t16 t17 t18 t19 t20 t21 t22 t23 t24 t25 t26 t27 t28 t29 t30 t31 t32 t33 t34 t35 t36 t37 t38 t39 t40 t41 t42 t43 t44 t45 t46 t47 t48 t49 t50 t51 t52 t53 t54 t55 t56 t57 t58 t59 t60 t61 t62 t63 t64 t65 t66 t67:V} {h:Heap} {n:Nat} {Q:X→St→Prop} {g:FuncId} {first caps:List V} (hf:t33=.func (.func g) first caps) (hc:CallK CC g (first++[.yield (n+1)]++caps) ((h.set n .defd).set (n+1) (.loop .ready none (mkTm [t0,t1,t2,t3,t4,t5,t6,t7,t8,t9,t10,t11,t12,t13,t14,t15,t16,t17,t18,t19,t20,t21,t22,t23,t24,t25,t26,t27,t28,t29,t30,t31,t32,t33,t34,t35,t36,t37,t38,t39,t40,t41,t42,t43,t44,t45,t46,t47,t48,t49,t50,t51,t52,t53,t54,t55,t56,t57,t58,t59,t60,t61,t62,t63,t64,t65,t66,t67]) [34] (subC [1,1,0,1,0,0] (bodyOf Tryz.f156)) (subC [1,1,0,1,0,1] (bodyOf Tryz.f156)))) (n+2) fun _ h' n'=>oK (endLoop (n+1) h') fun e=>Q e.1 ⟨mkTm [t0,t1,t2,t3,t4,t5,t6,t7,t8,t9,t10,t11,t12,t13,t14,t15,t16,t17,t18,t19,t20,t21,t22,t23,t24,t25,t26,t27,t28,t29,t30,t31,t32,t33,t34,t35,t36,t37,t38,t39,t40,t41,t42,t43,t44,t45,t46,t47,t48,t49,t50,t51,t52,t53,t54,t55,t56,t57,t58,t59,t60,t61,t62,t63,t64,t65,t66,t67],e.2,n',[n]⟩):CodeK CC none (subC [1,1,0,1,0] (bodyOf Tryz.f156)) ⟨mkTm [t0,t1,t2,t3,t4,t5,t6,t7,t8,t9,t10,t11,t12,t13,t14,t15,t16,t17,t18,t19,t20,t21,t22,t23,t24,t25,t26,t27,t28,t29,t30,t31,t32,t33,t34,t35,t36,t37,t38,t39,t40,t41,t42,t43,t44,t45,t46,t47,t48,t49,t50,t51,t52,t53,t54,t55,t56,t57,t58,t59,t60,t61,t62,t63,t64,t65,t66,t67],h,n,[]⟩ Q:=by
 rw [F156_f11010]
 refine rangeFuncK (q:=(n+1,⟨mkTm [t0,t1,t2,t3,t4,t5,t6,t7,t8,t9,t10,t11,t12,t13,t14,t15,t16,t17,t18,t19,t20,t21,t22,t23,t24,t25,t26,t27,t28,t29,t30,t31,t32,t33,t34,t35,t36,t37,t38,t39,t40,t41,t42,t43,t44,t45,t46,t47,t48,t49,t50,t51,t52,t53,t54,t55,t56,t57,t58,t59,t60,t61,t62,t63,t64,t65,t66,t67],(h.set n .defd).set (n+1) (.loop .ready none (mkTm [t0,t1,t2,t3,t4,t5,t6,t7,t8,t9,t10,t11,t12,t13,t14,t15,t16,t17,t18,t19,t20,t21,t22,t23,t24,t25,t26,t27,t28,t29,t30,t31,t32,t33,t34,t35,t36,t37,t38,t39,t40,t41,t42,t43,t44,t45,t46,t47,t48,t49,t50,t51,t52,t53,t54,t55,t56,t57,t58,t59,t60,t61,t62,t63,t64,t65,t66,t67]) [34] (subC [1,1,0,1,0,0] (bodyOf Tryz.f156)) (subC [1,1,0,1,0,1] (bodyOf Tryz.f156))),n+2,[n]⟩)) ?_ (by rfl) hc
 rw [← hf]
 exact (by kernel_rfl:evalT CC (mkTm [t0,t1,t2,t3,t4,t5,t6,t7,t8,t9,t10,t11,t12,t13,t14,t15,t16,t17,t18,t19,t20,t21,t22,t23,t24,t25,t26,t27,t28,t29,t30,t31,t32,t33,t34,t35,t36,t37,t38,t39,t40,t41,t42,t43,t44,t45,t46,t47,t48,t49,t50,t51,t52,t53,t54,t55,t56,t57,t58,t59,t60,t61,t62,t63,t64,t65,t66,t67]) (.tmp 33)=some t33)
theorem F157:CC.F.get 157=some Tryz.f157:=by kernel_rfl
theorem F157_eq {K:Ko}:Wp CC (bodyOf Tryz.f157) ⟨initTm Tryz.f157 [t0,t1,t2],h,n,[]⟩ (retW CC Tryz.f157 K)=(
oK (lenV CC h 30 t1) fun v1=>
oK (rNil t0) fun v2=>
oK (rFA CC 250 0 v2) fun v3=>
oK (normO (rLoad CC 3 h v3)) fun v4=>
oK (binop CC .neq 3 false v1 v4) fun v5=>
oK (asBool v5) fun b6=>bif b6 then (
K (.tup [(.s (.slice none 0 0)),(.s (.int .i64 0)),(.s (.int .i64 14))]) h n) else (
CallK CC 158 [t0,t1] h n fun v7 h8 n9=>
oK (binop CC .geq 3 true v7 (.s (.int .i64 0))) fun v10=>
oK (asBool v10) fun b11=>bif b11 then (
K (.tup [(.s (.slice none 0 0)),(.s (.int .i64 0)),(.s (.int .i64 11))]) h8 n9) else (
let h12:=h8.set n9 (.cells (.lst (zr CC 255).toList) 2); let n13:=n9+1;
oK (rNil t0) fun v14=>
oK (rFA CC 250 2 v14) fun v15=>
oK (normO (rLoad CC 248 h12 v15)) fun v16=>
oK (lenV CC h12 248 v16) fun v17=>
oK (rNil t0) fun v18=>
oK (rFA CC 250 1 v18) fun v19=>
oK (normO (rLoad CC 3 h12 v19)) fun v20=>
oK (binop CC .eql 3 false v17 v20) fun v21=>
oK (asBool v21) fun b22=>bif b22 then (
oK (rNil t0) fun v23=>
oK (rFA CC 250 1 v23) fun v24=>
oK (normO (rLoad CC 3 h12 v24)) fun v25=>
oK (binop CC .sub 3 true v25 (.s (.int .i64 1))) fun v26=>
CallK CC 194 [t0,v26] h12 (n13+10) fun v27 h28 n29=>
oK (asPtr (.ptr n9 0)) fun p30=>oK (store CC h28 255 p30.1 p30.2 v27) fun h31=>
oK (convert CC h31 30 9 t1) fun v32=>
oK (normO (build CC 255 [(0,v32),(1,t2)])) fun v33=>
CallK CC 195 [t0,v33] h31 n29 fun v34 h35 n36=>
oK (rFA CC 255 0 (.ptr n9 0)) fun v37=>
oK (normO (rLoad CC 9 h35 v37)) fun v38=>
oK (mkConv CC 9 30 v38) fun m39=>
oK (rFA CC 255 1 (.ptr n9 0)) fun v40=>
oK (normO (rLoad CC 3 h35 v40)) fun v41=>
K (.tup [(m39.2.val (n36+2)),v41,(.s (.int .i64 0))]) (h35.set (n36+2) (m39.1)) (n36+8)) else (
oK (convert CC h12 30 9 t1) fun v42=>
oK (normO (build CC 255 [(0,v42),(1,t2)])) fun v43=>
CallK CC 195 [t0,v43] h12 (n13+10) fun v44 h45 n46=>
oK (rFA CC 255 0 (.ptr n9 0)) fun v47=>
oK (normO (rLoad CC 9 h45 v47)) fun v48=>
oK (mkConv CC 9 30 v48) fun m49=>
oK (rFA CC 255 1 (.ptr n9 0)) fun v50=>
oK (normO (rLoad CC 3 h45 v50)) fun v51=>
K (.tup [(m49.2.val (n46+2)),v51,(.s (.int .i64 0))]) (h45.set (n46+2) (m49.1)) (n46+8))))):=Wp.eq_of (by kernel_rfl)
theorem F157_call {K:Ko} (H:HCall CC Tryz.f157 [t0,t1,t2] h n K):CallK CC 157 [t0,t1,t2] h n K:=callK_by CCok F157 (by kernel_rfl) (by kernel_rfl) H
theorem F158:CC.F.get 158=some Tryz.f158:=by kernel_rfl
theorem F158_eq {K:Ko}:Wp CC (bodyOf Tryz.f158) ⟨initTm Tryz.f158 [t0,t1],h,n,[]⟩ (retW CC Tryz.f158 K)=(
oK (V.cells t1) fun c1=>
let h2:=h.set n (.cells (.lst c1.toList) 1); let n3:=n+1;
oK (rNil t0) fun v4=>
oK (rFA CC 250 2 v4) fun v5=>
oK (normO (rLoad CC 248 h2 v5)) fun v6=>
CallK CC 196 [v6,(.func (.func 197) [] [(.ptr n 0)])] h2 n3 fun v7 h8 n9=>
K v7 h8 n9):=Wp.eq_of (by kernel_rfl)
theorem F158_call {K:Ko} (H:HCall CC Tryz.f158 [t0,t1] h n K):CallK CC 158 [t0,t1] h n K:=callK_by CCok F158 (by kernel_rfl) (by kernel_rfl) H
end Go.Ev
