import Derived.Test.YtaigdhieijndgaaGreatRI1
namespace Go.Ev
open Proofs
set_option linter.unusedVariables false
set_option autoImplicit true
theorem F249:CC.F.get 249=some Tryz.f249:=by kernel_rfl
theorem F249_eq {K:Ko}:Wp CC (bodyOf Tryz.f249) ⟨initTm Tryz.f249 [t0],h,n,[]⟩ (retW CC Tryz.f249 K)=(
oK (rNil t0) fun v1=>
oK (rFA CC 250 2 v1) fun v2=>
oK (normO (rLoad CC 248 h v2)) fun v3=>
oK (lenV CC h 248 v3) fun v4=>
LoopK CC none (subC [1,1,0,1,0,0] (bodyOf Tryz.f249)) ⟨mkTm (t0::undefV::(.s (.slice none 0 0))::(.s (.slice none 0 0))::undefV::undefV::t0::v1::v2::v3::v4::(.s (.int .i64 0))::un 11 []),h,n,[]⟩ (resume CC none [.blk 0,.sq (subC [1,1,1] (bodyOf Tryz.f249))] (retW CC Tryz.f249 K))):=Wp.eq_of (by kernel_rfl)
theorem F249_call {K:Ko} (H:HCall CC Tryz.f249 [t0] h n K):CallK CC 249 [t0] h n K:=callK_by CCok F249 (by kernel_rfl) (by kernel_rfl) H
def F249_L110100 (t3 t9 t10 t11:V) (h:Heap) (n:Nat) (s:St):Prop:=∃ f:Nat→V,s=⟨mkTm (tl f 0 3 (t3::tl f 4 5 (t9::t10::t11::tl f 12 11 []))),h,n,[]⟩
theorem F249_L110100_of {t3 t9 t10 t11:V} {h:Heap} {n:Nat}:F249_L110100 t3 t9 t10 t11 h n ⟨mkTm [t0,t1,t2,t3,t4,t5,t6,t7,t8,t9,t10,t11,t12,t13,t14,t15,t16,t17,t18,t19,t20,t21,t22],h,n,[]⟩:=
 ex_of (by kernel_rfl)
theorem F249_b110100 (f:Nat→V) (t3 t9 t10 t11:V) (h:Heap) (n:Nat) (Q:X→St→Prop):Wp CC (subC [1,1,0,1,0,0] (bodyOf Tryz.f249)) ⟨mkTm (tl f 0 3 (t3::tl f 4 5 (t9::t10::t11::tl f 12 11 []))),h,n,[]⟩ Q=(
oK (binop CC .lss 3 false t11 t10) fun v5=>
oK (asBool v5) fun b6=>bif b6 then (
oK (indexAddr CC 248 t9 t11) fun v7=>
oK (normO (rLoad CC 255 h v7)) fun v8=>
let h9:=h.set n (.cells (.lst (zr CC 255).toList) 2); let n10:=n+1;
oK (asPtr (.ptr n 0)) fun p11=>oK (store CC h9 255 p11.1 p11.2 v8) fun h12=>
oK (rFA CC 255 0 (.ptr n 0)) fun v13=>
oK (normO (rLoad CC 9 h12 v13)) fun v14=>
oK (mkConv CC 9 30 v14) fun m15=>
let h16:=h12.set n10 (normOb m15.1); let n17:=n10+1;
fillK 1 ((zr CC 30).rep 1) [(0,(m15.2.val n10))] fun c18=>
let h19:=h16.set n17 (.cells (.lst c18) 1); let n20:=n17+1;
appendK CC h19 n20 128 128 t3 (.slice n17 0 1 1 false) fun v21 h22 n23=>
oK (binop CC .add 3 true t11 (.s (.int .i64 1))) fun v24=>
Q .normal ⟨mkTm (tl f 0 3 (v21::(f 4)::(.ptr n 0)::tl f 6 3 (t9::t10::v24::v5::v7::v8::t3::v13::v14::(m15.2.val n10)::(.slice n17 0 1 1 false)::v21::v24::(f 22)::[]))),h22,n23,[]⟩) else (
Q (.exit 0) ⟨mkTm (tl f 0 3 (t3::tl f 4 5 (t9::t10::t11::v5::tl f 13 10 []))),h,n,[]⟩)):=Wp.eq_of (by kernel_rfl)
theorem F249_r110100_0 (f:Nat→V) (t3 t9 t10 t11:V) (h:Heap) (n:Nat) (K:V→Heap→Nat→Prop):resume CC none [.blk 0,.sq (subC [1,1,1] (bodyOf Tryz.f249))] (retW CC Tryz.f249 K) (.exit 0) ⟨mkTm (tl f 0 3 (t3::tl f 4 5 (t9::t10::t11::tl f 12 11 []))),h,n,[]⟩=(
K t3 h n):=by kernel_rfl
end Go.Ev
