import Derived.Test.YtaigdhieijndgaaGreatMQ27
import Derived.Test.YtaigdhieijndgaaGreatEQ14
import Derived.Test.YtaigdhieijndgaaGreatRows
import Derived.WalkKit
import Derived.ProofKit
import Derived.OpenShut
import Derived.SizedLaws
namespace Go.Proofs.YtaigdhieijndgaaGreat.mapsStay
open Go.ChangeShapes Go.WideShapes Go.ChangeAt Go.RowKit
set_option linter.unusedVariables false
set_option maxRecDepth 100000
theorem own:ownKnob Tryz.prog.godebug=none:=by kernel_rfl
theorem laidOut:laidOutB Tryz.prog=true:=by kernel_rfl
theorem works:Ev.saysTrue (Ev.answers (Ev.Ctx.of Tryz.prog 0) 11)=true:=by kernel_rfl
theorem worksK (h:Ev.Heap) (n:Nat):Ev.CallK Ev.CC 11 [] h n fun v h' n'=>v=.s (.bool true):=
 Ev.CallK.mono' (fun _ _ _ h=>h.1) (Ev.closedK Ev.typesFine Ev.namesFine Ev.mixedFine works h n)
theorem plain22:Ev.plainT Tryz.prog 6 22=true:=by kernel_rfl
theorem plain27:Ev.plainT Tryz.prog 1 27=true:=by kernel_rfl
theorem readable:∀ t∈Tryz.f4.params.toList,Tryz.prog.readableRec t=true∧t<Tryz.prog.types.size:=by
 rw [Tryz.params4]
 intro t ht
 simp at ht
 rcases ht with rfl | rfl
 ·exact ⟨by kernel_rfl,of_decide_eq_true (by kernel_rfl)⟩
 ·exact ⟨by kernel_rfl,of_decide_eq_true (by kernel_rfl)⟩
theorem answers4:Tryz.f4.resultTypes=#[4]:=by kernel_rfl
theorem okNil (w:World) (base:Nat):Value.okWide Tryz.prog w .any base 22 (.slice none 0 0):=Value.okWide_of_okWideB (by kernel_rfl)
theorem okZero (w:World) (base:Nat):Value.okWide Tryz.prog w .any base 27 (.int .u64 0):=Value.okWide_of_okWideB (by kernel_rfl)
def in0:Input:=⟨#[],#[.slice none 0 0,.int .u64 0],[]⟩
theorem okIn (w:World) (base:Nat):Input.okWide Tryz.prog w .any base 4 in0:=by
 refine ⟨by intro o ho; simp [in0] at ho,by intro o ho; simp [in0] at ho,by kernel_rfl,Tryz.f4,Tryz.func4,by kernel_rfl,by kernel_rfl,by kernel_rfl,by kernel_rfl,fun j t v hj hv=>?_⟩
 rw [show Tryz.f4.params=#[22,27] from by kernel_rfl] at hj
 unfold in0 at hv
 match j,hj,hv with
 | 0,hj,hv=>cases hj; cases hv; exact okNil w base
 | 1,hj,hv=>cases hj; cases hv; exact okZero w base
 | j+2,hj,hv=>simp at hj
theorem pre0 {H:Type} (enc:TypeId×Value→H) (os:Os):ChangeSpec.preB enc Tryz.prog Tryz.f4 Rows.mapsStaySpec Rows.mapsStayRow.domain false (World.plainHolding Tryz.prog os in0).memory in0.args 12=true:=by kernel_rfl
theorem size0 {H:Type} (enc:TypeId×Value→H) (os:Os):ChangeSpec.sizedB enc Tryz.prog Tryz.f4 Rows.mapsStaySpec false (World.plainHolding Tryz.prog os in0).memory in0.args 12=true:=by kernel_rfl
theorem witness {H : Type} (enc : TypeId × Value → H) (os : Os) : ∃ (w : World) (tape : Tape) (i : Input), w.os = os ∧ (w.forCall tape i).Shaped Tryz.checked.prog ∧ i.vars = [] ∧ Input.okWide Tryz.checked.prog (w.forCall tape i) .any w.heap.size 4 i ∧
      Rows.mapsStaySpec.pre6 enc Tryz.checked.prog Tryz.f4 Rows.mapsStayRow.domain false (w.forCall tape i).memory i.args ∧ ({ modest := false } : Assume).holds Tryz.checked.prog (lone (Frame.enter Tryz.checked.prog 4 i.args .normal) [] (w.forCall tape i)) :=
  ⟨World.holding Tryz.checked.prog os in0, fun _ _ => 0, ⟨#[], in0.args, []⟩, rfl, World.shaped_of_B (by kernel_rfl) (by kernel_rfl), rfl, okIn _ _, ⟨ChangeSpec.pre_of_preB (pre0 enc os), sizedMet_of_sizedB (size0 enc os)⟩, by
    simp only [Assume.holds]
    exact ⟨by simp, by simp, fun _ => Modest.zero, by simp, by simp⟩⟩
theorem lifted (os:Os) (started:os.Started) (H:Type) (enc:TypeId×Value→H) :
  ReturnsInHanded {} Tryz.checked os 4 .any (Rows.mapsStaySpec.pre6 enc Tryz.prog Tryz.f4 Rows.mapsStayRow.domain false) (Rows.mapsStaySpec.post enc Tryz.prog Tryz.f4 false true false false):=by
 refine returnsInHanded_of_change_sized (C:=Tryz.checked) own started (by kernel_rfl) Tryz.func4
  (witness enc os) ?_
 intro W base args ds gs before hval0 hW hcnd hwt0 _
 have hval:∀ (j:Nat) t v,Tryz.f4.params[j]? = some t→args[j]? = some v→Value.okWide Tryz.prog W .any base t v:=hval0
 have hW':=hW
 obtain ⟨p,q,hA0,hV,rfl,hfz,hnd⟩:=hW
 have hA:DataW.TrodAll enc Tryz.prog W 0 (fun _=>true) true Tryz.f4.params.toList args.toList ds p:=hA0
 have hA1:=hA
 have hwt:∀ w∈DataW.weightsEach Tryz.prog (Tryz.f4.params.toList++Rows.mapsStaySpec.plain.varTypes Tryz.prog) (ds++gs),w≤reachBytes:=fun w hw=>by
  simpa using List.all_eq_true.1 hwt0 w hw
 rw [Tryz.params4] at hA hval hwt
 obtain ⟨v1,v2,d1,d2,p1,p2,hargs,rfl,_,h1,h2⟩:=trodAll_two hA
 subst hargs
 obtain ⟨rfl,rfl⟩:=trodVars_none hV
 clear hA0 hval0 hA hwt0
 simp only [List.append_nil] at hW'
 obtain ⟨ρ1,hp1,n1,u2,A1,le1,nn1,he1,r1,D1⟩:=Ev.open_word Tryz.underlying27 plain27 (hval 1 27 v2 rfl rfl) h2 (fun w hw=>hwt w (DataW.weights_mem_each (j:=1) rfl rfl w hw)) (Ev.Arg.nil W)
 obtain ⟨ρ2,hp2,n2,u1,A2,le2,nn2,he2,r2,D2⟩:=Ev.open_row 6 Tryz.underlying22 plain22 (hval 0 22 v1 rfl rfl) h1 (fun w hw=>hwt w (DataW.weights_mem_each (j:=0) rfl rfl w hw)) A1
 have lt2:∀ b o,hp2.get b=some o→b<n2+1:=fun b o hb=>by have:=A2.lt hb; omega
 obtain ⟨N,_,hO⟩:=Ev.ops_of D2 lt2 (by omega)
 obtain ⟨x,hx⟩:=D1.int_inv Tryz.underlying27
 cases hx
 have hwf:=D1.int_wf Tryz.underlying27
 have hx2:0≤x∧x<18446744073709551616:=by
  simp only [Lit.wf,Bool.and_eq_true,decide_eq_true_eq] at hwf
  have q1:(0:Int)≤x:=hwf.1
  have q2:x≤18446744073709551615:=hwf.2
  omega
 have key:Ev.CallK Ev.CC 4 [u1,.s (.int .u64 x)] hp2 (n2+1) fun v _ _=>v=.s (.bool true):=Ev.mapsStay hO hx2.1 hx2.2 worksK
 refine (Ev.callsBelow (xs:=[v1,v2]) key (.cons r2 (.cons (r1.mono le2) .nil)) A2.rel (A2.fr.le (by omega)) (fun g hg=>by cases hg) A2.ros).mono fun e W' ⟨he,hk⟩=>?_
 subst he
 exact ⟨_,rfl,Ev.post_true laidOut readable rfl Tryz.underlying4 answers4 hW' hA1 rfl hk⟩
theorem over:Rows.mapsStayRow.holds Tryz.pinned (OpenSpec.ofChange Rows.mapsStaySpec):=
 OpenClaim.holds_of_wide 4 Tryz.f4 rfl rfl rfl rfl rfl rfl rfl ⟨rfl,rfl,rfl,rfl,rfl⟩ rfl rfl rfl rfl rfl (by kernel_rfl) Tryz.func4 (by kernel_rfl)
  (of_decide_eq_true (by kernel_rfl)) (by unfold Func.isWrapper; first | (rw [if_pos (by decide +kernel)]; kernel_rfl) | (rw [if_neg (by decide +kernel)]; exact ⟨rfl,rfl⟩))
  (fun os started H enc _=>lifted os started H enc)
theorem proved:Rows.MapsStaySaid:=
 over
#print axioms proved
end Go.Proofs.YtaigdhieijndgaaGreat.mapsStay
