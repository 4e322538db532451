import Derived.Test.YtaigdhieijndgaaGreatMQ27
import Derived.Test.YtaigdhieijndgaaGreatEQ14
import Derived.Test.YtaigdhieijndgaaGreatRows
import Derived.WalkKit
import Derived.ProofKit
import Derived.OpenShut
import Derived.SizedLaws
namespace Go.Proofs.YtaigdhieijndgaaGreat.mapsHolds
open Go.ChangeShapes Go.WideShapes Go.ChangeAt Go.RowKit
set_option linter.unusedVariables false
set_option maxRecDepth 100000
theorem own:ownKnob Tryz.prog.godebug=none:=by kernel_rfl
theorem laidOut:laidOutB Tryz.prog=true:=by kernel_rfl
theorem works:Ev.saysTrue (Ev.answers (Ev.Ctx.of Tryz.prog 0) 11)=true:=by kernel_rfl
theorem worksK (h:Ev.Heap) (n:Nat):Ev.CallK Ev.CC 11 [] h n fun v h' n'=>v=.s (.bool true):=
 Ev.CallK.mono' (fun _ _ _ h=>h.1) (Ev.closedK Ev.typesFine Ev.namesFine Ev.mixedFine works h n)
theorem plain22:Ev.plainT Tryz.prog 6 22=true:=by kernel_rfl
theorem readable:∀ t∈Tryz.f3.params.toList,Tryz.prog.readableRec t=true∧t<Tryz.prog.types.size:=by
 rw [Tryz.params3]
 intro t ht
 simp at ht
 subst ht
 exact ⟨by kernel_rfl,of_decide_eq_true (by kernel_rfl)⟩
theorem answers3:Tryz.f3.resultTypes=#[4]:=by kernel_rfl
theorem okNil (w:World) (base:Nat):Value.okWide Tryz.prog w .any base 22 (.slice none 0 0):=Value.okWide_of_okWideB (by kernel_rfl)
def in0:Input:=⟨#[],#[.slice none 0 0],[]⟩
theorem okIn (w:World) (base:Nat):Input.okWide Tryz.prog w .any base 3 in0:=by
 refine ⟨by intro o ho; simp [in0] at ho,by intro o ho; simp [in0] at ho,by kernel_rfl,Tryz.f3,Tryz.func3,by kernel_rfl,by kernel_rfl,by kernel_rfl,by kernel_rfl,fun j t v hj hv=>?_⟩
 rw [show Tryz.f3.params=#[22] from by kernel_rfl] at hj
 unfold in0 at hv
 match j,hj,hv with
 | 0,hj,hv=>cases hj; cases hv; exact okNil w base
 | j+1,hj,hv=>simp at hj
theorem pre0 {H:Type} (enc:TypeId×Value→H) (os:Os):ChangeSpec.preB enc Tryz.prog Tryz.f3 Rows.mapsHoldsSpec Rows.mapsHoldsRow.domain false (World.plainHolding Tryz.prog os in0).memory in0.args 12=true:=by kernel_rfl
theorem size0 {H:Type} (enc:TypeId×Value→H) (os:Os):ChangeSpec.sizedB enc Tryz.prog Tryz.f3 Rows.mapsHoldsSpec false (World.plainHolding Tryz.prog os in0).memory in0.args 12=true:=by kernel_rfl
theorem witness {H : Type} (enc : TypeId × Value → H) (os : Os) : ∃ (w : World) (tape : Tape) (i : Input), w.os = os ∧ (w.forCall tape i).Shaped Tryz.checked.prog ∧ i.vars = [] ∧ Input.okWide Tryz.checked.prog (w.forCall tape i) .any w.heap.size 3 i ∧
      Rows.mapsHoldsSpec.pre6 enc Tryz.checked.prog Tryz.f3 Rows.mapsHoldsRow.domain false (w.forCall tape i).memory i.args ∧ ({ modest := false } : Assume).holds Tryz.checked.prog (lone (Frame.enter Tryz.checked.prog 3 i.args .normal) [] (w.forCall tape i)) :=
  ⟨World.holding Tryz.checked.prog os in0, fun _ _ => 0, ⟨#[], in0.args, []⟩, rfl, World.shaped_of_B (by kernel_rfl) (by kernel_rfl), rfl, okIn _ _, ⟨ChangeSpec.pre_of_preB (pre0 enc os), sizedMet_of_sizedB (size0 enc os)⟩, by
    simp only [Assume.holds]
    exact ⟨by simp, by simp, fun _ => Modest.zero, by simp, by simp⟩⟩
theorem lifted (os:Os) (started:os.Started) (H:Type) (enc:TypeId×Value→H) :
  ReturnsInHanded {} Tryz.checked os 3 .any (Rows.mapsHoldsSpec.pre6 enc Tryz.prog Tryz.f3 Rows.mapsHoldsRow.domain false) (Rows.mapsHoldsSpec.post enc Tryz.prog Tryz.f3 false true false false):=by
 refine returnsInHanded_of_change_sized (C:=Tryz.checked) own started (by kernel_rfl) Tryz.func3
  (witness enc os) ?_
 intro W base args ds gs before hval0 hW hcnd hwt0 _
 have hval:∀ (j:Nat) t v,Tryz.f3.params[j]? = some t→args[j]? = some v→Value.okWide Tryz.prog W .any base t v:=hval0
 have hW':=hW
 obtain ⟨p,q,hA0,hV,rfl,hfz,hnd⟩:=hW
 have hA:DataW.TrodAll enc Tryz.prog W 0 (fun _=>true) true Tryz.f3.params.toList args.toList ds p:=hA0
 have hA1:=hA
 have hwt:∀ w∈DataW.weightsEach Tryz.prog (Tryz.f3.params.toList++Rows.mapsHoldsSpec.plain.varTypes Tryz.prog) (ds++gs),w≤reachBytes:=fun w hw=>by
  simpa using List.all_eq_true.1 hwt0 w hw
 rw [Tryz.params3] at hA hval hwt
 obtain ⟨v,d,hargs,rfl,h0⟩:=trodAll_one hA
 subst hargs
 obtain ⟨rfl,rfl⟩:=trodVars_none hV
 clear hA0 hval0 hA hwt0
 simp only [List.append_nil] at hW'
 obtain ⟨ρ1,hp1,n1,u1,A1,le1,nn1,he1,r1,D1⟩:=Ev.open_row 6 Tryz.underlying22 plain22 (hval 0 22 v rfl rfl) h0 (fun w hw=>hwt w (DataW.weights_mem_each (j:=0) rfl rfl w hw)) (Ev.Arg.nil W)
 have lt1:∀ b o,hp1.get b=some o→b<n1+1:=fun b o hb=>by have:=A1.lt hb; omega
 obtain ⟨N,_,hO⟩:=Ev.ops_of D1 lt1 (by omega)
 have key:Ev.CallK Ev.CC 3 [u1] hp1 (n1+1) fun v _ _=>v=.s (.bool true):=Ev.mapsHolds hO worksK
 refine (Ev.callsBelow (xs:=[v]) key (.cons r1 .nil) A1.rel (A1.fr.le (by omega)) (fun g hg=>by cases hg) A1.ros).mono fun e W' ⟨he,hk⟩=>?_
 subst he
 exact ⟨_,rfl,Ev.post_true laidOut readable rfl Tryz.underlying4 answers3 hW' hA1 rfl hk⟩
theorem over:Rows.mapsHoldsRow.holds Tryz.pinned (OpenSpec.ofChange Rows.mapsHoldsSpec):=
 OpenClaim.holds_of_wide 3 Tryz.f3 rfl rfl rfl rfl rfl rfl rfl ⟨rfl,rfl,rfl,rfl,rfl⟩ rfl rfl rfl rfl rfl (by kernel_rfl) Tryz.func3 (by kernel_rfl)
  (of_decide_eq_true (by kernel_rfl)) (by unfold Func.isWrapper; first | (rw [if_pos (by decide +kernel)]; kernel_rfl) | (rw [if_neg (by decide +kernel)]; exact ⟨rfl,rfl⟩))
  (fun os started H enc _=>lifted os started H enc)
theorem proved:Rows.MapsHoldsSaid:=
 over
#print axioms proved
end Go.Proofs.YtaigdhieijndgaaGreat.mapsHolds
