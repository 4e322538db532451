/- IrNothing: whatever world, instruction and frame it is given it answers true, and leaves them as they were: no conditions. -/
import Derived.Test.YtkcdhdilifolfaaGreatIQ4
import Derived.Test.YtkcdhdilifolfaaGreatEvZF
import Derived.Test.YtkcdhdilifolfaaGreatRows
import Derived.WalkKit
import Derived.ProofKit
import Derived.OpenShut
import Derived.SizedLaws
namespace Go.Proofs.YtkcdhdilifolfaaGreat.irNothing
open Go.ChangeShapes Go.WideShapes Go.ChangeAt Go.RowKit
set_option linter.unusedVariables false
set_option maxRecDepth 100000

theorem own : ownKnob Tryz.prog.godebug = none := by kernel_rfl
theorem laidOut : laidOutB Tryz.prog = true := by kernel_rfl
theorem works : Ev.saysTrue (Ev.answers (Ev.Ctx.of Tryz.prog 0) 6) = true := by kernel_rfl
theorem worksK (h : Ev.Heap) (n : Nat) : Ev.CallK Ev.CC 6 [] h n fun v h' n' => v = .s (.bool true) :=
  Ev.CallK.mono' (fun _ _ _ h => h.1) (Ev.closedK Ev.typesFine Ev.namesFine Ev.mixedFine works h n)
theorem plain29 : Ev.plainT Tryz.prog 6 29 = true := by kernel_rfl
theorem plain34 : Ev.plainT Tryz.prog 6 34 = true := by kernel_rfl
theorem plain41 : Ev.plainT Tryz.prog 6 41 = true := by kernel_rfl

theorem readable : ∀ t ∈ Tryz.f3.params.toList, Tryz.prog.readableRec t = true ∧ t < Tryz.prog.types.size := by
  rw [Tryz.params3]
  intro t ht
  simp at ht
  rcases ht with rfl | rfl | rfl <;> exact ⟨by kernel_rfl, of_decide_eq_true (by kernel_rfl)⟩
theorem answers3 : Tryz.f3.resultTypes = #[4] := by kernel_rfl

def world0 : Array Value := #[.slice none 0 0, .slice none 0 0, .slice none 0 0, .int .i64 0, .slice none 0 0, .int .i64 0, .int .u64 0, .int .i64 0]
def opn0 : Array Value := #[.int .i64 0, .int .i64 0, .int .i64 0, .int .i64 0, .int .i64 0, .int .i64 0, .int .i64 0, .int .i64 0, .int .i64 0, .int .i64 0, .int .i64 0, .int .i64 0, .int .i64 0, .slice none 0 0, .slice none 0 0]
def val0 : List Value := [.int .i64 0, .int .u64 0, .int .i64 0]
def slot0 : List Value := val0 ++ List.replicate 9 (.int .u8 0)
def frame0 : Array Value := (([.int .i64 0, .int .i64 0, .int .i64 0] : List Value) ++ (List.replicate 11 val0).flatten ++ (List.replicate 64 slot0).flatten).toArray

def okZip (P : Program) (w : World) : List TypeId → List Value → Bool
  | u :: us, v :: vs => Cell.okWideB P w u v && okZip P w us vs
  | [], [] => true
  | _, _ => false
theorem okZip_at {P : Program} {w : World} {base : Nat} : ∀ {ts : List TypeId} {vs : List Value}, okZip P w ts vs = true → ts.length = vs.length ∧ ∀ (i : Nat) (v : Value), vs[i]? = some v → ∃ u, ts[i]? = some u ∧ Cell.okWide P w .any base u v
  | [], [], _ => ⟨rfl, fun i v h => by simp at h⟩
  | u :: us, v :: vs, h => by
    simp only [okZip, Bool.and_eq_true] at h
    obtain ⟨h1, h2⟩ := okZip_at (base := base) h.2
    refine ⟨by simp [h1], fun i x hx => ?_⟩
    cases i with
    | zero => simp at hx; subst hx; exact ⟨u, rfl, Cell.okWide_of_okWideB h.1⟩
    | succ i => simpa using h2 i x (by simpa using hx)
  | [], _ :: _, h => by simp [okZip] at h
  | _ :: _, [], h => by simp [okZip] at h
theorem zipped (w : World) : ((Tryz.prog.cellTypes Tryz.prog.depth 41).map fun ts => okZip Tryz.prog w ts frame0.toList) = some true := by kernel_rfl
theorem size41 : frame0.size = 804 := by kernel_rfl
theorem okFrame (w : World) (base : Nat) : Value.okWide Tryz.prog w .any base 41 (.agg frame0) := by
  unfold Value.okWide
  rw [Tryz.underlying41]
  refine ⟨frame0, rfl, by rw [size41, Ev.kc41], ?_⟩
  have hz := zipped w
  cases hc : Tryz.prog.cellTypes Tryz.prog.depth 41 with
  | none => rw [hc] at hz; cases hz
  | some ts =>
    rw [hc] at hz
    simp only [Option.map_some, Option.some.injEq] at hz
    obtain ⟨h1, h2⟩ := okZip_at (base := base) hz
    have hs : frame0.size = ts.length := by rw [h1, Array.length_toList]
    refine ⟨ts, hc, ⟨1, by omega⟩, fun i v hv => ?_⟩
    have hi : i < frame0.size := (Array.getElem?_eq_some_iff.1 hv).1
    rw [Nat.mod_eq_of_lt (by omega)]
    exact h2 i v (by rw [Array.getElem?_toList]; exact hv)
theorem okWorld (w : World) (base : Nat) : Value.okWide Tryz.prog w .any base 29 (.agg world0) := Value.okWide_of_okWideB (by kernel_rfl)
theorem okOpn (w : World) (base : Nat) : Value.okWide Tryz.prog w .any base 34 (.agg opn0) := Value.okWide_of_okWideB (by kernel_rfl)
def in0 : Input := ⟨#[], #[.agg world0, .agg opn0, .agg frame0], []⟩
theorem okIn (w : World) (base : Nat) : Input.okWide Tryz.prog w .any base 3 in0 := by
  refine ⟨by intro o ho; simp [in0] at ho, by intro o ho; simp [in0] at ho, by kernel_rfl, Tryz.f3, Tryz.func3, by kernel_rfl, by kernel_rfl, by kernel_rfl, by kernel_rfl, fun j t v hj hv => ?_⟩
  rw [show Tryz.f3.params = #[29, 34, 41] from by kernel_rfl] at hj
  unfold in0 at hv
  match j, hj, hv with
  | 0, hj, hv => cases hj; cases hv; exact okWorld w base
  | 1, hj, hv => cases hj; cases hv; exact okOpn w base
  | 2, hj, hv => cases hj; cases hv; exact okFrame w base
  | j + 3, hj, hv => simp at hj
theorem pre0 {H : Type} (enc : TypeId × Value → H) (os : Os) : ChangeSpec.preB enc Tryz.prog Tryz.f3 Rows.irNothingSpec Rows.irNothingRow.domain false (World.plainHolding Tryz.prog os in0).memory in0.args 12 = true := by kernel_rfl
theorem size0 {H : Type} (enc : TypeId × Value → H) (os : Os) : ChangeSpec.sizedB enc Tryz.prog Tryz.f3 Rows.irNothingSpec false (World.plainHolding Tryz.prog os in0).memory in0.args 12 = true := by kernel_rfl
theorem witness {H : Type} (enc : TypeId × Value → H) (os : Os) : ∃ (w : World) (tape : Tape) (i : Input), w.os = os ∧ (w.forCall tape i).Shaped Tryz.checked.prog ∧ i.vars = [] ∧ Input.okWide Tryz.checked.prog (w.forCall tape i) .any w.heap.size 3 i ∧
      Rows.irNothingSpec.pre6 enc Tryz.checked.prog Tryz.f3 Rows.irNothingRow.domain false (w.forCall tape i).memory i.args ∧ ({ modest := false } : Assume).holds Tryz.checked.prog (lone (Frame.enter Tryz.checked.prog 3 i.args .normal) [] (w.forCall tape i)) :=
  ⟨World.holding Tryz.checked.prog os in0, fun _ _ => 0, ⟨#[], in0.args, []⟩, rfl, World.shaped_of_B (by kernel_rfl) (by kernel_rfl), rfl, okIn _ _, ⟨ChangeSpec.pre_of_preB (pre0 enc os), sizedMet_of_sizedB (size0 enc os)⟩, by
    simp only [Assume.holds]
    exact ⟨by simp, by simp, fun _ => Modest.zero, by simp, by simp⟩⟩

theorem lifted (os : Os) (started : os.Started) (H : Type) (enc : TypeId × Value → H) :
    ReturnsInHanded {} Tryz.checked os 3 .any (Rows.irNothingSpec.pre6 enc Tryz.prog Tryz.f3 Rows.irNothingRow.domain false) (Rows.irNothingSpec.post enc Tryz.prog Tryz.f3 false true false false) := by
  refine returnsInHanded_of_change_sized (C := Tryz.checked) own started (by kernel_rfl) Tryz.func3
    (witness enc os) ?_
  intro W base args ds gs before hval0 hW hcnd hwt0 _
  have hval : ∀ (j : Nat) t v, Tryz.f3.params[j]? = some t → args[j]? = some v → Value.okWide Tryz.prog W .any base t v := hval0
  have hW' := hW
  obtain ⟨p, q, hA0, hV, rfl, hfz, hnd⟩ := hW
  have hA : DataW.TrodAll enc Tryz.prog W 0 (fun _ => true) true Tryz.f3.params.toList args.toList ds p := hA0
  have hA1 := hA
  have hwt : ∀ w ∈ DataW.weightsEach Tryz.prog (Tryz.f3.params.toList ++ Rows.irNothingSpec.plain.varTypes Tryz.prog) (ds ++ gs), w ≤ reachBytes := fun w hw => by
    simpa using List.all_eq_true.1 hwt0 w hw
  rw [Tryz.params3] at hA hval hwt
  obtain ⟨v, v2, v3, d, d2, d3, p1, p2, p3, hargs, rfl, rfl, h0, h2, h3⟩ := trodAll_three hA
  subst hargs
  obtain ⟨rfl, rfl⟩ := trodVars_none hV
  clear hA0 hval0 hA hwt0
  simp only [List.append_nil] at hW'
  obtain ⟨ρ1, hp1, n1, us1, A1, le1, nn1, he1, r1, D1⟩ := Ev.open_agg 6 Tryz.underlying29 plain29 (hval 0 29 v rfl rfl) h0 (fun w hw => hwt w (DataW.weights_mem_each (j := 0) rfl rfl w hw)) (Ev.Arg.nil W)
  obtain ⟨ρ2, hp2, n2, us2, A2, le2, nn2, he2, r2, D2⟩ := Ev.open_agg 6 Tryz.underlying34 plain34 (hval 1 34 v2 rfl rfl) h2 (fun w hw => hwt w (DataW.weights_mem_each (j := 1) rfl rfl w hw)) A1
  obtain ⟨ρ3, hp3, n3, us3, A3, le3, nn3, he3, r3, D3⟩ := Ev.open_agg 6 Tryz.underlying41 plain41 (hval 2 41 v3 rfl rfl) h3 (fun w hw => hwt w (DataW.weights_mem_each (j := 2) rfl rfl w hw)) A2
  have Dw := (D1.of (A1.sub he2)).of (A2.sub he3)
  have lt3 : ∀ b o, hp3.get b = some o → b < n3 + 1 := fun b o hb => by have := A3.lt hb; omega
  obtain ⟨mv, pv, dv, st, tails, k, w, id, rfl, Dm, Dp, Dd, Ds⟩ := Ev.world_of Dw
  obtain ⟨hl2, kind, hk2⟩ := Ev.opn_of D2
  obtain ⟨hl3, hi3⟩ := Ev.frame_of D3
  obtain ⟨MN, hMN, hO⟩ := Ev.ops_of Dm lt3 (by omega)
  obtain ⟨DN, hDN, hD⟩ := Ev.draws_of Dd lt3
  obtain ⟨pb, pl, pn, hP, _⟩ := Ev.bytes_of Dp lt3 (by omega)
  obtain ⟨sb, sl, sn, hS, _⟩ := Ev.bytes_of Ds lt3 (by omega)
  have key : Ev.CallK Ev.CC 3 [.agg (.lst (Ev.worldL mv pv dv st tails k w id)), .agg (.lst us2), .agg (.lst us3)] hp3 (n3 + 1) fun v _ _ => v = .s (.bool true) :=
    Ev.irNothing (by omega) hO hMN hD hDN hP pn hS sn hl2 hk2 hl3 hi3 worksK
  refine (Ev.callsBelow (xs := [v, v2, v3]) key (.cons ((r1.mono le2).mono le3) (.cons (r2.mono le3) (.cons r3 .nil))) A3.rel (A3.fr.le (by omega)) (fun g hg => by cases hg) A3.ros).mono fun e W' ⟨he, hk⟩ => ?_
  subst he
  exact ⟨_, rfl, Ev.post_true laidOut readable rfl Tryz.underlying4 answers3 hW' hA1 rfl hk⟩

theorem over : Rows.irNothingRow.holds Tryz.pinned (OpenSpec.ofChange Rows.irNothingSpec) :=
  OpenClaim.holds_of_wide 3 Tryz.f3 rfl rfl rfl rfl rfl rfl rfl ⟨rfl, rfl, rfl, rfl, rfl⟩ rfl rfl rfl rfl rfl (by kernel_rfl) Tryz.func3 (by kernel_rfl)
    (of_decide_eq_true (by kernel_rfl)) (by unfold Func.isWrapper; first | (rw [if_pos (by decide +kernel)]; kernel_rfl) | (rw [if_neg (by decide +kernel)]; exact ⟨rfl, rfl⟩))
    (fun os started H enc _ => lifted os started H enc)

theorem proved : Rows.IrNothingSaid :=
  over
#print axioms proved
end Go.Proofs.YtkcdhdilifolfaaGreat.irNothing
