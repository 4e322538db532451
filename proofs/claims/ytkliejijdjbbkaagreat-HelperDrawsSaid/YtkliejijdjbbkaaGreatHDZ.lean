/- HelperDraws: whatever draws it is given it answers true, and leaves them as they were: no conditions. -/
import Derived.Test.YtkliejijdjbbkaaGreatHDH
import Derived.Test.YtkliejijdjbbkaaGreatEvZC
import Derived.Test.YtkliejijdjbbkaaGreatRows
import Derived.WalkKit
import Derived.ProofKit
import Derived.OpenShut
namespace Go.Proofs.YtkliejijdjbbkaaGreat.helperDraws
open Go.ChangeShapes Go.WideShapes Go.ChangeAt Go.RowKit
set_option linter.unusedVariables false

theorem own : ownKnob Tryz.prog.godebug = none := by kernel_rfl
theorem laidOut : laidOutB Tryz.prog = true := by kernel_rfl
theorem cells52 : Tryz.prog.cellsOf 52 = 1 := by kernel_rfl
theorem works : Ev.saysTrue (Ev.answers (Ev.Ctx.of Tryz.prog 0) 10) = true := by kernel_rfl
theorem worksK (h : Ev.Heap) (n : Nat) : Ev.CallK Ev.CC 10 [] h n fun v h' n' => v = .s (.bool true) :=
  Ev.CallK.mono' (fun _ _ _ h => h.1) (Ev.closedK Ev.typesFine Ev.namesFine Ev.mixedFine works h n)

theorem readable : ∀ t ∈ Tryz.f4.params.toList, Tryz.prog.readableRec t = true ∧ t < Tryz.prog.types.size := by
  rw [Tryz.params4]
  intro t ht
  simp at ht
  subst ht
  exact ⟨by kernel_rfl, of_decide_eq_true (by kernel_rfl)⟩
theorem answers4 : Tryz.f4.resultTypes = #[4] := by kernel_rfl

set_option maxRecDepth 100000 in
theorem lifted (os : Os) (started : os.Started) (H : Type) (enc : TypeId × Value → H) :
    ReturnsInHanded {} Tryz.checked os 4 .any (Rows.helperDrawsSpec.pre6 enc Tryz.prog Tryz.f4 Rows.helperDrawsRow.domain false) (Rows.helperDrawsSpec.post enc Tryz.prog Tryz.f4 false true false false) := by
  refine returnsInHanded_of_change (C := Tryz.checked) own started (by kernel_rfl) Tryz.func4
    (ChangeSpec.witness6 (enc := enc) (C := Tryz.checked) false ⟨#[], #[.slice none 0 0], []⟩ 8 (by kernel_rfl) (by kernel_rfl) (by kernel_rfl) (by kernel_rfl)) ?_
  intro W base args ds gs before hval0 hW hcnd _
  have hval : ∀ (j : Nat) t v, Tryz.f4.params[j]? = some t → args[j]? = some v → Value.okWide Tryz.prog W .any base t v := hval0
  have hW' := hW
  obtain ⟨p, q, hA0, hV, rfl, hfz, hnd⟩ := hW
  have hA : DataW.TrodAll enc Tryz.prog W 0 (fun _ => true) true Tryz.f4.params.toList args.toList ds p := hA0
  have hA1 := hA
  rw [Tryz.params4] at hA hval
  obtain ⟨v, d, hargs, rfl, h0⟩ := trodAll_one hA
  subst hargs
  obtain ⟨rfl, rfl⟩ := trodVars_none hV
  clear hA0 hval0 hA
  simp only [List.append_nil] at hW'
  obtain ⟨l, _, ρ, hp, n, u, A, _, hn, _, hu, hl⟩ := Ev.open_nums Tryz.underlying26 Tryz.underlying52 cells52 (hval 0 26 v rfl rfl) h0 (Ev.Arg.nil W)
  have key : Ev.CallK Ev.CC 4 [u] hp (n + 1) fun v _ _ => v = .s (.bool true) := by
    rcases hl with ⟨rfl, rfl⟩ | ⟨c, rfl, hlt, hg⟩
    · exact Ev.helperDraws (b := 0) (l := []) worksK (.inl ⟨rfl, rfl⟩) (by omega)
    · exact Ev.helperDraws (b := 0) (l := l) worksK (.inr ⟨c, rfl, hg⟩) (by omega)
  refine (Ev.callsBelow (xs := [v]) key (.cons hu .nil) A.rel (A.fr.le (by omega)) (fun g hg => by cases hg) A.ros).mono fun e W' ⟨he, hk⟩ => ?_
  subst he
  exact ⟨_, rfl, Ev.post_true laidOut readable rfl Tryz.underlying4 answers4 hW' hA1 rfl hk⟩

theorem over : Rows.helperDrawsRow.holds Tryz.pinned (OpenSpec.ofChange Rows.helperDrawsSpec) :=
  OpenClaim.holds_of_wide 4 Tryz.f4 rfl rfl rfl rfl rfl rfl rfl ⟨rfl, rfl, rfl, rfl, rfl⟩ rfl rfl rfl rfl rfl (by kernel_rfl) Tryz.func4 (by kernel_rfl)
    (of_decide_eq_true (by kernel_rfl)) (by unfold Func.isWrapper; first | (rw [if_pos (by decide +kernel)]; kernel_rfl) | (rw [if_neg (by decide +kernel)]; exact ⟨rfl, rfl⟩))
    (fun os started H enc _ => lifted os started H enc)

theorem proved : Rows.HelperDrawsSaid :=
  over
#print axioms proved
end Go.Proofs.YtkliejijdjbbkaaGreat.helperDraws
