/- HelperCopies: whatever packet, place and numbers it is given it answers true, and leaves the packet as it was: no conditions. -/
import Derived.Test.YtkliejijdjbbkaaGreatHC2
import Derived.Test.YtkliejijdjbbkaaGreatEvZC
import Derived.Test.YtkliejijdjbbkaaGreatRows
import Derived.WalkKit
import Derived.ProofKit
import Derived.OpenShut
namespace Go.Proofs.YtkliejijdjbbkaaGreat.helperCopies
open Go.ChangeShapes Go.WideShapes Go.ChangeAt Go.RowKit
set_option linter.unusedVariables false

theorem own : ownKnob Tryz.prog.godebug = none := by kernel_rfl
theorem laidOut : laidOutB Tryz.prog = true := by kernel_rfl
theorem cells5 : Tryz.prog.cellsOf 5 = 1 := by kernel_rfl
theorem works : Ev.saysTrue (Ev.answers (Ev.Ctx.of Tryz.prog 0) 10) = true := by kernel_rfl
theorem worksK (h : Ev.Heap) (n : Nat) : Ev.CallK Ev.CC 10 [] h n fun v h' n' => v = .s (.bool true) :=
  Ev.CallK.mono' (fun _ _ _ h => h.1) (Ev.closedK Ev.typesFine Ev.namesFine Ev.mixedFine works h n)

theorem readable : ∀ t ∈ Tryz.f3.params.toList, Tryz.prog.readableRec t = true ∧ t < Tryz.prog.types.size := by
  rw [Tryz.params3]
  intro t ht
  simp at ht
  rcases ht with rfl | rfl | rfl | rfl <;> exact ⟨by kernel_rfl, of_decide_eq_true (by kernel_rfl)⟩
theorem answers3 : Tryz.f3.resultTypes = #[4] := by kernel_rfl

set_option maxRecDepth 100000 in
theorem lifted (os : Os) (started : os.Started) (H : Type) (enc : TypeId × Value → H) :
    ReturnsInHanded {} Tryz.checked os 3 .any (Rows.helperCopiesSpec.pre6 enc Tryz.prog Tryz.f3 Rows.helperCopiesRow.domain false) (Rows.helperCopiesSpec.post enc Tryz.prog Tryz.f3 false true false false) := by
  refine returnsInHanded_of_change (C := Tryz.checked) own started (by kernel_rfl) Tryz.func3
    (ChangeSpec.witness6 (enc := enc) (C := Tryz.checked) false ⟨#[], #[.slice none 0 0, .int .u64 0, .int .i64 0, .int .i64 0], []⟩ 8 (by kernel_rfl) (by kernel_rfl) (by kernel_rfl) (by kernel_rfl)) ?_
  intro W base args ds gs before hval0 hW hcnd _
  have hval : ∀ (j : Nat) t v, Tryz.f3.params[j]? = some t → args[j]? = some v → Value.okWide Tryz.prog W .any base t v := hval0
  have hW' := hW
  obtain ⟨p, q, hA0, hV, rfl, hfz, hnd⟩ := hW
  have hA : DataW.TrodAll enc Tryz.prog W 0 (fun _ => true) true Tryz.f3.params.toList args.toList ds p := hA0
  have hA1 := hA
  rw [Tryz.params3] at hA hval
  obtain ⟨v, v2, v3, v4, d, d2, d3, d4, p1, p2, p3, p4, hargs, rfl, rfl, h0, h2, h3, h4⟩ := trodAll_four hA
  subst hargs
  obtain ⟨rfl, rfl⟩ := trodVars_none hV
  clear hA0 hval0 hA
  simp only [List.append_nil] at hW'
  obtain ⟨x2, rfl, a2, b2⟩ := Ev.open_int Tryz.underlying23 (hval 1 23 v2 rfl rfl)
  obtain ⟨x3, rfl, a3, b3⟩ := Ev.open_int Tryz.underlying3 (hval 2 3 v3 rfl rfl)
  obtain ⟨x4, rfl, a4, b4⟩ := Ev.open_int Tryz.underlying3 (hval 3 3 v4 rfl rfl)
  obtain ⟨l, _, ρ, hp, n, u, A, _, hn, _, hu, hl⟩ := Ev.open_nums Tryz.underlying22 Tryz.underlying5 cells5 (hval 0 22 v rfl rfl) h0 (Ev.Arg.nil W)
  have hb : Ev.BytesAt hp 0 u l := by
    rcases hl with ⟨rfl, rfl⟩ | ⟨c, rfl, hlt, hg⟩
    · exact .inl ⟨rfl, rfl, rfl⟩
    · exact .inr ⟨0, c, false, Ev.bytesV' l, 1, rfl, by simp only [Ev.cellsAt, hg]; rfl, by rw [List.drop_zero]; exact List.take_of_length_le (by simp), by simp⟩
  have key : Ev.CallK Ev.CC 3 [u, .s (.int .u64 x2), .s (.int .i64 x3), .s (.int .i64 x4)] hp (n + 1) fun v _ _ => v = .s (.bool true) :=
    Ev.helperCopies ⟨a2, by have : x2 ≤ 18446744073709551615 := b2; omega⟩ ⟨a3, b3⟩ ⟨a4, b4⟩ worksK hb (by omega)
  refine (Ev.callsBelow (xs := [v, .int .u64 x2, .int .i64 x3, .int .i64 x4]) key (.cons hu (.cons (.s _) (.cons (.s _) (.cons (.s _) .nil)))) A.rel (A.fr.le (by omega)) (fun g hg => by cases hg) A.ros).mono fun e W' ⟨he, hk⟩ => ?_
  subst he
  exact ⟨_, rfl, Ev.post_true laidOut readable rfl Tryz.underlying4 answers3 hW' hA1 rfl hk⟩

theorem over : Rows.helperCopiesRow.holds Tryz.pinned (OpenSpec.ofChange Rows.helperCopiesSpec) :=
  OpenClaim.holds_of_wide 3 Tryz.f3 rfl rfl rfl rfl rfl rfl rfl ⟨rfl, rfl, rfl, rfl, rfl⟩ rfl rfl rfl rfl rfl (by kernel_rfl) Tryz.func3 (by kernel_rfl)
    (of_decide_eq_true (by kernel_rfl)) (by unfold Func.isWrapper; first | (rw [if_pos (by decide +kernel)]; kernel_rfl) | (rw [if_neg (by decide +kernel)]; exact ⟨rfl, rfl⟩))
    (fun os started H enc _ => lifted os started H enc)

theorem proved : Rows.HelperCopiesSaid :=
  over
#print axioms proved
end Go.Proofs.YtkliejijdjbbkaaGreat.helperCopies
