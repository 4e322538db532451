/- InterpMakes: whatever instructions it is given it answers true, and leaves them as they were: no conditions. -/
import Derived.Test.YthmhagelflolfaaGreatIM3
import Derived.Test.YthmhagelflolfaaGreatEvZE
import Derived.Test.YthmhagelflolfaaGreatRows
import Derived.WalkKit
import Derived.ProofKit
import Derived.OpenShut
namespace Go.Proofs.YthmhagelflolfaaGreat.interpMakes
open Go.ChangeShapes Go.WideShapes Go.ChangeAt Go.RowKit
set_option linter.unusedVariables false

theorem own : ownKnob Tryz.prog.godebug = none := by kernel_rfl
theorem laidOut : laidOutB Tryz.prog = true := by kernel_rfl
theorem cells54 : Tryz.prog.cellsOf 54 = 5 := by kernel_rfl
theorem cells3 : Tryz.prog.cellsOf 3 = 1 := by kernel_rfl
theorem works : Ev.saysTrue (Ev.answers (Ev.Ctx.of Tryz.prog 0) 4) = true := by kernel_rfl
theorem worksK (h : Ev.Heap) (n : Nat) : Ev.CallK Ev.CC 4 [] h n fun v h' n' => v = .s (.bool true) :=
  Ev.CallK.mono' (fun _ _ _ h => h.1) (Ev.closedK Ev.typesFine Ev.namesFine Ev.mixedFine works h n)

theorem readable : ∀ t ∈ Tryz.f3.params.toList, Tryz.prog.readableRec t = true ∧ t < Tryz.prog.types.size := by
  rw [Tryz.params3]
  intro t ht
  simp at ht
  subst ht
  exact ⟨by kernel_rfl, of_decide_eq_true (by kernel_rfl)⟩
theorem answers3 : Tryz.f3.resultTypes = #[4] := by kernel_rfl

theorem words {H : Type} {enc : TypeId × Value → H} {W : World} : ∀ n cs x, DataW.trod enc Tryz.prog W 0 (fun _ => true) true n 54 cs = some x → ∃ is : List Int, is.length = 5 ∧ cs = is.map (Value.int .i64) ∧ ∀ y ∈ is, (Lit.int .i64 y).wf = true := by
  intro n cs x h
  refine Ev.words_of Tryz.underlying54 cells54 ?_ h
  intro i f hf
  have hi : i < 5 := (Array.getElem?_eq_some_iff.1 hf).1
  have : i = 0 ∨ i = 1 ∨ i = 2 ∨ i = 3 ∨ i = 4 := by omega
  rcases this with rfl | rfl | rfl | rfl | rfl <;> · cases hf; exact ⟨rfl, Tryz.underlying3, cells3⟩
def ofL (x : List Int) : Ev.Insn := ⟨x.getD 0 0, x.getD 1 0, x.getD 2 0, x.getD 3 0, x.getD 4 0⟩
theorem flatOf : ∀ l : List (List Int), (∀ x ∈ l, x.length = 5) → (l.flatten.map fun x => Ev.V.s (.int .i64 x)) = Ev.flat Ev.Insn.l (l.map ofL)
  | [], _ => rfl
  | x :: l, h => by
    rw [List.flatten_cons, List.map_append, flatOf l (fun y hy => h y (by simp [hy])), List.map_cons, Ev.flat_cons]
    have h5 := h x (by simp)
    match x, h5 with
    | [a, b, c, d, e], _ => rfl
set_option maxRecDepth 100000 in
theorem lifted (os : Os) (started : os.Started) (H : Type) (enc : TypeId × Value → H) :
    ReturnsInHanded {} Tryz.checked os 3 .any (Rows.interpMakesSpec.pre6 enc Tryz.prog Tryz.f3 Rows.interpMakesRow.domain false) (Rows.interpMakesSpec.post enc Tryz.prog Tryz.f3 false true false false) := by
  refine returnsInHanded_of_change (C := Tryz.checked) own started (by kernel_rfl) Tryz.func3
    (ChangeSpec.witness6 (enc := enc) (C := Tryz.checked) false ⟨#[], #[.slice none 0 0], []⟩ 8 (by kernel_rfl) (by kernel_rfl) (by kernel_rfl) (by kernel_rfl)) ?_
  intro W base args ds gs before hval0 hW hcnd _
  have hval : ∀ (j : Nat) t v, Tryz.f3.params[j]? = some t → args[j]? = some v → Value.okWide Tryz.prog W .any base t v := hval0
  have hW' := hW
  obtain ⟨p, q, hA0, hV, rfl, hfz, hnd⟩ := hW
  have hA : DataW.TrodAll enc Tryz.prog W 0 (fun _ => true) true Tryz.f3.params.toList args.toList ds p := hA0
  have hA1 := hA
  rw [Tryz.params3] at hA hval
  obtain ⟨v, d, hargs, rfl, h0⟩ := trodAll_one hA
  subst hargs
  obtain ⟨rfl, rfl⟩ := trodVars_none hV
  clear hA0 hval0 hA
  simp only [List.append_nil] at hW'
  obtain ⟨l, hl5, ρ, hp, n, u, A, _, hn, _, hu, hl⟩ := Ev.open_words Tryz.underlying22 cells54 (by decide) words (hval 0 22 v rfl rfl) h0 (Ev.Arg.nil W)
  have hb : Ev.InsnsAt hp 0 u (l.map ofL) := by
    rcases hl with ⟨rfl, rfl⟩ | ⟨c, rfl, hlt, hg⟩
    · exact .inl ⟨rfl, rfl, rfl⟩
    · refine .inr ⟨0, c, false, Ev.flat Ev.Insn.l (l.map ofL), 5, by simp, ?_, ?_, Ev.flatI_length _⟩
      · rw [← flatOf l (fun x hx => (hl5 x hx).1)]
        simp only [Ev.cellsAt, hg]
      · rw [List.drop_zero]
        exact List.take_of_length_le (by rw [Ev.flatI_length]; exact Nat.le_refl _)
  have key : Ev.CallK Ev.CC 3 [u] hp (n + 1) fun v _ _ => v = .s (.bool true) := Ev.interpMakes worksK hb (by omega)
  refine (Ev.callsBelow (xs := [v]) key (.cons hu .nil) A.rel (A.fr.le (by omega)) (fun g hg => by cases hg) A.ros).mono fun e W' ⟨he, hk⟩ => ?_
  subst he
  exact ⟨_, rfl, Ev.post_true laidOut readable rfl Tryz.underlying4 answers3 hW' hA1 rfl hk⟩

theorem over : Rows.interpMakesRow.holds Tryz.pinned (OpenSpec.ofChange Rows.interpMakesSpec) :=
  OpenClaim.holds_of_wide 3 Tryz.f3 rfl rfl rfl rfl rfl rfl rfl ⟨rfl, rfl, rfl, rfl, rfl⟩ rfl rfl rfl rfl rfl (by kernel_rfl) Tryz.func3 (by kernel_rfl)
    (of_decide_eq_true (by kernel_rfl)) (by unfold Func.isWrapper; first | (rw [if_pos (by decide +kernel)]; kernel_rfl) | (rw [if_neg (by decide +kernel)]; exact ⟨rfl, rfl⟩))
    (fun os started H enc _ => lifted os started H enc)

theorem proved : Rows.InterpMakesSaid :=
  over
#print axioms proved
end Go.Proofs.YthmhagelflolfaaGreat.interpMakes
