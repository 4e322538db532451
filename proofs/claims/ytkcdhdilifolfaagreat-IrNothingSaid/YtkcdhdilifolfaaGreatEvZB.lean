/- A closed call: what its evaluation answers the program answers. -/
import Derived.Test.YtkcdhdilifolfaaGreatEvZA
import Derived.Below
import Derived.ProofKit
import Derived.OpenShut
import Derived.ChangeSame
namespace Go.Ev
open Go.ChangeShapes Go.WideShapes Go.ChangeAt Go.RowKit

theorem Evo.below {ρ ρ' : Ren} {h' : Heap} {n n' : Nat} {w w' : World} (e : Evo ρ .leaf n w ρ' h' n' w') : Below w.heap.size w w' :=
  ⟨e.side.os, e.side.tape, e.side.output, e.size, fun k hk => e.frame k hk fun b o x h => by simp [Tree.get] at h⟩

/-- The function is called with nothing: its answer, and memory that was there is as it was. -/
theorem closed {P : Program} (hf : typesOk (Ctx.of P 0) = true) (hn : namesOk P = true) (hmix : P.follows .mixedOrders = true) {f : FuncId} {x : Value} {n : Nat}
    (h : answers (Ctx.of P 0) f = some (.s x, n)) (w : World) : Calls P f #[] w fun e w' => e = .returned x ∧ Below w.heap.size w w' := by
  have hC := Ctx.of_ok P 0 hf hn
  unfold answers at h
  replace h := of_bind h
  obtain ⟨r, h1, h⟩ := h
  have hs := (sound hC hmix 1000000000).call f [] .leaf 0 r h1
  have hρ : Fr (fun _ => none) 0 := fun _ _ => rfl
  obtain ⟨_, k⟩ := hs (fun _ => none) w [] .nil (HRel.leaf _ w) hρ (fun g hg => by simp [Ctx.of] at hg)
  have k0 := callsIn_wide.1 (k 0)
  refine k0.mono ?_
  rintro e w' ⟨ρ', y, rfl, ev, hy⟩
  have e1 : r.1 = .s x := by simpa using congrArg (Option.map (·.1)) h
  rw [e1] at hy
  cases hy
  exact ⟨rfl, ev.below⟩

/-- Is it answered true? -/
def saysTrue : Option (V × Nat) → Bool
  | some (.s (.bool b), _) => b
  | _ => false

/-- A closed law: where its evaluation says true the program does. -/
theorem closedTrue {P : Program} (hf : typesOk (Ctx.of P 0) = true) (hn : namesOk P = true) (hmix : P.follows .mixedOrders = true) {f : FuncId}
    (h : saysTrue (answers (Ctx.of P 0) f) = true) (w : World) : Calls P f #[] w fun e w' => e = .returned (.bool true) ∧ Below w.heap.size w w' := by
  cases ha : answers (Ctx.of P 0) f with
  | none => rw [ha] at h; simp [saysTrue] at h
  | some r =>
    obtain ⟨v, n⟩ := r
    rw [ha] at h
    unfold saysTrue at h
    split at h
    · rename_i b m e
      cases e
      subst h
      exact closed hf hn hmix ha w
    · cases h

/-- Of a law that has no arguments and leaves what was there: all that its row asks behind the call. -/
theorem post_closed {H : Type} {enc : TypeId × Value → H} {P : Program} {f : Func} {s : ChangeSpec} {apart fresh handsOn again : Bool} {W W' : World} {v : Value}
    (hW : DataW.Whole enc P f.params.toList s.vars apart W (#[] : Array Value).toList [] [] [])
    (hres : ∀ (b : Nat) (sp : Nat → Bool) (hd : Bool), DataW.TrodAll enc P W' b sp hd f.resultTypes.toList (v.resultList f.resultTypes.size) (s.fn H ([] ++ [])).results [])
    (hargs : ∀ sp : Nat → Bool, DataW.TrodAll enc P W' 0 sp true f.params.toList (#[] : Array Value).toList (s.fn H ([] ++ [])).args [])
    (hvars : ∀ sp : Nat → Bool, DataW.TrodVars enc P W' sp s.vars (s.fn H ([] ++ [])).vars [])
    (hk : Below W.heap.size W W')
    (hok : ∀ (j : Nat) (t : TypeId) (r : Value), f.resultTypes[j]? = some t → (v.resultList f.resultTypes.size)[j]? = some r → Value.okWide P W' .any 0 t r) :
    s.post enc P f apart fresh handsOn again W #[] v W' := by
  refine ⟨[], [], [], [], [], [], hW, hres _ _ _, hargs _, hvars _, hk.frame _, fun _ => ?_⟩
  refine ⟨hok, _, _, [], ⟨[], [], trodAll_append (hargs _) (hres _ _ _), hvars _, rfl, fun b off h => (by cases h), fun _ => List.nodup_nil⟩, fun p h => (by cases h)⟩

end Go.Ev
