/-
  No cell of these rows narrows 'for every input' (looked for: loops, veiled, ifaces, maps, wideKeys, modest, calm, conditions, laid).
  DERIVED. THE GIVEN ROWS OF THIS SEAT. 5 by the template 'for every input the law returns true; each argument reads behind the call as it read before'; 0 by the template 'total and deterministic' (their statements: YtkliejijdjbbkaaGreatTotals.lean).
  GIVEN WITH THE SEED: the statements are not yours to turn. If you find one false, say at which input.
  Laid BY PROGRAM, IN A SANDBOX (cutbox-rows.mjs): the forced cells as the released guide's own fill.sh prints them over the translation 7ed21725db9d57bf… (all of the seat's roots in one cut). By AI agents, Wed Nov 11 2026. No macro, syntax, notation, axiom, sorry.
-/
import Derived.Test.YtkliejijdjbbkaaGreatChecked
import GoSem.Claim
import GoSem.ClaimJoined
import GoSem.ClaimMapViews
import Derived.JoinedTies
import Derived.KernelRfl
namespace Go.Proofs.YtkliejijdjbbkaaGreat
/- THE CELL 'sum', in the pinned program and in every row, IS THE sha256 OF THE DUMP (.gsa) THAT YtkliejijdjbbkaaGreatProg.lean LOADS. Nothing in Lean hashes anything: it is a label: what it is worth is what the hold of that sum in a sandbox is worth. -/
noncomputable def Tryz.pinned : Pinned := { name := "ytkliejijdjbbkaagreat", sum := "7ed21725db9d57bf130e62f58b41839079fbf32c5b98de134f10513057ad27d2", checked := Tryz.checked }
namespace Rows
def none {H : Type} : Left H := { results := [], args := [] }

/-- 'lockgatelaw16.HelperCopies': WHATEVER THE INPUT: true; the input reads as it did. -/
def helperCopiesSpec : ChangeSpec := { name := "helperCopies", fn := fun _ => fun
  | [d1, d2, d3, d4] => { results := [.lit (.bool true)], args := [d1, d2, d3, d4] }
  | _ => none }
def helperCopiesRow : OpenClaim := { program := "ytkliejijdjbbkaagreat", sum := "7ed21725db9d57bf130e62f58b41839079fbf32c5b98de134f10513057ad27d2", func := "lockgate/lockgatelaw16.HelperCopies", spec := "helperCopies", unfollowed := true, recurses := true, apart := false }
def HelperCopiesSaid : Prop := helperCopiesRow.holds Tryz.pinned (OpenSpec.ofChange helperCopiesSpec)

/-- ITS FALSE NEIGHBOUR: 'it returns false'. Refute it at one input. -/
def helperCopiesWrong : ChangeSpec := { name := "helperCopies", fn := fun _ => fun
  | [d1, d2, d3, d4] => { results := [.lit (.bool false)], args := [d1, d2, d3, d4] }
  | _ => none }
def HelperCopiesWrongFalsely : Prop := helperCopiesRow.holds Tryz.pinned (OpenSpec.ofChange helperCopiesWrong)

/-- 'lockgatelaw16.HelperDraws': WHATEVER THE INPUT: true; the input reads as it did. -/
def helperDrawsSpec : ChangeSpec := { name := "helperDraws", fn := fun _ => fun
  | [d] => { results := [.lit (.bool true)], args := [d] }
  | _ => none }
def helperDrawsRow : OpenClaim := { program := "ytkliejijdjbbkaagreat", sum := "7ed21725db9d57bf130e62f58b41839079fbf32c5b98de134f10513057ad27d2", func := "lockgate/lockgatelaw16.HelperDraws", spec := "helperDraws", unfollowed := true, recurses := true, apart := false }
def HelperDrawsSaid : Prop := helperDrawsRow.holds Tryz.pinned (OpenSpec.ofChange helperDrawsSpec)

/-- ITS FALSE NEIGHBOUR: 'it returns false'. Refute it at one input. -/
def helperDrawsWrong : ChangeSpec := { name := "helperDraws", fn := fun _ => fun
  | [d] => { results := [.lit (.bool false)], args := [d] }
  | _ => none }
def HelperDrawsWrongFalsely : Prop := helperDrawsRow.holds Tryz.pinned (OpenSpec.ofChange helperDrawsWrong)

/-- 'lockgatelaw12.MapsHolds': WHATEVER THE INPUT: true; the input reads as it did. -/
def mapsHoldsSpec : ChangeSpec := { name := "mapsHolds", fn := fun _ => fun
  | [d] => { results := [.lit (.bool true)], args := [d] }
  | _ => none }
def mapsHoldsRow : OpenClaim := { program := "ytkliejijdjbbkaagreat", sum := "7ed21725db9d57bf130e62f58b41839079fbf32c5b98de134f10513057ad27d2", func := "lockgate/lockgatelaw12.MapsHolds", spec := "mapsHolds", inPlace := ["internal/bytealg.Compare"], unfollowed := true, recurses := true, apart := false }
def MapsHoldsSaid : Prop := mapsHoldsRow.holds Tryz.pinned (OpenSpec.ofChange mapsHoldsSpec)

/-- ITS FALSE NEIGHBOUR: 'it returns false'. Refute it at one input. -/
def mapsHoldsWrong : ChangeSpec := { name := "mapsHolds", fn := fun _ => fun
  | [d] => { results := [.lit (.bool false)], args := [d] }
  | _ => none }
def MapsHoldsWrongFalsely : Prop := mapsHoldsRow.holds Tryz.pinned (OpenSpec.ofChange mapsHoldsWrong)

/-- 'lockgatelaw12.MapsStay': WHATEVER THE INPUT: true; the input reads as it did. -/
def mapsStaySpec : ChangeSpec := { name := "mapsStay", fn := fun _ => fun
  | [d1, d2] => { results := [.lit (.bool true)], args := [d1, d2] }
  | _ => none }
def mapsStayRow : OpenClaim := { program := "ytkliejijdjbbkaagreat", sum := "7ed21725db9d57bf130e62f58b41839079fbf32c5b98de134f10513057ad27d2", func := "lockgate/lockgatelaw12.MapsStay", spec := "mapsStay", inPlace := ["internal/bytealg.Compare"], unfollowed := true, recurses := true, apart := false }
def MapsStaySaid : Prop := mapsStayRow.holds Tryz.pinned (OpenSpec.ofChange mapsStaySpec)

/-- ITS FALSE NEIGHBOUR: 'it returns false'. Refute it at one input. -/
def mapsStayWrong : ChangeSpec := { name := "mapsStay", fn := fun _ => fun
  | [d1, d2] => { results := [.lit (.bool false)], args := [d1, d2] }
  | _ => none }
def MapsStayWrongFalsely : Prop := mapsStayRow.holds Tryz.pinned (OpenSpec.ofChange mapsStayWrong)

/-- 'lockgatelaw16.HelperLeaves': WHATEVER THE INPUT: true; the input reads as it did. -/
def helperLeavesSpec : ChangeSpec := { name := "helperLeaves", fn := fun _ => fun
  | [d1, d2] => { results := [.lit (.bool true)], args := [d1, d2] }
  | _ => none }
def helperLeavesRow : OpenClaim := { program := "ytkliejijdjbbkaagreat", sum := "7ed21725db9d57bf130e62f58b41839079fbf32c5b98de134f10513057ad27d2", func := "lockgate/lockgatelaw16.HelperLeaves", spec := "helperLeaves", inPlace := ["internal/bytealg.Compare"], unfollowed := true, recurses := true, apart := false }
def HelperLeavesSaid : Prop := helperLeavesRow.holds Tryz.pinned (OpenSpec.ofChange helperLeavesSpec)

/-- ITS FALSE NEIGHBOUR: 'it returns false'. Refute it at one input. -/
def helperLeavesWrong : ChangeSpec := { name := "helperLeaves", fn := fun _ => fun
  | [d1, d2] => { results := [.lit (.bool false)], args := [d1, d2] }
  | _ => none }
def HelperLeavesWrongFalsely : Prop := helperLeavesRow.holds Tryz.pinned (OpenSpec.ofChange helperLeavesWrong)

/- THE SECOND FORM. 'bulk': how many values and letters a reading holds, each counted each time it is reached (what is shared counts as often as it is met; a slice's spare places count too). A statement '..UptoSaid' is the law's where the arguments, and the package variables that the reading takes, are together of bulk at most 1048576: NARROWER than '..Said'. Prove '..Said' where nothing that the law and all that it calls make is longer than what came in: it says more and counts as full. Else prove '..UptoSaid'. A law counts once. -/
mutual
def uptoBulk {H : Type} : DataW H → Nat
  | .lit (.string bytes) => bytes.length + 1
  | .lit _ => 1
  | .nil => 1
  | .ptr d => uptoBulk d + 1
  | .slice elems spare => uptoBulkAll elems + uptoBulkAll spare + 1
  | .agg parts => uptoBulkAll parts + 1
  | .iface _ d => uptoBulk d + 1
  | .map entries => uptoBulkEntries entries + 1
  | .held _ => 1
def uptoBulkAll {H : Type} : List (DataW H) → Nat
  | [] => 0
  | d :: r => uptoBulk d + uptoBulkAll r
def uptoBulkEntries {H : Type} : List (Lit × DataW H) → Nat
  | [] => 0
  | x :: r => uptoBulkEntry x + uptoBulkEntries r
def uptoBulkEntry {H : Type} : Lit × DataW H → Nat
  | (.string bytes, d) => bytes.length + uptoBulk d + 1
  | (_, d) => uptoBulk d + 1
 end
def uptoSmall : (H : Type) → List (DataW H) → Bool := fun _ ds => decide (uptoBulkAll ds ≤ 1048576)
def OpenSpec.upto (s : _root_.Go.ChangeSpec) : _root_.Go.OpenSpec := { _root_.Go.OpenSpec.ofChange s with cond := some uptoSmall }

/-- 'lockgatelaw16.HelperCopies', WHERE WHAT IT READS IS OF BULK AT MOST 1048576: true; the input reads as it did. -/
def helperCopiesUptoRow : OpenClaim := { program := "ytkliejijdjbbkaagreat", sum := "7ed21725db9d57bf130e62f58b41839079fbf32c5b98de134f10513057ad27d2", func := "lockgate/lockgatelaw16.HelperCopies", spec := "helperCopies", unfollowed := true, recurses := true, apart := false, narrowed := true }
def HelperCopiesUptoSaid : Prop := helperCopiesUptoRow.holds Tryz.pinned (OpenSpec.upto helperCopiesSpec)

/-- 'lockgatelaw16.HelperDraws', WHERE WHAT IT READS IS OF BULK AT MOST 1048576: true; the input reads as it did. -/
def helperDrawsUptoRow : OpenClaim := { program := "ytkliejijdjbbkaagreat", sum := "7ed21725db9d57bf130e62f58b41839079fbf32c5b98de134f10513057ad27d2", func := "lockgate/lockgatelaw16.HelperDraws", spec := "helperDraws", unfollowed := true, recurses := true, apart := false, narrowed := true }
def HelperDrawsUptoSaid : Prop := helperDrawsUptoRow.holds Tryz.pinned (OpenSpec.upto helperDrawsSpec)

/-- 'lockgatelaw12.MapsHolds', WHERE WHAT IT READS IS OF BULK AT MOST 1048576: true; the input reads as it did. -/
def mapsHoldsUptoRow : OpenClaim := { program := "ytkliejijdjbbkaagreat", sum := "7ed21725db9d57bf130e62f58b41839079fbf32c5b98de134f10513057ad27d2", func := "lockgate/lockgatelaw12.MapsHolds", spec := "mapsHolds", inPlace := ["internal/bytealg.Compare"], unfollowed := true, recurses := true, apart := false, narrowed := true }
def MapsHoldsUptoSaid : Prop := mapsHoldsUptoRow.holds Tryz.pinned (OpenSpec.upto mapsHoldsSpec)

/-- 'lockgatelaw12.MapsStay', WHERE WHAT IT READS IS OF BULK AT MOST 1048576: true; the input reads as it did. -/
def mapsStayUptoRow : OpenClaim := { program := "ytkliejijdjbbkaagreat", sum := "7ed21725db9d57bf130e62f58b41839079fbf32c5b98de134f10513057ad27d2", func := "lockgate/lockgatelaw12.MapsStay", spec := "mapsStay", inPlace := ["internal/bytealg.Compare"], unfollowed := true, recurses := true, apart := false, narrowed := true }
def MapsStayUptoSaid : Prop := mapsStayUptoRow.holds Tryz.pinned (OpenSpec.upto mapsStaySpec)

/-- 'lockgatelaw16.HelperLeaves', WHERE WHAT IT READS IS OF BULK AT MOST 1048576: true; the input reads as it did. -/
def helperLeavesUptoRow : OpenClaim := { program := "ytkliejijdjbbkaagreat", sum := "7ed21725db9d57bf130e62f58b41839079fbf32c5b98de134f10513057ad27d2", func := "lockgate/lockgatelaw16.HelperLeaves", spec := "helperLeaves", inPlace := ["internal/bytealg.Compare"], unfollowed := true, recurses := true, apart := false, narrowed := true }
def HelperLeavesUptoSaid : Prop := helperLeavesUptoRow.holds Tryz.pinned (OpenSpec.upto helperLeavesSpec)

end Rows
end Go.Proofs.YtkliejijdjbbkaaGreat
