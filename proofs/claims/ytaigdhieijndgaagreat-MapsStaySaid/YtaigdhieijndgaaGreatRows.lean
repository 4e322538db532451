/-
  No cell of these rows narrows 'for every input' (looked for: loops, veiled, ifaces, maps, wideKeys, modest, calm, conditions, laid).
  DERIVED. THE GIVEN ROWS OF THIS SEAT. 7 by the template 'for every input the law returns true; each argument reads behind the call as it read before'; 0 by the template 'total and deterministic' (their statements: YtaigdhieijndgaaGreatTotals.lean).
  GIVEN WITH THE SEED: the statements are not yours to turn. If you find one false, say at which input.
  Laid BY PROGRAM, IN A SANDBOX (cutbox-rows.mjs): the forced cells as the released guide's own fill.sh prints them over the translation 483bc353a53a0305… (all of the seat's roots in one cut). By AI agents, Wed Nov 11 2026. No macro, syntax, notation, axiom, sorry.
-/
import Derived.Test.YtaigdhieijndgaaGreatChecked
import GoSem.Claim
import GoSem.ClaimJoined
import GoSem.ClaimMapViews
import Derived.JoinedTies
import Derived.KernelRfl
namespace Go.Proofs.YtaigdhieijndgaaGreat
/- THE CELL 'sum', in the pinned program and in every row, IS THE sha256 OF THE DUMP (.gsa) THAT YtaigdhieijndgaaGreatProg.lean LOADS. Nothing in Lean hashes anything: it is a label: what it is worth is what the hold of that sum in a sandbox is worth. -/
noncomputable def Tryz.pinned : Pinned := { name := "ytaigdhieijndgaagreat", sum := "483bc353a53a03055098a4f7ca55b5b438719b12a5aa965130d5d59278916268", checked := Tryz.checked }
namespace Rows
def none {H : Type} : Left H := { results := [], args := [] }

/-- 'lockgatelaw12.MapsHolds': WHATEVER THE INPUT: true; the input reads as it did. -/
def mapsHoldsSpec : ChangeSpec := { name := "mapsHolds", fn := fun _ => fun
  | [d] => { results := [.lit (.bool true)], args := [d] }
  | _ => none }
def mapsHoldsRow : OpenClaim := { program := "ytaigdhieijndgaagreat", sum := "483bc353a53a03055098a4f7ca55b5b438719b12a5aa965130d5d59278916268", func := "lockgate/lockgatelaw12.MapsHolds", spec := "mapsHolds", inPlace := ["internal/bytealg.Compare"], unfollowed := true, recurses := true, apart := false }
def MapsHoldsSaid : Prop := mapsHoldsRow.holds Tryz.pinned (OpenSpec.ofChange mapsHoldsSpec)

/-- ITS FALSE NEIGHBOUR: 'it returns false'. Refute it at one input. -/
def mapsHoldsWrong : ChangeSpec := { name := "mapsHolds", fn := fun _ => fun
  | [d] => { results := [.lit (.bool false)], args := [d] }
  | _ => none }
def MapsHoldsWrongFalsely : Prop := mapsHoldsRow.holds Tryz.pinned (OpenSpec.ofChange mapsHoldsWrong)

/-- 'lockgatelaw12.MapsStay': WHATEVER THE INPUT: true; the input reads as it did. -/
def mapsStaySpec : ChangeSpec := { name := "mapsStay", fn := fun _ => fun
  | [d1, d2] => { results := [.lit (.bool true)], args := [d1, d2] }
  | _ => none }
def mapsStayRow : OpenClaim := { program := "ytaigdhieijndgaagreat", sum := "483bc353a53a03055098a4f7ca55b5b438719b12a5aa965130d5d59278916268", func := "lockgate/lockgatelaw12.MapsStay", spec := "mapsStay", inPlace := ["internal/bytealg.Compare"], unfollowed := true, recurses := true, apart := false }
def MapsStaySaid : Prop := mapsStayRow.holds Tryz.pinned (OpenSpec.ofChange mapsStaySpec)

/-- ITS FALSE NEIGHBOUR: 'it returns false'. Refute it at one input. -/
def mapsStayWrong : ChangeSpec := { name := "mapsStay", fn := fun _ => fun
  | [d1, d2] => { results := [.lit (.bool false)], args := [d1, d2] }
  | _ => none }
def MapsStayWrongFalsely : Prop := mapsStayRow.holds Tryz.pinned (OpenSpec.ofChange mapsStayWrong)

/-- 'lockgatelaw16.HelperLeaves': WHATEVER THE INPUT: true; the input reads as it did. -/
def helperLeavesSpec : ChangeSpec := { name := "helperLeaves", fn := fun _ => fun
  | [d1, d2] => { results := [.lit (.bool true)], args := [d1, d2] }
  | _ => none }
def helperLeavesRow : OpenClaim := { program := "ytaigdhieijndgaagreat", sum := "483bc353a53a03055098a4f7ca55b5b438719b12a5aa965130d5d59278916268", func := "lockgate/lockgatelaw16.HelperLeaves", spec := "helperLeaves", inPlace := ["internal/bytealg.Compare"], unfollowed := true, recurses := true, apart := false }
def HelperLeavesSaid : Prop := helperLeavesRow.holds Tryz.pinned (OpenSpec.ofChange helperLeavesSpec)

/-- ITS FALSE NEIGHBOUR: 'it returns false'. Refute it at one input. -/
def helperLeavesWrong : ChangeSpec := { name := "helperLeaves", fn := fun _ => fun
  | [d1, d2] => { results := [.lit (.bool false)], args := [d1, d2] }
  | _ => none }
def HelperLeavesWrongFalsely : Prop := helperLeavesRow.holds Tryz.pinned (OpenSpec.ofChange helperLeavesWrong)

/-- 'lockgatelaw17.InterpFaults': WHATEVER THE INPUT: true; the input reads as it did. -/
def interpFaultsSpec : ChangeSpec := { name := "interpFaults", fn := fun _ => fun
  | [d1, d2, d3] => { results := [.lit (.bool true)], args := [d1, d2, d3] }
  | _ => none }
def interpFaultsRow : OpenClaim := { program := "ytaigdhieijndgaagreat", sum := "483bc353a53a03055098a4f7ca55b5b438719b12a5aa965130d5d59278916268", func := "lockgate/lockgatelaw17.InterpFaults", spec := "interpFaults", inPlace := ["internal/bytealg.Compare"], unfollowed := true, recurses := true, apart := false }
def InterpFaultsSaid : Prop := interpFaultsRow.holds Tryz.pinned (OpenSpec.ofChange interpFaultsSpec)

/-- ITS FALSE NEIGHBOUR: 'it returns false'. Refute it at one input. -/
def interpFaultsWrong : ChangeSpec := { name := "interpFaults", fn := fun _ => fun
  | [d1, d2, d3] => { results := [.lit (.bool false)], args := [d1, d2, d3] }
  | _ => none }
def InterpFaultsWrongFalsely : Prop := interpFaultsRow.holds Tryz.pinned (OpenSpec.ofChange interpFaultsWrong)

/-- 'lockgatelaw17.InterpQuiet': WHATEVER THE INPUT: true; the input reads as it did. -/
def interpQuietSpec : ChangeSpec := { name := "interpQuiet", fn := fun _ => fun
  | [d1, d2, d3] => { results := [.lit (.bool true)], args := [d1, d2, d3] }
  | _ => none }
def interpQuietRow : OpenClaim := { program := "ytaigdhieijndgaagreat", sum := "483bc353a53a03055098a4f7ca55b5b438719b12a5aa965130d5d59278916268", func := "lockgate/lockgatelaw17.InterpQuiet", spec := "interpQuiet", inPlace := ["internal/bytealg.Compare"], unfollowed := true, recurses := true, apart := false }
def InterpQuietSaid : Prop := interpQuietRow.holds Tryz.pinned (OpenSpec.ofChange interpQuietSpec)

/-- ITS FALSE NEIGHBOUR: 'it returns false'. Refute it at one input. -/
def interpQuietWrong : ChangeSpec := { name := "interpQuiet", fn := fun _ => fun
  | [d1, d2, d3] => { results := [.lit (.bool false)], args := [d1, d2, d3] }
  | _ => none }
def InterpQuietWrongFalsely : Prop := interpQuietRow.holds Tryz.pinned (OpenSpec.ofChange interpQuietWrong)

/-- 'lockgatelaw17.InterpSame': WHATEVER THE INPUT: true; the input reads as it did. -/
def interpSameSpec : ChangeSpec := { name := "interpSame", fn := fun _ => fun
  | [d1, d2] => { results := [.lit (.bool true)], args := [d1, d2] }
  | _ => none }
def interpSameRow : OpenClaim := { program := "ytaigdhieijndgaagreat", sum := "483bc353a53a03055098a4f7ca55b5b438719b12a5aa965130d5d59278916268", func := "lockgate/lockgatelaw17.InterpSame", spec := "interpSame", inPlace := ["internal/bytealg.Compare"], unfollowed := true, recurses := true, apart := false }
def InterpSameSaid : Prop := interpSameRow.holds Tryz.pinned (OpenSpec.ofChange interpSameSpec)

/-- ITS FALSE NEIGHBOUR: 'it returns false'. Refute it at one input. -/
def interpSameWrong : ChangeSpec := { name := "interpSame", fn := fun _ => fun
  | [d1, d2] => { results := [.lit (.bool false)], args := [d1, d2] }
  | _ => none }
def InterpSameWrongFalsely : Prop := interpSameRow.holds Tryz.pinned (OpenSpec.ofChange interpSameWrong)

/-- 'lockgatelaw23.IrRuns': WHATEVER THE INPUT: true; the input reads as it did. -/
def irRunsSpec : ChangeSpec := { name := "irRuns", fn := fun _ => fun
  | [d1, d2, d3] => { results := [.lit (.bool true)], args := [d1, d2, d3] }
  | _ => none }
def irRunsRow : OpenClaim := { program := "ytaigdhieijndgaagreat", sum := "483bc353a53a03055098a4f7ca55b5b438719b12a5aa965130d5d59278916268", func := "lockgate/lockgatelaw23.IrRuns", spec := "irRuns", inPlace := ["internal/bytealg.Compare"], unfollowed := true, recurses := true, apart := false }
def IrRunsSaid : Prop := irRunsRow.holds Tryz.pinned (OpenSpec.ofChange irRunsSpec)

/-- ITS FALSE NEIGHBOUR: 'it returns false'. Refute it at one input. -/
def irRunsWrong : ChangeSpec := { name := "irRuns", fn := fun _ => fun
  | [d1, d2, d3] => { results := [.lit (.bool false)], args := [d1, d2, d3] }
  | _ => none }
def IrRunsWrongFalsely : Prop := irRunsRow.holds Tryz.pinned (OpenSpec.ofChange irRunsWrong)

/- THE SECOND FORM. 'bulk': how many values and letters a reading holds, each counted each time it is reached (what is shared counts as often as it is met; a slice's spare places count too). A statement '..UptoSaid' is the law's where the arguments, and the package variables that the reading takes, are together of bulk at most 1048576: NARROWER than '..Said'. Prove '..Said' where nothing that the law and all that it calls make is longer than what came in: it says more and counts as full. Else prove '..UptoSaid'. A law counts once. -/
mutual
def uptoBulk {H : Type} : DataW H → Nat
  | .lit (.string bytes) => bytes.length + 1
  | .lit _ => 1
  | .nil => 1
  | .ptr d => uptoBulk d + 1
  | .slice elems spare => uptoBulkAll elems + uptoBulkAll spare + 1
  | .agg parts => uptoBulkAll parts + 1
  | .iface _ d => uptoBulk d + 1
  | .map entries => uptoBulkEntries entries + 1
  | .held _ => 1
def uptoBulkAll {H : Type} : List (DataW H) → Nat
  | [] => 0
  | d :: r => uptoBulk d + uptoBulkAll r
def uptoBulkEntries {H : Type} : List (Lit × DataW H) → Nat
  | [] => 0
  | x :: r => uptoBulkEntry x + uptoBulkEntries r
def uptoBulkEntry {H : Type} : Lit × DataW H → Nat
  | (.string bytes, d) => bytes.length + uptoBulk d + 1
  | (_, d) => uptoBulk d + 1
 end
def uptoSmall : (H : Type) → List (DataW H) → Bool := fun _ ds => decide (uptoBulkAll ds ≤ 1048576)
def OpenSpec.upto (s : _root_.Go.ChangeSpec) : _root_.Go.OpenSpec := { _root_.Go.OpenSpec.ofChange s with cond := some uptoSmall }

/-- 'lockgatelaw12.MapsHolds', WHERE WHAT IT READS IS OF BULK AT MOST 1048576: true; the input reads as it did. -/
def mapsHoldsUptoRow : OpenClaim := { program := "ytaigdhieijndgaagreat", sum := "483bc353a53a03055098a4f7ca55b5b438719b12a5aa965130d5d59278916268", func := "lockgate/lockgatelaw12.MapsHolds", spec := "mapsHolds", inPlace := ["internal/bytealg.Compare"], unfollowed := true, recurses := true, apart := false, narrowed := true }
def MapsHoldsUptoSaid : Prop := mapsHoldsUptoRow.holds Tryz.pinned (OpenSpec.upto mapsHoldsSpec)

/-- 'lockgatelaw12.MapsStay', WHERE WHAT IT READS IS OF BULK AT MOST 1048576: true; the input reads as it did. -/
def mapsStayUptoRow : OpenClaim := { program := "ytaigdhieijndgaagreat", sum := "483bc353a53a03055098a4f7ca55b5b438719b12a5aa965130d5d59278916268", func := "lockgate/lockgatelaw12.MapsStay", spec := "mapsStay", inPlace := ["internal/bytealg.Compare"], unfollowed := true, recurses := true, apart := false, narrowed := true }
def MapsStayUptoSaid : Prop := mapsStayUptoRow.holds Tryz.pinned (OpenSpec.upto mapsStaySpec)

/-- 'lockgatelaw16.HelperLeaves', WHERE WHAT IT READS IS OF BULK AT MOST 1048576: true; the input reads as it did. -/
def helperLeavesUptoRow : OpenClaim := { program := "ytaigdhieijndgaagreat", sum := "483bc353a53a03055098a4f7ca55b5b438719b12a5aa965130d5d59278916268", func := "lockgate/lockgatelaw16.HelperLeaves", spec := "helperLeaves", inPlace := ["internal/bytealg.Compare"], unfollowed := true, recurses := true, apart := false, narrowed := true }
def HelperLeavesUptoSaid : Prop := helperLeavesUptoRow.holds Tryz.pinned (OpenSpec.upto helperLeavesSpec)

/-- 'lockgatelaw17.InterpFaults', WHERE WHAT IT READS IS OF BULK AT MOST 1048576: true; the input reads as it did. -/
def interpFaultsUptoRow : OpenClaim := { program := "ytaigdhieijndgaagreat", sum := "483bc353a53a03055098a4f7ca55b5b438719b12a5aa965130d5d59278916268", func := "lockgate/lockgatelaw17.InterpFaults", spec := "interpFaults", inPlace := ["internal/bytealg.Compare"], unfollowed := true, recurses := true, apart := false, narrowed := true }
def InterpFaultsUptoSaid : Prop := interpFaultsUptoRow.holds Tryz.pinned (OpenSpec.upto interpFaultsSpec)

/-- 'lockgatelaw17.InterpQuiet', WHERE WHAT IT READS IS OF BULK AT MOST 1048576: true; the input reads as it did. -/
def interpQuietUptoRow : OpenClaim := { program := "ytaigdhieijndgaagreat", sum := "483bc353a53a03055098a4f7ca55b5b438719b12a5aa965130d5d59278916268", func := "lockgate/lockgatelaw17.InterpQuiet", spec := "interpQuiet", inPlace := ["internal/bytealg.Compare"], unfollowed := true, recurses := true, apart := false, narrowed := true }
def InterpQuietUptoSaid : Prop := interpQuietUptoRow.holds Tryz.pinned (OpenSpec.upto interpQuietSpec)

/-- 'lockgatelaw17.InterpSame', WHERE WHAT IT READS IS OF BULK AT MOST 1048576: true; the input reads as it did. -/
def interpSameUptoRow : OpenClaim := { program := "ytaigdhieijndgaagreat", sum := "483bc353a53a03055098a4f7ca55b5b438719b12a5aa965130d5d59278916268", func := "lockgate/lockgatelaw17.InterpSame", spec := "interpSame", inPlace := ["internal/bytealg.Compare"], unfollowed := true, recurses := true, apart := false, narrowed := true }
def InterpSameUptoSaid : Prop := interpSameUptoRow.holds Tryz.pinned (OpenSpec.upto interpSameSpec)

/-- 'lockgatelaw23.IrRuns', WHERE WHAT IT READS IS OF BULK AT MOST 1048576: true; the input reads as it did. -/
def irRunsUptoRow : OpenClaim := { program := "ytaigdhieijndgaagreat", sum := "483bc353a53a03055098a4f7ca55b5b438719b12a5aa965130d5d59278916268", func := "lockgate/lockgatelaw23.IrRuns", spec := "irRuns", inPlace := ["internal/bytealg.Compare"], unfollowed := true, recurses := true, apart := false, narrowed := true }
def IrRunsUptoSaid : Prop := irRunsUptoRow.holds Tryz.pinned (OpenSpec.upto irRunsSpec)

end Rows
end Go.Proofs.YtaigdhieijndgaaGreat
