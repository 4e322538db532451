import Derived.Test.YtaigdhieijndgaaGreatEQ12
import Derived.Test.YtaigdhieijndgaaGreatProg
namespace Go.Ev
open Proofs
noncomputable def CC:Ctx:=Ctx.of Tryz.prog 0
theorem typesFine:Ev.typesOk (Ev.Ctx.of Tryz.prog 0)=true:=by kernel_rfl
theorem namesFine:Ev.namesOk Tryz.prog=true:=by kernel_rfl
theorem mixedFine:Tryz.prog.follows .mixedOrders=true:=by kernel_rfl
theorem CCok:GOk CC:=⟨Ctx.of_ok _ 0 typesFine namesFine,mixedFine⟩
end Go.Ev
