import Derived.Test.YtkcdhdilifolfaaGreatEvKB
import Derived.Test.YtkcdhdilifolfaaGreatProg
namespace Go.Ev
noncomputable def CC : Ctx := Ctx.of Go.Proofs.Tryz.prog 0
theorem typesFine : Ev.typesOk (Ev.Ctx.of Go.Proofs.Tryz.prog 0) = true := by kernel_rfl
theorem namesFine : Ev.namesOk Go.Proofs.Tryz.prog = true := by kernel_rfl
theorem mixedFine : Go.Proofs.Tryz.prog.follows .mixedOrders = true := by kernel_rfl
theorem CCok : GOk CC := ⟨Ctx.of_ok _ 0 typesFine namesFine, mixedFine⟩
end Go.Ev
