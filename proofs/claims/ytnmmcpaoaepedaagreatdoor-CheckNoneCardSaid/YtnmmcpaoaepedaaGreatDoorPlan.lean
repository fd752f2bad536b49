import Derived.Test.YtnmmcpaoaepedaaGreatDoorInst
noncomputable section
namespace Go.Proofs.YtnmmcpaoaepedaaGreatDoor
open Go Go.Ai
theorem bodies_ok : allIdx bodyOk 0 Tryz.prog.funcs.toList = true := by decide +kernel
end Go.Proofs.YtnmmcpaoaepedaaGreatDoor
