import Derived.Test.YtnmmcpaoaepedaaGreatDoorWakes
noncomputable section
namespace Go.Proofs.YtnmmcpaoaepedaaGreatDoor
open Go Go.Ai
set_option maxRecDepth 1000000
theorem wakes_run (m : Int) : probe ((level E2 100000).call 4 [] (Hm m)) = some (.bool true, some (.cells [.int .i64 m] 3 false)) := by kernel_rfl
end Go.Proofs.YtnmmcpaoaepedaaGreatDoor
