import Derived.Test.YtnmmcpaoaepedaaGreatDoorLaw
noncomputable section
namespace Go.Proofs.YtnmmcpaoaepedaaGreatDoor
open Go Go.Ai
noncomputable def taste (b : Bool) : Value := .agg #[unkI .i64, unkI .i64, unkI .i64, unkI .i64, unkI .i64, unkI .i64, unkI .i64, unkI .i64, unkI .i64, unkI .i64, unkI .i64, unkI .i64, .bool b]
set_option maxRecDepth 1000000
theorem law_run_true (m : Int) : probe ((level E3 100000).call 3 [taste true, unkI .i64] (Hm m)) = some (.bool true, some (.cells [.int .i64 m] 3 false)) := by kernel_rfl
theorem law_run_false (m : Int) : probe ((level E3 100000).call 3 [taste false, unkI .i64] (Hm m)) = some (.bool true, some (.cells [.int .i64 m] 3 false)) := by kernel_rfl
end Go.Proofs.YtnmmcpaoaepedaaGreatDoor
