/-
  CheckNone: an input that fits, in a world that holds what the row lists: its closed facts.
-/
import Derived.Test.YtnmmcpaoaepedaaGreatDoorRows
import Derived.Test.YtnmmcpaoaepedaaGreatDoorAiZc
noncomputable section
namespace Go.Proofs.YtnmmcpaoaepedaaGreatDoor
open Go Go.Ai
set_option maxRecDepth 100000
theorem own3 : ownKnob Tryz.prog.godebug = none := by kernel_rfl
noncomputable def zeros : Array Value := #[.agg #[.int .i64 0, .int .i64 0, .int .i64 0, .int .i64 0, .int .i64 0, .int .i64 0, .int .i64 0, .int .i64 0, .int .i64 0, .int .i64 0, .int .i64 0, .int .i64 0, .bool false], .int .i64 0]
noncomputable def laidW (os : Os) : World := World.laidAll Tryz.prog os Rows.checkNoneRow.laid
noncomputable abbrev calledW (os : Os) : World := (laidW os).forCall (fun _ _ => 0) ⟨#[], zeros, []⟩
theorem reads (w : World) {H : Type} (enc : TypeId × Value → H) : DataW.whole enc Tryz.prog w Tryz.f3.params.toList Rows.checkNoneSpec.vars false zeros.toList 8 =
    some ([.agg [.lit (.int .i64 0), .agg [.agg [.lit (.int .i64 0), .lit (.int .i64 0), .lit (.int .i64 0)], .agg [.lit (.int .i64 0), .lit (.int .i64 0), .lit (.int .i64 0)], .lit (.int .i64 0), .lit (.int .i64 0), .lit (.int .i64 0)], .lit (.int .i64 0), .lit (.int .i64 0), .lit (.bool false)], .lit (.int .i64 0)], [], []) := by kernel_rfl
theorem noInit3 : Tryz.checked.prog.inits.idxOf? 3 = none := by kernel_rfl
theorem zip3 (os : Os) : (calledW os).variablesZipB Tryz.checked.prog = true := by kernel_rfl
theorem rest3 (os : Os) : ((calledW os).heap.toList.drop Tryz.checked.prog.globals.size).take ((begin Tryz.checked.prog (fun _ _ => 0) default).world.heap.size - Tryz.checked.prog.globals.size) =
      (begin Tryz.checked.prog (fun _ _ => 0) default).world.heap.toList.drop Tryz.checked.prog.globals.size := by kernel_rfl
theorem okIn3 (os : Os) : Input.okWideB Tryz.checked.prog (calledW os) 3 ⟨#[], zeros, []⟩ = true := by kernel_rfl
theorem sized3 (os : Os) {H : Type} (enc : TypeId × Value → H) : (OpenSpec.ofChange Rows.checkNoneSpec).bare.sizedB enc Tryz.checked.prog Tryz.f3 false (calledW os).memory zeros 8 = true := by kernel_rfl
theorem fits3 (os : Os) : (World.holding Tryz.prog os ⟨#[], #[], []⟩).layFits Tryz.prog Rows.checkNoneRow.laid [] = true := by kernel_rfl
theorem ifaces3 (os : Os) : (World.holding Tryz.prog os ⟨#[], #[], []⟩).layIfaces Tryz.prog Rows.checkNoneRow.laid (World.laidAll Tryz.prog os Rows.checkNoneRow.laid) = true := by kernel_rfl
theorem met3 (os : Os) : laidMetH Tryz.checked.prog Rows.checkNoneRow.laid (calledW os).memory := by
  rw [MakeChecks.laidMetH_plain _ _ _ (by as_aux_lemma => kernel_rfl)]
  exact laidMet_laidAll zeros (fits3 os) (ifaces3 os)
end Go.Proofs.YtnmmcpaoaepedaaGreatDoor
