/-
  canticlelaw19.CheckNone: for every taste and every number the call returns true, and nothing that was there before has turned.
-/
import Derived.Test.YtnmmcpaoaepedaaGreatDoorRun2
import Derived.Test.YtnmmcpaoaepedaaGreatDoorAiZc
noncomputable section
namespace Go.Proofs.YtnmmcpaoaepedaaGreatDoor
open Go Go.Ai Go.ChangeShapes Go.WideShapes Go.ChangeAt Go.RowKit
set_option maxRecDepth 100000

theorem laid3 : laidOutB Tryz.prog = true := by kernel_rfl
theorem rowed3 : mapsRowed Tryz.prog = true := by kernel_rfl
theorem full3 : slicesFull Tryz.prog = true := by kernel_rfl
theorem small3 : Tryz.f3.params.toList.all (fun t => decide (t < Tryz.prog.types.size)) = true := by kernel_rfl
theorem cells26 : Tryz.prog.cellTypes Tryz.prog.depth 26 = some [3, 3, 3, 3, 3, 3, 3, 3, 3, 3, 3, 3, 4] := by kernel_rfl
theorem of26 : Tryz.prog.cellsOf 26 = 13 := by kernel_rfl
theorem max0 : ((begin Tryz.prog (fun _ _ => 0) default).world.heap[1]?).bind Obj.row? = some (#[.int .i64 0], 3) := by kernel_rfl
theorem all0 : (List.range Tryz.prog.globals.size).all (fun g => (((begin Tryz.prog (fun _ _ => 0) default).world.heap[g]?).bind Obj.row?).isSome) = true := by kernel_rfl
theorem size0 : Tryz.prog.globals.size = 8 := by kernel_rfl
theorem build3 : Tryz.prog.buildable 3 = true := by kernel_rfl
theorem cells3 : Tryz.prog.cellTypes Tryz.prog.depth 3 = some [3] := by kernel_rfl

theorem walk {W : World} {base : Nat} {v0 v1 : Value} (hval : ∀ (j : Nat) t v, Tryz.f3.params[j]? = some t → #[v0, v1][j]? = some v → Value.okWide Tryz.prog W .any base t v) (hsh : W.ShapedOpen Tryz.prog) :
    Calls Tryz.prog 3 #[v0, v1] W fun e w' => e = .returned (.bool true) ∧ Old W w' := by
  obtain ⟨m, hm⟩ := var_int hsh (by rw [size0]; decide) max0 rfl build3 cells3 Tryz.underlying3
  have hng : ∀ x, x < E3.C.ng → x < W.heap.size := fun x hx => vars_there hsh all0 x (by rw [size0]; exact hx)
  obtain ⟨bs, hb⟩ := struct_arg hval 0 (t := 26) (v := v0) rfl rfl Tryz.underlying26 cells26 (ss := [.i .i64, .i .i64, .i .i64, .i .i64, .i .i64, .i .i64, .i .i64, .i .i64, .i .i64, .i .i64, .i .i64, .i .i64, .b]) rfl
    (fun i s u hs hu => by
      rcases i with _ | _ | _ | _ | _ | _ | _ | _ | _ | _ | _ | _ | _ | i <;> simp at hs hu <;> subst hs <;> subst hu <;> first | exact Tryz.underlying3 | exact Tryz.underlying4) of26
  obtain ⟨n, rfl⟩ := int_arg hval 1 (t := 3) (v := v1) rfl rfl Tryz.underlying3
  have ha : ∀ μ, LR μ [taste (bs 12), unkI .i64] (#[v0, .int .i64 n] : Array Value).toList := fun μ => .cons (hb μ) (.cons (.unkI _ _) (.nil μ))
  cases hc : bs 12 with
  | true =>
    rw [hc] at ha
    obtain ⟨H', e1, e2⟩ := probe_ok (law_run_true m)
    exact law_calls E3_ok e1 (Hm_get m) e2 rfl (by decide) hng hm ha
  | false =>
    rw [hc] at ha
    obtain ⟨H', e1, e2⟩ := probe_ok (law_run_false m)
    exact law_calls E3_ok e1 (Hm_get m) e2 rfl (by decide) hng hm ha

end Go.Proofs.YtnmmcpaoaepedaaGreatDoor
