/-
  canticlelaw19.CheckNone: for every taste and every number the call returns true, and the arguments read afterwards as they read before. Conditions: those of the given card (the listed variables of Go's own library hold what their text lays in them; the card ties that).
-/
import Derived.Test.YtnmmcpaoaepedaaGreatDoorCards
import Derived.Test.YtnmmcpaoaepedaaGreatDoorTie
import Derived.Test.YtnmmcpaoaepedaaGreatDoorFin
import Derived.Test.YtnmmcpaoaepedaaGreatDoorFacts
import Derived.Test.YtnmmcpaoaepedaaGreatDoorWit
noncomputable section
namespace Go.Proofs.YtnmmcpaoaepedaaGreatDoor
open Go Go.Ai Go.ChangeShapes Go.WideShapes Go.ChangeAt Go.RowKit
set_option maxRecDepth 100000


theorem contract (H : Type) (enc : TypeId × Value → H) (W : World) (base : Nat) (args : Array Value) (ds gs : List (DataW H)) (before : List MemPlace)
    (hval : ∀ (j : Nat) t v, Tryz.f3.params[j]? = some t → args[j]? = some v → Value.okWide Tryz.prog W .any base t v)
    (hW : DataW.Whole enc Tryz.prog Tryz.f3.params.toList Rows.checkNoneSpec.vars false W args.toList ds gs before) (hsh : W.ShapedOpen Tryz.prog) :
    Calls Tryz.prog 3 args W fun e W' => ∃ v, e = .returned v ∧ Rows.checkNoneSpec.post enc Tryz.prog Tryz.f3 false true false false W args v W' := by
  have hW0 := hW
  obtain ⟨p, q, hA, -⟩ := hW
  obtain ⟨v0, v1, d0, d1, rfl, rfl, -⟩ : ∃ v0 v1 d0 d1, args = #[v0, v1] ∧ ds = [d0, d1] ∧ True := by
    rw [Tryz.params3] at hA
    obtain ⟨v0, vs0, d0, ds0, p0, q0, hargs, rfl, rfl, h0, r0⟩ := trodAll_cons hA
    obtain ⟨v1, vs1, d1, ds1, p1, q1, rfl, rfl, rfl, h1, r1⟩ := trodAll_cons r0
    obtain ⟨rfl, rfl, rfl⟩ := trodAll_nil r1
    exact ⟨v0, v1, d0, d1, Array.toList_inj.1 hargs, rfl, trivial⟩
  refine (walk hval hsh).mono fun e W' he => ?_
  obtain ⟨rfl, ho⟩ := he
  refine ⟨_, rfl, post_true (kids_rows laid3 rowed3) (fun ht hu => slicesFull_ok full3 ht hu) (fun t ht => of_decide_eq_true (List.all_eq_true.1 small3 t ht)) rfl rfl (tb := 4) rfl Tryz.underlying4 hW0 ho⟩

theorem lifted (os : Os) (started : os.Started) (H : Type) (enc : TypeId × Value → H) (F : Stop.Interp) :
    ReturnsInHanded {} Tryz.checked os 3 .any ((OpenSpec.ofChange Rows.checkNoneSpec).preRow enc Tryz.prog Tryz.f3 Rows.checkNoneRow.domain false Rows.checkNoneRow.laid) (((OpenSpec.ofChange Rows.checkNoneSpec).at F).post enc Tryz.prog Tryz.f3 false true false false) := by
  refine returnsInHanded_of_row (C := Tryz.checked) (s := OpenSpec.ofChange Rows.checkNoneSpec) own3 started noInit3 Tryz.func3
    (witness_zip (enc := enc) (C := Tryz.checked) (laidW os) zeros (World.laidAll_os _ _ _) (zip3 os) (rest3 os) (okIn3 os)
      (OpenSpec.preRow_of_cond 8 (reads (calledW os).memory enc) rfl (fun k hk => by cases hk) (sized3 os enc) (met3 os))) ?_
  intro W base args ds gs before hval hW _ _ _ _ hsh _
  exact contract H enc W base args ds gs before hval hW hsh

theorem said : Rows.CheckNoneSaid :=
  OpenClaim.holds_of_cond 3 Tryz.f3 rfl rfl rfl rfl rfl rfl rfl ⟨rfl, rfl, rfl, rfl, rfl⟩ rfl rfl rfl rfl rfl named3 Tryz.func3 closed3 instance3 wrapper3
    (fun os started H enc _ F => by rw [OpenClaim.pre_eq_preRow]; exact lifted os started H enc F)

theorem plain3 (f : FuncId) (fn : Func) (hf : Tryz.pinned.checked.prog.funcNamed "canticle/canticlelaw19.CheckNone" = some f) (hfn : Tryz.pinned.checked.prog.funcs[f]? = some fn) :
    true = Tryz.pinned.checked.prog.looks [] ∧ ∀ (j : Nat) t, fn.params[j]? = some t → Tryz.pinned.checked.prog.wantsStandIn t = false := by
  obtain rfl : f = 3 := Option.some.inj ((show Tryz.prog.funcNamed "canticle/canticlelaw19.CheckNone" = some 3 by kernel_rfl).symm.trans hf) |>.symm
  obtain rfl : fn = Tryz.f3 := (Option.some.inj (Tryz.func3.symm.trans hfn)).symm
  refine ⟨by kernel_rfl, fun j t ht => ?_⟩
  rw [Tryz.params3] at ht
  have ht : t = 26 ∨ t = 3 := by simpa using Array.mem_of_getElem? ht
  rcases ht with rfl | rfl
  · exact (show Tryz.prog.wantsStandIn 26 = false by kernel_rfl)
  · exact (show Tryz.prog.wantsStandIn 3 = false by kernel_rfl)

theorem checkNone_card : Rows.CheckNoneCardSaid :=
  Claim7.holds_tied_plain_at .later [] _ _ _ _ said (fun _ h => by cases h) (by kernel_rfl) (fun _ h => by cases h) checkNone_row_tie rfl ⟨rfl, rfl⟩ (by kernel_rfl) rfl plain3 (by kernel_rfl)
#print axioms checkNone_card
end Go.Proofs.YtnmmcpaoaepedaaGreatDoor
