import Derived.Test.YtnmmcpaoaepedaaGreatDoorPlan
import Derived.Test.YtnmmcpaoaepedaaGreatDoorDn
import Derived.Test.YtnmmcpaoaepedaaGreatDoorShelf
noncomputable section
namespace Go.Proofs.YtnmmcpaoaepedaaGreatDoor
open Go Go.Ai

/-- internal/bytealg.MaxLen's block: one integer. -/
def isMax : Option AObj → Bool
  | some (.cells [.int .i64 _] 3 false) => true
  | _ => false
theorem isMax_ok {o : Option AObj} (h : isMax o = true) : ∃ m, o = some (.cells [.int .i64 m] 3 false) := by
  unfold isMax at h
  split at h
  · rename_i m; exact ⟨m, rfl⟩
  · cases h

noncomputable def ovIndex (args : List Value) (H : Hp) : Option (Value × Hp) :=
  match args with
  | [.string s, .string sub] => bif isMax (H.get 1) && Nat.blt (bytesOf s).length 4294967281 then some (.int .i64 (Lib.index (bytesOf s) (bytesOf sub)), H) else none
  | _ => none

noncomputable def extOf (g : FuncId) (args : List Value) : Option Value := match pureRun Tryz.prog (callFunc g args.toArray) with
  | some (.value v) => some v
  | _ => none

noncomputable def ov1 (g : FuncId) : Option (List Value → Hp → Option (Value × Hp)) := bif Nat.beq g 203 then some ovIndex else none
noncomputable def E1 : Env := { C := C1, dn := fun g => Nat.beq g 38, ext := fun g => bif Nat.beq g 269 || Nat.beq g 202 then some (extOf g) else none, ov := ov1, plan := planF }

theorem ovIndex_ok {args : List Value} {H H' : Hp} {v : Value} (h : ovIndex args H = some (v, H')) : CallOk C1 203 args H v H' := by
  unfold ovIndex at h
  split at h
  · rename_i s sub
    cases hb : isMax (H.get 1) && Nat.blt (bytesOf s).length 4294967281 with
    | false => rw [hb] at h; cases h
    | true =>
      rw [hb] at h
      simp only [cond_true, Option.some.injEq, Prod.mk.injEq] at h
      obtain ⟨rfl, rfl⟩ := h
      simp only [Bool.and_eq_true] at hb
      obtain ⟨m, hm⟩ := isMax_ok hb.1
      have hs := (blt_iff _ _).1 hb.2
      refine ⟨fun args' w => Tryz.call203 args' w, fun μ args' w n hr ha => callsIn_wide.2 ?_⟩
      obtain ⟨k, hg⟩ := hr.glob 1 (by decide : 1 < 8)
      obtain ⟨v', h1, h2⟩ := cell_of hr hm hg (i := 0) (v := .int .i64 m) rfl
      have hargs : args' = #[.string s, .string sub] := by
        have := flat_list_eq (l := [.string s, .string sub]) (l' := args'.toList) rfl ha
        exact (Array.toList_inj.1 this).symm
      subst hargs
      obtain rfl : v' = .int .i64 m := by cases h2; rfl
      refine (Tryz.stringslite_Index s sub m w (by rw [size_bytes]; exact hs) h1).mono fun e w' he => ?_
      obtain ⟨rfl, rfl⟩ := he
      exact ⟨_, μ, rfl, Went.refl hr, .int _ _⟩
  · cases h

theorem plan_eq : planOk C1 = planOk C0 := planOk_congr rfl

theorem E1_ok : EnvFull E1 where
  C := C1_ok
  ext := fun g x args v w hx hv => by
    have hx : (bif Nat.beq g 269 || Nat.beq g 202 then some (extOf g) else none) = some x := hx
    cases hb : Nat.beq g 269 || Nat.beq g 202 with
    | false => rw [hb] at hx; cases hx
    | true =>
      rw [hb] at hx
      simp only [cond_true, Option.some.injEq] at hx
      subst hx
      unfold extOf at hv
      split at hv
      · rename_i u hu
        simp only [Option.some.injEq] at hv
        subst hv
        exact pureRun_ok hu w
      · cases hv
  ov := fun g x args H v H' hx hv => by
    have hx : ov1 g = some x := hx
    unfold ov1 at hx
    cases hb : Nat.beq g 203 with
    | false => rw [hb] at hx; cases hx
    | true =>
      rw [hb] at hx
      simp only [cond_true, Option.some.injEq] at hx
      subst hx
      have := (beq_true_iff _ _).1 hb
      subst this
      exact ovIndex_ok hv
  dn := fun g hg cap args w => by
    have := (beq_true_iff _ _).1 hg
    subst this
    refine ⟨args ++ cap, Tryz.call38 _ w, fun n μ H hr => CallsDIn.mono (recover_none n _ w) fun e u' w' hq => ?_⟩
    obtain ⟨h1, h2, rfl⟩ := hq
    exact ⟨h1, h2, hr, Fwd.refl μ H w'⟩
  okc := fun fn c => by
    show okCode planF (planOk C0) fn c = true ↔ okCode planF (planOk C1) fn c = true
    rw [plan_eq]
  body := fun g fn b hfn hb => by
    have hfn : fnOf g = some fn := hfn
    unfold fnOf at hfn
    rw [fn_get] at hfn
    split at hfn
    · rename_i y hy
      cases hbs : y.body.isSome with
      | false => rw [hbs] at hfn; cases hfn
      | true =>
        rw [hbs] at hfn
        simp only [cond_true, Option.some.injEq] at hfn
        subst hfn
        have := allIdx_ok 0 _ bodies_ok g y (by rw [Array.getElem?_toList]; exact hy)
        rw [Nat.zero_add] at this
        unfold bodyOk at this
        rw [hb] at this
        show okCode planF (planOk C1) g b = true
        rw [plan_eq]
        exact this
    · cases hfn

end Go.Proofs.YtnmmcpaoaepedaaGreatDoor
