import Derived.Test.YtnmmcpaoaepedaaGreatDoorRun1
noncomputable section
namespace Go.Proofs.YtnmmcpaoaepedaaGreatDoor
open Go Go.Ai

theorem Hm_get (m : Int) (b : Nat) : (Hm m).get b = if 1 = b then some (.cells [.int .i64 m] 3 false) else none := by
  have h := Hp.get_put { next := 8, t := .nil } 1 b (some (.cells [.int .i64 m] 3 false))
  have e : Hm m = ({ next := 8, t := .nil } : Hp).put 1 (some (.cells [.int .i64 m] 3 false)) := rfl
  rw [e, h]
  have hz : ({ next := 8, t := .nil } : Hp).get b = none := by
    unfold Hp.get
    cases Nat.blt b (2 ^ depthH) <;> rfl
  rw [hz]
  by_cases hb : 1 = b
  · rw [if_pos ⟨hb, by decide⟩, if_pos hb]
  · rw [if_neg (fun hh => hb hh.1), if_neg hb]

theorem Hm_fix {m : Int} {H' : Hp} (h : H'.get 1 = some (.cells [.int .i64 m] 3 false)) (b : Nat) (o : AObj) (hb : (Hm m).get b = some o) : b < 8 ∧ H'.get b = some o ∧ looseO o = true := by
  rw [Hm_get] at hb
  by_cases h1 : 1 = b
  · subst h1
    rw [if_pos rfl] at hb; cases hb
    exact ⟨by decide, h, rfl⟩
  · rw [if_neg h1] at hb; cases hb

/-- wakes(): true, wherever MaxLen is told of. -/
theorem wakes_ok {H : Hp} (hm : isMax (H.get 1) = true) : CallOk C1 4 [] H (.bool true) H := by
  obtain ⟨m, hm⟩ := isMax_ok hm
  obtain ⟨H', h1, h2⟩ := probe_ok (wakes_run m)
  exact lift_flat E2_ok h1 rfl (Hm_fix h2) rfl rfl (fun b o hb => by
    rw [Hm_get] at hb
    by_cases h1 : 1 = b
    · subst h1; rw [if_pos rfl] at hb; rw [hm, hb]
    · rw [if_neg h1] at hb; cases hb)

noncomputable def ovWakes (args : List Value) (H : Hp) : Option (Value × Hp) :=
  match args with
  | [] => bif isMax (H.get 1) then some (.bool true, H) else none
  | _ => none
noncomputable def ov3 (g : FuncId) : Option (List Value → Hp → Option (Value × Hp)) := bif Nat.beq g 4 then some ovWakes else ov2 g
noncomputable def E3 : Env := { E1 with ov := ov3 }

theorem E3_ok : EnvFull E3 where
  C := C1_ok
  ext := E1_ok.ext
  ov := fun g x args H v H' hx hv => by
    have hx : ov3 g = some x := hx
    unfold ov3 at hx
    cases hb : Nat.beq g 4 with
    | false => rw [hb] at hx; exact E2_ok.ov g x args H v H' hx hv
    | true =>
      rw [hb] at hx
      simp only [cond_true, Option.some.injEq] at hx
      subst hx
      have := (beq_true_iff _ _).1 hb
      subst this
      unfold ovWakes at hv
      split at hv
      · cases hn : isMax (H.get 1) with
        | false => rw [hn] at hv; cases hv
        | true =>
          rw [hn] at hv
          simp only [cond_true, Option.some.injEq, Prod.mk.injEq] at hv
          obtain ⟨rfl, rfl⟩ := hv
          exact wakes_ok hn
      · cases hv
  dn := E1_ok.dn
  okc := E1_ok.okc
  body := E1_ok.body

end Go.Proofs.YtnmmcpaoaepedaaGreatDoor
