import Derived.Test.YtnmmcpaoaepedaaGreatDoorTable
noncomputable section
namespace Go.Proofs.YtnmmcpaoaepedaaGreatDoor
open Go Go.Ai

noncomputable def ovTable (args : List Value) (H : Hp) : Option (Value × Hp) :=
  match args with
  | [] => bif Nat.blt H.next (2 ^ depthH) then some (.map (some H.next), H.new (.map tabEs 38)) else none
  | _ => none
noncomputable def ov2 (g : FuncId) : Option (List Value → Hp → Option (Value × Hp)) := bif Nat.beq g 132 then some ovTable else ov1 g
noncomputable def E2 : Env := { E1 with ov := ov2 }

theorem E2_ok : EnvFull E2 where
  C := C1_ok
  ext := E1_ok.ext
  ov := fun g x args H v H' hx hv => by
    have hx : ov2 g = some x := hx
    unfold ov2 at hx
    cases hb : Nat.beq g 132 with
    | false => rw [hb] at hx; exact E1_ok.ov g x args H v H' hx hv
    | true =>
      rw [hb] at hx
      simp only [cond_true, Option.some.injEq] at hx
      subst hx
      have := (beq_true_iff _ _).1 hb
      subst this
      unfold ovTable at hv
      split at hv
      · cases hn : Nat.blt H.next (2 ^ depthH) with
        | false => rw [hn] at hv; cases hv
        | true =>
          rw [hn] at hv
          simp only [cond_true, Option.some.injEq, Prod.mk.injEq] at hv
          obtain ⟨rfl, rfl⟩ := hv
          exact table_ok ((blt_iff _ _).1 hn)
      · cases hv
  dn := E1_ok.dn
  okc := E1_ok.okc
  body := E1_ok.body

/-- The heap at which a law is walked: only internal/bytealg.MaxLen is told of. -/
noncomputable def Hm (m : Int) : Hp := { next := 8, t := T.set depthH .nil 1 (some (.cells [.int .i64 m] 3 false)) }
/-- What a run answers, and MaxLen's block behind it. -/
def probe (x : Option (Value × Hp)) : Option (Value × Option AObj) :=
  match x with
  | some (v, H) => some (v, H.get 1)
  | none => none
theorem probe_ok {x : Option (Value × Hp)} {v : Value} {o : Option AObj} (h : probe x = some (v, o)) : ∃ H, x = some (v, H) ∧ H.get 1 = o := by
  unfold probe at h
  split at h
  · rename_i v' H
    simp only [Option.some.injEq, Prod.mk.injEq] at h
    obtain ⟨rfl, rfl⟩ := h
    exact ⟨H, rfl, rfl⟩
  · cases h
end Go.Proofs.YtnmmcpaoaepedaaGreatDoor
