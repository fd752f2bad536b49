/-
  What a run in the kernel has shown.
-/
import Derived.Test.YtnmmcpaoaepedaaGreatDoorAiZa
noncomputable section
namespace Go.Ai

def eqEs : List MapEntry → List MapEntry → Bool
  | [], [] => true
  | a :: l, b :: r => veq a.key b.key && veq a.val b.val && Nat.beq a.born b.born && eqEs l r
  | _, _ => false

theorem eqEs_sound : ∀ {a b : List MapEntry}, eqEs a b = true → a = b
  | [], [], _ => rfl
  | [], _ :: _, h => by simp [eqEs] at h
  | _ :: _, [], h => by simp [eqEs] at h
  | ⟨k, v, n⟩ :: l, ⟨k', v', n'⟩ :: r, h => by
    simp only [eqEs, Bool.and_eq_true] at h
    rw [veq_sound h.1.1.1, veq_sound h.1.1.2, (beq_true_iff _ _).1 h.1.2, eqEs_sound h.2]

def ranMap (x : Option (Value × Hp)) (es : List MapEntry) (n : Nat) : Bool :=
  match x with
  | some (.map (some b), H) => (match H.get b with
    | some (.map es' n') => eqEs es' es && Nat.beq n' n
    | _ => false)
  | _ => false

theorem ranMap_ok {x : Option (Value × Hp)} {es : List MapEntry} {n : Nat} (h : ranMap x es n = true) : ∃ b H, x = some (.map (some b), H) ∧ H.get b = some (.map es n) := by
  unfold ranMap at h
  split at h
  · rename_i b H
    split at h
    · rename_i es' n' hb
      simp only [Bool.and_eq_true] at h
      exact ⟨b, H, rfl, by rw [hb, eqEs_sound h.1, (beq_true_iff _ _).1 h.2]⟩
    · cases h
  · cases h

/-- The answer is v; what 'ask' asks of the heap holds. -/
def ranFlat (x : Option (Value × Hp)) (v : Value) (ask : Hp → Bool) : Bool :=
  match x with
  | some (u, H) => veq u v && ask H
  | none => false

theorem ranFlat_ok {x : Option (Value × Hp)} {v : Value} {ask : Hp → Bool} (h : ranFlat x v ask = true) : ∃ H, x = some (v, H) ∧ ask H = true := by
  unfold ranFlat at h
  split at h
  · rename_i u H
    simp only [Bool.and_eq_true] at h
    exact ⟨H, by rw [veq_sound h.1], h.2⟩
  · cases h

end Go.Ai
