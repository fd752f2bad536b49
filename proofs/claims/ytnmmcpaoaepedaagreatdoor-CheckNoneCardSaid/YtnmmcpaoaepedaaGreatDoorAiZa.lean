/-
  A literal tree and the row that it was made of.
-/
import Derived.Test.YtnmmcpaoaepedaaGreatDoorAiZ
noncomputable section
namespace Go.Ai

def evens {α : Type} : List α → List α
  | [] => []
  | [a] => [a]
  | a :: _ :: r => a :: evens r

theorem evens_get {α : Type} : ∀ (l : List α) (i : Nat), (evens l)[i]? = l[2 * i]?
  | [], i => by simp [evens]
  | [a], i => by cases i <;> simp [evens]
  | a :: b :: r, i => by
    cases i with
    | zero => simp [evens]
    | succ i =>
      have := evens_get r i
      simp only [evens, List.getElem?_cons_succ]
      rw [this]
      have : 2 * (i + 1) = 2 * i + 1 + 1 := by omega
      rw [this, List.getElem?_cons_succ, List.getElem?_cons_succ]

theorem evens_length {α : Type} : ∀ (l : List α), (evens l).length = (l.length + 1) / 2
  | [] => by simp [evens]
  | [a] => by simp [evens]
  | a :: b :: r => by simp only [evens, List.length_cons]; rw [evens_length r]; omega

def mkT {α : Type} : Nat → List α → T α
  | _, [] => .nil
  | 0, a :: _ => .tip a
  | d + 1, a :: l => .bin (mkT d (evens (a :: l))) (mkT d (evens l))

theorem get_mkT {α : Type} : ∀ (d : Nat) (l : List α) (i : Nat), l.length ≤ 2 ^ d → T.get (mkT d l) i = l[i]?
  | d, [], i, _ => by cases d <;> simp [mkT] <;> rfl
  | 0, a :: l, i, h => by
    have : l = [] := by
      cases l with
      | nil => rfl
      | cons b l => simp at h
    subst this
    cases i <;> rfl
  | d + 1, a :: l, i, h => by
    simp only [List.length_cons] at h
    rw [Nat.pow_succ] at h
    rcases Nat.mod_two_eq_zero_or_one i with hi | hi
    · show T.get (.bin _ _) i = _
      rw [T.get_bin0 _ _ hi, get_mkT d _ _ (by rw [evens_length]; simp; omega), evens_get]
      congr 1
      show 2 * (i / 2) = i
      omega
    · show T.get (.bin _ _) i = _
      rw [T.get_bin1 _ _ hi, get_mkT d _ _ (by rw [evens_length]; omega), evens_get]
      obtain ⟨j, rfl⟩ : ∃ j, i = 2 * j + 1 := ⟨i / 2, by omega⟩
      have : Nat.div (2 * j + 1) 2 = j := by show (2 * j + 1) / 2 = j; omega
      rw [this, List.getElem?_cons_succ]

/-! ### The check hangs on the types alone -/

theorem kindOf_congr {C C' : Ctx} (h : C.ty = C'.ty) : kindOf C = kindOf C' := by
  have hu : C.und = C'.und := by funext t; unfold Ctx.und; rw [h]
  funext o
  unfold kindOf
  rw [hu]

theorem planOk_congr {C C' : Ctx} (h : C.ty = C'.ty) : planOk C = planOk C' := by
  have hp : ∀ ops ms l, pairsOk C ops ms l = pairsOk C' ops ms l := by
    intro ops ms l
    have hk : ∀ x, pairOk C ops ms x = pairOk C' ops ms x := by
      intro x; funext y; unfold pairOk; rw [kindOf_congr h]
    induction l with
    | nil => rfl
    | cons x l ih => simp only [pairsOk, hk, ih]
  funext ops p
  unfold planOk
  rw [hp]

end Go.Ai
