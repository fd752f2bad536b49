/-
  Code: the interpreter's walk is the model's.
-/
import Derived.Test.YtnmmcpaoaepedaaGreatDoorAiQ
noncomputable section
namespace Go.Ai

def okCode (plan : FuncId → Nat → Option (List (Nat × List Nat × List Nat))) (chk : Array Oper → List (Nat × List Nat × List Nat) → Bool) (fn : FuncId) : Code → Bool
  | .region id ops draw => bif draw then (match plan fn id with
      | some p => chk ops p
      | none => true) else true
  | .seq a b => okCode plan chk fn a && okCode plan chk fn b
  | .cond _ a b => okCode plan chk fn a && okCode plan chk fn b
  | .block _ b => okCode plan chk fn b
  | .loop b => okCode plan chk fn b
  | .rangeFunc _ _ a b => okCode plan chk fn a && okCode plan chk fn b
  | .scope b => okCode plan chk fn b
  | _ => true

theorem okCode_label {plan : FuncId → Nat → Option (List (Nat × List Nat × List Nat))} {chk : Array Oper → List (Nat × List Nat × List Nat) → Bool} {fn : FuncId} : ∀ (c : Code) (l : Nat) (rest : Code), okCode plan chk fn c = true → findLabel c l = some rest → okCode plan chk fn rest = true := by
  intro c
  induction c with
  | seq a b iha ihb =>
    intro l rest h hf
    simp only [okCode, Bool.and_eq_true] at h
    simp only [findLabel] at hf
    split at hf
    · rename_i r hr
      cases hf
      simp only [okCode, Bool.and_eq_true]
      exact ⟨iha _ _ h.1 hr, h.2⟩
    · exact ihb _ _ h.2 hf
  | label l' =>
    intro l rest h hf
    simp only [findLabel] at hf
    split at hf
    · cases hf; rfl
    · cases hf
  | _ => intro l rest h hf; simp [findLabel] at hf

theorem CodePost.trans {C : Ctx} {μ μ₁ : Mu} {H H₁ : Hp} {w w₁ : World} {ro : Option Nat} {ex : Ex} {F' : Fr} {H' : Hp} (h : Went C μ H w H₁ w₁ μ₁) {e : Exit} {a' : Act} {w' : World} (k : CodePost C μ₁ H₁ w₁ ro ex F' H' e a' w') : CodePost C μ H w ro ex F' H' e a' w' := by
  obtain ⟨h1, μ', h2, h3⟩ := k
  exact ⟨h1, μ', h.trans h2, h3⟩

/-! ### Loops, scopes: by the number of passes -/

theorem wpIn_passes {F : Fence} {n : Nat} {P : Program} {Q : Exit → Act → World → Prop} {c : Code} (G : Nat → Act → World → Prop)
    (hz : ∀ a w, ¬ G 0 a w) (round : ∀ j a w, G (j + 1) a w → c.wpIn F n P (Exit.then (G j) Q) a w) (j : Nat) (a : Act) (w : World) (h₀ : G j a w) : (Code.loop c).wpIn F n P Q a w := by
  intro b k cs hro hb hr
  have key : ∀ j a w, G j a w →
      ∃ e a' w', Q e a' w' ∧ ArrivesIn (Machine.fenced P F) P (lone (b.atR a (.code c :: .inLoop c :: k)) cs w) b k cs e a' w' := by
    intro j
    induction j with
    | zero => exact fun a w h => absurd h (hz a w)
    | succ j ih =>
      intro a w hG
      obtain ⟨e, a₁, w₁, hq, harr⟩ := round j a w hG b (.inLoop c :: k) cs hro hb hr
      cases e with
      | normal =>
        obtain ⟨e₂, a₂, w₂, hq₂, harr₂⟩ := ih a₁ w₁ hq
        exact ⟨e₂, a₂, w₂, hq₂, .of_steps (StepsIn.trans harr (.one (fenced_calm hb hr rfl) stepR_inLoop)) harr₂⟩
      | exit id => exact ⟨_, a₁, w₁, hq, .pass (x := .inLoop c) rfl (fun _ _ => .inl (by simp)) harr⟩
      | goto l => exact ⟨_, a₁, w₁, hq, .pass (x := .inLoop c) rfl (fun _ _ => .inl (by simp)) harr⟩
      | ret => exact ⟨_, a₁, w₁, hq, .pass (x := .inLoop c) rfl (fun _ _ => .inl (by simp)) harr⟩
      | panic ch => exact ⟨_, a₁, w₁, hq, .pass (x := .inLoop c) rfl (fun _ _ => .inl (by simp)) harr⟩
      | outgrown => exact ⟨_, a₁, w₁, hq, .pass (x := .inLoop c) rfl (fun _ _ => .inl (by simp)) harr⟩
  obtain ⟨e, a', w', hq, harr⟩ := key j a w h₀
  exact ⟨e, a', w', hq, .of_steps (.one (fenced_calm hb hr rfl) stepR_loop) harr⟩

theorem stepR_scope {P : Program} {b : Frame} {a : Act} {k : List Item} {cs : List Frame} {w : World} {c : Code} :
    step P (lone (b.atR a (.code (.scope c) :: k)) cs w) = .next (lone (b.atR a (.code c :: .inScope c :: k)) cs w) :=
  step_lone_go (by simp [stepG, stepG.exec, Frame.atR])
theorem stepR_inScope {P : Program} {b : Frame} {a : Act} {k : List Item} {cs : List Frame} {w : World} {c : Code} : step P (lone (b.atR a (.inScope c :: k)) cs w) = .next (lone (b.atR a k) cs w) :=
  step_lone_go (by simp [stepG, stepG.exec, Frame.atR])

/-- What is asked at a goto within a scope: 'G j l': so many jumps are left; the goto out of the scope. -/
def ScopeQ (c : Code) (G : Nat → Act → World → Prop) (Q : Exit → Act → World → Prop) : Exit → Act → World → Prop
  | .goto l, a, w => match findLabel c l with
    | some _ => G l a w
    | none => Q (.goto l) a w
  | e, a, w => Q e a w

theorem wpIn_scope_passes {F : Fence} {n : Nat} {P : Program} {Q : Exit → Act → World → Prop} {c : Code} (G : Nat → Nat → Act → World → Prop)
    (hz : ∀ l a w, ¬ G 0 l a w) (round : ∀ j l rest a w, G (j + 1) l a w → findLabel c l = some rest → rest.wpIn F n P (ScopeQ c (G j) Q) a w) (j : Nat) (a : Act) (w : World) (h₀ : c.wpIn F n P (ScopeQ c (G j) Q) a w) :
    (Code.scope c).wpIn F n P Q a w := by
  intro b k cs hro hb hr
  have hin : ∀ {a w}, StepsIn (Machine.fenced P F) P (lone (b.atR a (.inScope c :: k)) cs w) (lone (b.atR a k) cs w) := .one (fenced_calm hb hr rfl) stepR_inScope
  have hx : ∀ id, exitTo id (.inScope c :: k) = exitTo id k := fun id => by simp [exitTo]
  have out : ∀ (m : Machine) e a₁ w₁, (∀ l, e = .goto l → findLabel c l = none) → ArrivesIn (Machine.fenced P F) P m b (.inScope c :: k) cs e a₁ w₁ → ArrivesIn (Machine.fenced P F) P m b k cs e a₁ w₁ := by
    intro m e a₁ w₁ hl harr
    cases e with
    | normal => exact StepsIn.trans harr hin
    | exit id => exact ⟨fun k' hk => harr.1 k' (by rw [hx]; exact hk), fun hr' hk => harr.2 hr' (by rw [hx]; exact hk)⟩
    | goto l =>
      have hg : gotoIn l (.inScope c :: k) = gotoIn l k := by simp [gotoIn, hl l rfl]
      exact ⟨fun k' hk => harr.1 k' (by rw [hg]; exact hk), fun hr' hk => harr.2 hr' (by rw [hg]; exact hk)⟩
    | ret => exact harr
    | panic ch => exact harr
    | outgrown => exact harr
  have key : ∀ j l rest a w, G j l a w → findLabel c l = some rest →
      ∃ e a' w', Q e a' w' ∧ ArrivesIn (Machine.fenced P F) P (lone (b.atR a (.code rest :: .inScope c :: k)) cs w) b k cs e a' w' := by
    intro j
    induction j with
    | zero => exact fun l rest a w h _ => absurd h (hz l a w)
    | succ j ih =>
      intro l rest a w hG hf
      obtain ⟨e, a₁, w₁, hq, harr⟩ := round j l rest a w hG hf b (.inScope c :: k) cs hro hb hr
      by_cases hgo : ∃ l' rest', e = .goto l' ∧ findLabel c l' = some rest'
      · obtain ⟨l', rest', rfl, hf'⟩ := hgo
        simp only [ScopeQ, hf'] at hq
        obtain ⟨e₂, a₂, w₂, hq₂, harr₂⟩ := ih l' rest' a₁ w₁ hq hf'
        exact ⟨e₂, a₂, w₂, hq₂, .of_steps (harr.1 _ (by simp [gotoIn, hf'])) harr₂⟩
      · have hno : ∀ l', e = .goto l' → findLabel c l' = none := fun l' he => by
          cases hfl : findLabel c l' with
          | none => rfl
          | some r => exact absurd ⟨l', r, he, hfl⟩ hgo
        refine ⟨e, a₁, w₁, ?_, out _ e a₁ w₁ hno harr⟩
        cases e with
        | goto l' => simpa only [ScopeQ, hno l' rfl] using hq
        | _ => exact hq
  obtain ⟨e, a₁, w₁, hq, harr⟩ := h₀ b (.inScope c :: k) cs hro hb hr
  have hs : StepsIn (Machine.fenced P F) P (lone (b.atR a (.code (.scope c) :: k)) cs w) (lone (b.atR a (.code c :: .inScope c :: k)) cs w) := .one (fenced_calm hb hr rfl) stepR_scope
  by_cases hgo : ∃ l' rest', e = .goto l' ∧ findLabel c l' = some rest'
  · obtain ⟨l', rest', rfl, hf'⟩ := hgo
    simp only [ScopeQ, hf'] at hq
    obtain ⟨e₂, a₂, w₂, hq₂, harr₂⟩ := key j l' rest' a₁ w₁ hq hf'
    exact ⟨e₂, a₂, w₂, hq₂, .of_steps (hs.trans (harr.1 _ (by simp [gotoIn, hf']))) harr₂⟩
  · have hno : ∀ l', e = .goto l' → findLabel c l' = none := fun l' he => by
      cases hfl : findLabel c l' with
      | none => rfl
      | some r => exact absurd ⟨l', r, he, hfl⟩ hgo
    refine ⟨e, a₁, w₁, ?_, .of_steps hs (out _ e a₁ w₁ hno harr)⟩
    cases e with
    | goto l' => simpa only [ScopeQ, hno l' rfl] using hq
    | _ => exact hq

end Go.Ai
