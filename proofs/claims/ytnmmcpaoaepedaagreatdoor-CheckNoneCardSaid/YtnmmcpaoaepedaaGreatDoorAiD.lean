/-
  The operations that hang on no memory, one by one.
-/
import Derived.Test.YtnmmcpaoaepedaaGreatDoorAiC
import Derived.Orders
noncomputable section
namespace Go.Ai

/-! ### '==' -/

def nilEq (C : Ctx) (t : TypeId) (a b : Value) : Option Bool :=
  match C.und t, a, b with
  | some .bool, .bool x, .bool y => some (x == y)
  | some (.pointer _), .pointer none, .pointer none => some true
  | some (.pointer _), .pointer none, .pointer (some _) => some false
  | some (.pointer _), .pointer (some _), .pointer none => some false
  | some (.slice _), .slice none _ _, .slice none _ _ => some true
  | some (.slice _), .slice none _ _, .slice (some _) _ _ => some false
  | some (.slice _), .slice (some _) _ _, .slice none _ _ => some false
  | some (.map _ _), .map none, .map none => some true
  | some (.map _ _), .map none, .map (some _) => some false
  | some (.map _ _), .map (some _), .map none => some false
  | some (.func _ _ _), .nilFunc, .nilFunc => some true
  | some (.func _ _ _), .nilFunc, .func _ _ _ => some false
  | some (.func _ _ _), .func _ _ _, .nilFunc => some false
  | some (.interface _), .nilIface, .iface _ _ => some false
  | some (.interface _), .iface _ _, .nilIface => some false
  | _, _, _ => none

theorem equal_succ (t : TypeId) (x y : Value) : Op.equal t x y = Op.equalIn (9999 + 1) t x y := rfl

theorem nilEq_ok {C : Ctx} (hC : C.Ok) {μ : Mu} {t : TypeId} {a b a' b' : Value} {r : Bool} (h : nilEq C t a b = some r) (ra : VR μ a a') (rb : VR μ b b') (w : World) (x y : Operand) (op : BinOp) :
    (eqGuard op t x y a' b').run C.P w = .ok () w ∧ (Op.equal t a' b').run C.P w = .ok r w ∧
      (binOp .eql t a' b' = do pure (.bool (← Op.equal t a' b'))) ∧ (binOp .neq t a' b' = do pure (.bool (!(← Op.equal t a' b')))) := by
  unfold nilEq at h
  split at h
  all_goals first
    | (cases h; done)
    | (rename_i hu
       have hu := run_underlying w (Ctx.und_ok hC hu)
       cases h
       cases ra <;> cases rb <;> (
         refine ⟨?_, ?_, rfl, rfl⟩
         · unfold eqGuard; cases op <;> simp
         · rw [equal_succ]; unfold Op.equalIn; simp only [Sem.run_bind, hu, Result.andThen_ok]; rfl))

/-- Is an operand a constant of the text? -/
def isConst : Operand → Bool
  | .const _ => true
  | _ => false

def binP (C : Ctx) (op : BinOp) (t : TypeId) (x y : Operand) (a b : Value) : Option Value :=
  match a, b with
  | .int k m, .int k' n => binInt op k m k' n
  | .string s, .string u => binStr op s u
  | .nilIface, .nilIface => bif isConst x || isConst y then (match C.und t, op with
      | some (.interface _), .eql => some (.bool true)
      | some (.interface _), .neq => some (.bool false)
      | _, _ => none) else none
  | a, b => match op with
    | .eql => match nilEq C t a b with | some r => some (.bool r) | none => none
    | .neq => match nilEq C t a b with | some r => some (.bool (!r)) | none => none
    | _ => none

theorem nilEq_bool {C : Ctx} (hC : C.Ok) {μ : Mu} {op : BinOp} {t : TypeId} {x y : Operand} {a b a' b' v : Value}
    (h : (match op with
      | .eql => match nilEq C t a b with | some r => some (.bool r) | none => none
      | .neq => match nilEq C t a b with | some r => some (.bool (!r)) | none => none
      | _ => none) = some v) (ra : VR μ a a') (rb : VR μ b b') (w : World) :
    ∃ v', (do eqGuard op t x y a' b'; binOp op t a' b' : Sem Value).run C.P w = .ok v' w ∧ VR μ v v' := by
  cases op
  case eql =>
    simp only at h
    cases hn : nilEq C t a b with
    | none => rw [hn] at h; cases h
    | some r =>
      rw [hn] at h; cases h
      obtain ⟨h1, h2, h3, _⟩ := nilEq_ok hC hn ra rb w x y .eql
      exact ⟨.bool r, by simp [h1, h3, h2], .bool r⟩
  case neq =>
    simp only at h
    cases hn : nilEq C t a b with
    | none => rw [hn] at h; cases h
    | some r =>
      rw [hn] at h; cases h
      obtain ⟨h1, h2, _, h4⟩ := nilEq_ok hC hn ra rb w x y .neq
      exact ⟨.bool (!r), by simp [h1, h4, h2], .bool (!r)⟩
  all_goals (simp only at h; cases h)

theorem binP_ok {C : Ctx} (hC : C.Ok) {μ : Mu} {op : BinOp} {t : TypeId} {x y : Operand} {a b a' b' v : Value} (h : binP C op t x y a b = some v) (ra : VR μ a a') (rb : VR μ b b') (w : World) :
    ∃ v', (do eqGuard op t x y a' b'; binOp op t a' b' : Sem Value).run C.P w = .ok v' w ∧ VR μ v v' := by
  unfold binP at h
  split at h
  · cases ra; cases rb
    refine ⟨v, binInt_ok w h, ?_⟩
    unfold binInt at h
    cases op <;> simp only at h
    case shl => split at h <;> cases h; constructor
    case shr => split at h <;> cases h; constructor
    all_goals
      split at h
      · first | (cases h; first | constructor | (unfold bitsOf; constructor)) | (split at h <;> cases h; constructor) | cases h
      · cases h
  · cases ra; cases rb
    refine ⟨v, binStr_ok w h, ?_⟩
    unfold binStr at h
    cases op <;> simp only at h
    case add =>
      cases hb : Nat.blt ((bytesOf _).length + (bytesOf _).length) 9223372036854775808 with
      | true => rw [hb] at h; cases h; constructor
      | false => rw [hb] at h; cases h
    all_goals first | (cases h; constructor) | cases h
  · cases ra; cases rb
    cases hc : isConst x || isConst y with
    | false => rw [hc] at h; cases h
    | true =>
      rw [hc] at h
      simp only [cond_true] at h
      have hg : ∀ op, (eqGuard op t x y .nilIface .nilIface).run C.P w = .ok () w := by
        intro op
        unfold eqGuard
        cases op <;> simp
        all_goals
          intro h1 h2
          exfalso
          simp only [Bool.or_eq_true] at hc
          rcases hc with hc | hc
          · cases x <;> simp [isConst] at hc; cases h1
          · cases y <;> simp [isConst] at hc; cases h2
      split at h
      · rename_i hu
        have hu := run_underlying w (Ctx.und_ok hC hu)
        cases h
        refine ⟨_, ?_, .bool true⟩
        simp only [Sem.run_bind, hg, Result.andThen_ok]
        simp only [binOp, equal_succ]
        unfold Op.equalIn
        simp only [Sem.run_bind, hu, Result.andThen_ok]; rfl
      · rename_i hu
        have hu := run_underlying w (Ctx.und_ok hC hu)
        cases h
        refine ⟨_, ?_, .bool false⟩
        simp only [Sem.run_bind, hg, Result.andThen_ok]
        simp only [binOp, equal_succ]
        unfold Op.equalIn
        simp only [Sem.run_bind, hu, Result.andThen_ok]; rfl
      · cases h
  · exact nilEq_bool hC h ra rb w

end Go.Ai
