/-
  What an operation looks at: its operands alone; a reading in a greater memory.
-/
import Derived.Test.YtnmmcpaoaepedaaGreatDoorAiR
noncomputable section
namespace Go.Ai

theorem evalL_congr {e e' : Operand → Option Value} : ∀ {l : List Operand}, (∀ x ∈ l, e x = e' x) → evalL e l = evalL e' l
  | [], _ => rfl
  | x :: l, h => by
    simp only [evalL]
    rw [h x (by simp), evalL_congr (l := l) (fun y hy => h y (by simp [hy]))]

theorem evalPs_congr {e e' : Operand → Option Value} : ∀ {l : List (Nat × Operand)}, (∀ x ∈ l, e x.2 = e' x.2) → evalPs e l = evalPs e' l
  | [], _ => rfl
  | (i, x) :: l, h => by
    simp only [evalPs]
    rw [h (i, x) (by simp), evalPs_congr (l := l) (fun y hy => h y (by simp [hy]))]

theorem evalO_congr {e e' : Operand → Option Value} {x : Option Operand} (h : ∀ y, x = some y → e y = e' y) : evalO e x = evalO e' x := by
  cases x with
  | none => rfl
  | some y => simp only [evalO]; rw [h y rfl]

theorem allFlat_congr {e e' : Operand → Option Value} : ∀ {l : List Operand}, (∀ x ∈ l, e x = e' x) → allFlat e l = allFlat e' l
  | [], _ => rfl
  | x :: l, h => by
    simp only [allFlat]
    rw [h x (by simp), allFlat_congr (l := l) (fun y hy => h y (by simp [hy]))]

theorem flatP_congr {C : Ctx} {e e' : Operand → Option Value} {o : Oper} (h : ∀ x ∈ o.op.operands, e x = e' x) : flatP C e o = flatP C e' o := by
  unfold flatP
  rw [allFlat_congr (fun x hx => h x (by simpa using hx))]
  cases hb : allFlat e' o.op.operands.toList && noSelect o with
  | false => rfl
  | true =>
    simp only [Bool.and_eq_true] at hb
    have hs : ∀ cs b, o.op ≠ .select cs b := by
      intro cs b hh; have := hb.2; unfold noSelect at this; rw [hh] at this; cases this
    have hc : execOp (valOf e) o = execOp (valOf e') o := execOp_congr o hs (fun x hx => by unfold valOf; rw [h x hx])
    rw [hc]

theorem opP_congr {C : Ctx} {e e' : Operand → Option Value} {o : Oper} (h : ∀ x ∈ o.op.operands, e x = e' x) : opP C e o = opP C e' o := by
  have hf := flatP_congr (C := C) h
  obtain ⟨dst, op, type, pos, after, guard⟩ := o
  cases op
  case makeFunc fn a b =>
    cases fn <;> try rfl
    simp only [opP]
    rw [evalL_congr (e := e) (e' := e') (l := a.toList) (fun x hx => h x (by simp [Op.operands] at hx ⊢; simp [hx])), evalL_congr (e := e) (e' := e') (l := b.toList) (fun x hx => h x (by simp [Op.operands] at hx ⊢; simp [hx]))]
  case slice t x lo hi mx =>
    cases mx with
    | some m => rfl
    | none =>
      simp only [opP]
      rw [h x (by simp [Op.operands]), evalO_congr (x := lo) (fun y hy => h y (by subst hy; simp [Op.operands])), evalO_congr (x := hi) (fun y hy => h y (by subst hy; cases lo <;> simp [Op.operands]))]
  case build t ps =>
    simp only [opP]
    rw [evalPs_congr (e := e) (e' := e') (fun x hx => h x.2 (by simp [Op.operands]; exact ⟨x.1, by simpa using hx⟩))]
  case call c =>
    obtain ⟨callee, args, argTypes⟩ := c
    cases callee with
    | builtin b =>
      cases b <;> first
        | rfl
        | exact hf
        | (simp only [opP]
           cases hl : args.toList with
           | nil => rfl
           | cons x l => cases l with
             | cons y l => rfl
             | nil =>
               have hx : x ∈ args := by rw [← Array.mem_toList_iff, hl]; simp
               have hh := h x (by simp [Op.operands, Call.operands, hx])
               cases ht : argTypes.toList with
               | nil => rfl
               | cons t l => cases l with
                 | cons u l => rfl
                 | nil => dsimp only; rw [hh])
    | _ => rfl
  all_goals (simp only [Op.operands] at h; simp only [opP])
  all_goals (try simp at h)
  all_goals (try simp only [h])
  all_goals (try simp_all only)

theorem opA_congr {C : Ctx} {e e' : Operand → Option Value} {o : Oper} (h : ∀ x ∈ o.op.operands, e x = e' x) : opA C e o = opA C e' o := by
  obtain ⟨dst, op, type, pos, after, guard⟩ := o
  cases op
  case buildSlice t len ps =>
    simp only [opA]
    rw [evalPs_congr (e := e) (e' := e') (fun x hx => h x.2 (by simp [Op.operands]; exact ⟨x.1, by simpa using hx⟩))]
  case makeMap t r =>
    cases r with
    | none => rfl
    | some x => simp only [opA]; rw [h x (by simp [Op.operands])]
  all_goals (simp only [Op.operands] at h; simp only [opA])
  all_goals (try simp at h)
  all_goals (try simp only [h])

theorem opR_congr {C : Ctx} {e e' : Operand → Option Value} {o : Oper} (h : ∀ x ∈ o.op.operands, e x = e' x) : opR C e o = opR C e' o := by
  funext get
  obtain ⟨dst, op, type, pos, after, guard⟩ := o
  cases op
  case call c =>
    obtain ⟨callee, args, argTypes⟩ := c
    cases callee with
    | builtin b =>
      cases b <;> first
        | rfl
        | (simp only [opR]
           cases hl : args.toList with
           | nil => rfl
           | cons x l => cases l with
             | cons y l => rfl
             | nil =>
               have hx : x ∈ args := by rw [← Array.mem_toList_iff, hl]; simp
               have hh := h x (by simp [Op.operands, Call.operands, hx])
               cases ht : argTypes.toList with
               | nil => rfl
               | cons t l => cases l with
                 | cons u l => rfl
                 | nil => dsimp only; rw [hh])
    | _ => rfl
  all_goals (simp only [Op.operands] at h; simp only [opR])
  all_goals (try simp at h)
  all_goals (try simp only [h])

theorem opW_congr {C : Ctx} {e e' : Operand → Option Value} {o : Oper} (h : ∀ x ∈ o.op.operands, e x = e' x) (H : Hp) : opW C e o H = opW C e' o H := by
  obtain ⟨dst, op, type, pos, after, guard⟩ := o
  cases op
  case call c =>
    obtain ⟨callee, args, argTypes⟩ := c
    cases callee with
    | builtin b =>
      cases b <;> first
        | rfl
        | (simp only [opW]
           cases hl : args.toList with
           | nil => rfl
           | cons x l => cases l with
             | nil => rfl
             | cons y l => cases l with
               | cons z l => rfl
               | nil =>
                 have hx : x ∈ args := by rw [← Array.mem_toList_iff, hl]; simp
                 have hy : y ∈ args := by rw [← Array.mem_toList_iff, hl]; simp
                 have hhx := h x (by simp [Op.operands, Call.operands, hx])
                 have hhy := h y (by simp [Op.operands, Call.operands, hy])
                 cases ht : argTypes.toList with
                 | nil => rfl
                 | cons t l => cases l with
                   | nil => rfl
                   | cons u l => cases l with
                     | cons z l => rfl
                     | nil => dsimp only; rw [hhx, hhy])
    | _ => rfl
  all_goals (simp only [Op.operands] at h; simp only [opW])
  all_goals (try simp at h)
  all_goals (try simp only [h])

theorem calleeA_congr {e e' : Operand → Option Value} {c : Call} (h : ∀ x ∈ c.operands, e x = e' x) : calleeA e c = calleeA e' c := by
  obtain ⟨callee, args, argTypes⟩ := c
  cases callee with
  | value f =>
    simp only [calleeA]
    rw [h f (by simp [Call.operands]), evalL_congr (e := e) (e' := e') (l := args.toList) (fun x hx => h x (by simp [Call.operands]; right; simpa using hx))]
  | _ => rfl

theorem wrun_congr {E : Env} {L : Lv} {e e' : Operand → Option Value} {o : Oper} (h : ∀ x ∈ o.op.operands, e x = e' x) (H : Hp) : wrun E L o e H = wrun E L o e' H := by
  have hw := opW_congr (C := E.C) h H
  unfold wrun
  split
  · rename_i c hop
    split
    · unfold callW
      rw [calleeA_congr (e := e) (e' := e') (fun x hx => h x (by rw [hop]; exact hx))]
    · exact hw
  · exact hw

/-! ### A greater memory -/

def More (g g' : Nat → Option AObj) : Prop := ∀ b o, g b = some o → g' b = some o

theorem loadR_more {C : Ctx} {g g' : Nat → Option AObj} (hm : More g g') {t : TypeId} {x v : Value} (h : loadR C g t x = some v) : loadR C g' t x = some v := by
  unfold loadR at *
  split at h
  · rename_i b o
    cases hb : g b with
    | none => rw [hb] at h; simp at h
    | some ob => rw [hb] at h; rw [hm b ob hb]; exact h
  · cases h

theorem lookupR_more {C : Ctx} {g g' : Nat → Option AObj} (hm : More g g') {t : TypeId} {m k v : Value} {ok : Bool} (h : lookupR C g t m k ok = some v) : lookupR C g' t m k ok = some v := by
  unfold lookupR at *
  cases m with
  | map r =>
    cases r with
    | none => exact h
    | some r =>
      cases hb : g r with
      | none =>
        simp only [hb] at h
        split at h
        · rename_i kt et hu
          cases hf : flat k <;> rw [hf] at h <;> simp at h
        · cases h
      | some ob => simp only [hb] at h; simp only [hm r ob hb]; exact h
  | _ => exact h

theorem textR_more {C : Ctx} {g g' : Nat → Option AObj} (hm : More g g') {s d : TypeId} {x v : Value} (h : textR C g s d x = some v) : textR C g' s d x = some v := by
  unfold textR at *
  split at h
  · rename_i el hs hd
    split at h
    · rename_i hel
      split at h
      · exact h
      · rename_i b o n cap
        cases hn : Nat.beq n 0 with
        | true => rw [hn] at h; exact h
        | false =>
          rw [hn] at h
          cases hb : g b with
          | none => rw [hb] at h; simp at h
          | some ob => rw [hb] at h; simp only [hm b ob hb, cond_false] at h ⊢; exact h
      · cases h
    · rename_i hel
      split at h
      · exact h
      · rename_i b o n cap
        cases hn : Nat.beq n 0 with
        | true => rw [hn] at h; exact h
        | false =>
          rw [hn] at h
          cases hb : g b with
          | none => rw [hb] at h; simp at h
          | some ob => rw [hb] at h; simp only [hm b ob hb, cond_false] at h ⊢; exact h
      · cases h
    · cases h
  · cases h

theorem ptrEq_more {C : Ctx} {g g' : Nat → Option AObj} (hm : More g g') {t : TypeId} {a b : Value} {r : Bool} (h : ptrEq C g t a b = some r) : ptrEq C g' t a b = some r := by
  unfold ptrEq at *
  split at h
  · rename_i el p o q o' hu
    split at h
    · rename_i i hi
      cases hz : Nat.beq i.size 0 with
      | true => rw [hz] at h; cases h
      | false =>
        rw [hz] at h
        simp only [cond_false] at h
        cases hp : g p with
        | none => rw [hp] at h; simp at h
        | some o1 =>
          cases hq : g q with
          | none => rw [hp, hq] at h; simp at h
          | some o2 => rw [hp, hq] at h; simp only [hm p o1 hp, hm q o2 hq, cond_false]; exact h
    · cases h
  · cases h

theorem opR_more {C : Ctx} {g g' : Nat → Option AObj} (hm : More g g') {e : Operand → Option Value} {o : Oper} {v : Value} (h : opR C e o g = some v) : opR C e o g' = some v := by
  unfold opR at *
  split at h
  · split at h
    · exact loadR_more hm h
    · cases h
  · split at h
    · exact lookupR_more hm h
    · cases h
  · split at h
    · exact textR_more hm h
    · cases h
  · rename_i op t x y u hop
    cases hx : e x with
    | none => rw [hx] at h; simp at h
    | some a =>
      cases hy : e y with
      | none => rw [hx, hy] at h; simp at h
      | some b =>
        rw [hx, hy] at h
        simp only at h ⊢
        cases hp : ptrEq C g t a b with
        | none => rw [hp] at h; simp at h
        | some r => rw [hp] at h; rw [ptrEq_more hm hp]; exact h
  · split at h
    · rename_i c x t hc hx ht
      split at h
      · rename_i k el r hu hr
        cases hb : g r with
        | none => rw [hb] at h; simp at h
        | some ob => rw [hb] at h; rw [hm r ob hb]; exact h
      · cases h
    · cases h
  · cases h

/-! ### Values held against each other -/

theorem eqBytes_sound {a b : ByteArray} (h : eqBytes (bytesOf a) (bytesOf b) = true) : a = b := by
  rw [eqBytes_eq] at h
  exact bytes_ext (by simpa using h)

theorem vbeq_sound {a b : Value} (h : vbeq a b = true) : a = b := by
  unfold vbeq at h
  split at h
  · simpa using h
  · simpa using h
  · rw [eqBytes_sound h]
  · rfl
  · simpa using h
  · simp only [Bool.and_eq_true, beq_true_iff] at h
    rw [h.1, h.2]
  · simp only [Bool.and_eq_true, beq_true_iff, beq_iff_eq] at h
    rw [h.1.1, h.1.2, h.2]
  · rfl
  · rw [(beq_true_iff _ _).1 h]
  · rfl
  · rfl
  · cases h

theorem lbeq_sound : ∀ {a b : List Value}, lbeq a b = true → a = b
  | [], [], _ => rfl
  | [], _ :: _, h => by simp [lbeq] at h
  | _ :: _, [], h => by simp [lbeq] at h
  | x :: a, y :: b, h => by
    simp only [lbeq, Bool.and_eq_true] at h
    rw [vbeq_sound h.1, lbeq_sound h.2]

theorem veq_sound {a b : Value} (h : veq a b = true) : a = b := by
  unfold veq at h
  split at h
  · have := lbeq_sound h
    rw [Array.toList_inj.1 this]
  · simp only [Bool.and_eq_true, beq_true_iff] at h
    rw [h.1.1, Array.toList_inj.1 (lbeq_sound h.1.2), Array.toList_inj.1 (lbeq_sound h.2)]
  · exact vbeq_sound h

end Go.Ai
