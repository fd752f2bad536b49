/-
  The operations that hang on no memory, one by one: places, slices, parts.
-/
import Derived.Test.YtnmmcpaoaepedaaGreatDoorAiD
noncomputable section
namespace Go.Ai

/-- The cells of a value, as a list. -/
def cellsL : Value → List Value
  | .agg cs => cs.toList
  | v => [v]
theorem cellsL_eq (v : Value) : v.cells.toList = cellsL v := by cases v <;> rfl

theorem VR.cells {μ : Mu} {v v' : Value} (h : VR μ v v') : LR μ (cellsL v) (cellsL v') := by
  cases h with
  | agg hs h => exact ArR.toList ⟨hs, h⟩
  | _ => exact LR.cons (by constructor <;> assumption) (LR.nil μ)

/-! ### Bounds -/

def intOf' : Value → Option Int
  | .int _ n => some n
  | _ => none

def bound (x : Value) (y : Nat) : Option Nat :=
  match x with
  | .int _ i => if 0 ≤ i ∧ i ≤ y then some i.toNat else none
  | _ => none

theorem bound_ok {C : Ctx} {μ : Mu} {x x' : Value} {y n : Nat} (h : bound x y = some n) (r : VR μ x x') (c : BoundsCode) (w : World) :
    (Instr.sliceBound x' y c).run C.P w = .ok n w ∧ n ≤ y := by
  unfold bound at h
  split at h
  · rename_i k i
    cases r
    split at h
    · rename_i hi
      cases h
      refine ⟨?_, by omega⟩
      simp only [Instr.sliceBound, asIntOf, Sem.run_bind, Sem.run_pure, Result.andThen_ok]
      rw [if_pos hi]; rfl
    · cases h
  · cases h

/-- low, high of a slice expression without a third index. -/
def bounds (len cap : Nat) (lo hi : Option Value) : Option (Nat × Nat) :=
  match hi with
  | some v => match bound v cap with
    | some h => match lo with
      | some u => match bound u h with
        | some l => some (l, h)
        | none => none
      | none => some (0, h)
    | none => none
  | none => match lo with
    | some u => match bound u len with
      | some l => some (l, len)
      | none => none
    | none => some (0, len)

/-- Options of values. -/
def OpV (μ : Mu) (a a' : Option Value) : Prop :=
  match a, a' with
  | some v, some v' => VR μ v v'
  | none, none => True
  | _, _ => False

theorem bounds_ok {C : Ctx} {μ : Mu} {lo hi lo' hi' : Option Value} {len cap cap' l h : Nat} (e : bounds len cap lo hi = some (l, h)) (hlo : OpV μ lo lo') (hhi : OpV μ hi hi') (hc : cap ≤ cap') (isS : Bool) (w : World) :
    (Instr.sliceBounds isS len cap' lo' hi' none).run C.P w = .ok (l, h, cap') w ∧ l ≤ h ∧ (h ≤ cap ∨ h = len) := by
  have bnd : ∀ (x x' : Value) (y y' n : Nat) (c : BoundsCode), bound x y = some n → VR μ x x' → y ≤ y' → (Instr.sliceBound x' y' c).run C.P w = .ok n w := by
    intro x x' y y' n c hb r hy
    refine (bound_ok (C := C) (n := n) (y := y') ?_ r c w).1
    unfold bound at hb ⊢
    split at hb
    · split at hb
      · rename_i hi; cases hb; rw [if_pos ⟨hi.1, by omega⟩]
      · cases hb
    · cases hb
  unfold bounds at e
  cases hi with
  | none =>
    cases hi' with
    | some _ => exact hhi.elim
    | none =>
      cases lo with
      | none =>
        cases lo' with
        | some _ => exact hlo.elim
        | none => cases e; simp [Instr.sliceBounds]
      | some u =>
        cases lo' with
        | none => exact hlo.elim
        | some u' =>
          simp only at e
          cases hb : bound u len with
          | none => rw [hb] at e; cases e
          | some n =>
            rw [hb] at e; cases e
            have h1 := (bound_ok (C := C) hb hlo .sliceB w)
            exact ⟨by simp [Instr.sliceBounds, h1.1], h1.2, .inr rfl⟩
  | some v =>
    cases hi' with
    | none => exact hhi.elim
    | some v' =>
      simp only at e
      cases hv : bound v cap with
      | none => rw [hv] at e; cases e
      | some n =>
        rw [hv] at e
        have hle := (bound_ok (C := C) hv hhi .sliceAcap w).2
        cases lo with
        | none =>
          cases lo' with
          | some _ => exact hlo.elim
          | none =>
            cases e
            have h1 := bnd v v' cap cap' h (if isS then .sliceAcap else .sliceAlen) hv hhi hc
            exact ⟨by simp [Instr.sliceBounds, h1], by omega, .inl hle⟩
        | some u =>
          cases lo' with
          | none => exact hlo.elim
          | some u' =>
            simp only at e
            cases hb : bound u n with
            | none => rw [hb] at e; cases e
            | some m =>
              rw [hb] at e; cases e
              have h1 := bnd v v' cap cap' h (if isS then .sliceAcap else .sliceAlen) hv hhi hc
              have h2 := (bound_ok (C := C) hb hlo .sliceB w)
              exact ⟨by simp [Instr.sliceBounds, h1, h2.1], h2.2, .inl hle⟩

def sliceP (C : Ctx) (t : TypeId) (x : Value) (lo hi : Option Value) : Option Value :=
  match C.und t, x with
  | some .string, .string s => match bounds (bytesOf s).length (bytesOf s).length lo hi with
    | some (l, h) => some (.string (ofBytes (((bytesOf s).drop l).take (h - l))))
    | none => none
  | some (.slice e), .slice a len cap => match C.ty e with
    | some i => match a with
      | none => match bounds len cap lo hi with
        | some (l, h) => some (.slice none (h - l) (cap - l))
        | none => none
      | some ⟨b, o, none⟩ => bif Nat.blt cap big then
          match bounds len cap lo hi with
          | some (l, h) => some (.slice (some ⟨b, bif Nat.beq cap l then o else o + l * i.size, none⟩) (h - l) (cap - l))
          | none => none
        else
          match bounds len len lo hi with
          | some (l, h) => some (.slice (some ⟨b, o + l * i.size, none⟩) (h - l) (cap + l))
          | none => none
      | _ => none
    | none => none
  | some (.array n e), .pointer (some ⟨b, o, none⟩) => match C.ty e with
    | some i => bif Nat.blt n big then
        match bounds n n lo hi with
        | some (l, h) => some (.slice (some ⟨b, bif Nat.beq n l then o else o + l * i.size, none⟩) (h - l) (n - l))
        | none => none
      else none
    | none => none
  | _, _ => none

theorem add_eq (c o n : Nat) : Addr.add ⟨c, o, none⟩ n = ⟨c, o + n, none⟩ := by
  unfold Addr.add; split
  · rename_i h; subst h; rfl
  · rfl

theorem beq_true_iff (a b : Nat) : Nat.beq a b = true ↔ a = b := Nat.beq_eq ▸ Iff.rfl

theorem sliceP_ok {C : Ctx} (hC : C.Ok) {μ : Mu} {t : TypeId} {x x' v : Value} {lo hi lo' hi' : Option Value} (e : sliceP C t x lo hi = some v) (r : VR μ x x') (hlo : OpV μ lo lo') (hhi : OpV μ hi hi') (w : World) :
    ∃ v', (Instr.sliceAt t x' lo' hi' none).run C.P w = .ok v' w ∧ VR μ v v' := by
  unfold sliceP at e
  split at e
  · rename_i s hu
    have hu := run_underlying w (Ctx.und_ok hC hu)
    cases r
    cases hb : bounds (bytesOf s).length (bytesOf s).length lo hi with
    | none => rw [hb] at e; cases e
    | some lh =>
      obtain ⟨l, h⟩ := lh
      rw [hb] at e; cases e
      have h1 := (bounds_ok (C := C) hb hlo hhi (Nat.le_refl _) false w).1
      rw [← size_bytes] at h1
      refine ⟨_, ?_, .str _⟩
      simp only [Instr.sliceAt, Instr.slice, Sem.run_bind, hu, Result.andThen_ok, h1, Option.isSome_none, Bool.false_eq_true, if_false]
      rw [bytesOf_extract]; rfl
  · rename_i el a len cap hu
    have hu := run_underlying w (Ctx.und_ok hC hu)
    cases hi1 : C.ty el with
    | none => rw [hi1] at e; cases e
    | some i =>
      rw [hi1] at e
      have hsz := run_sizeOf w (hC.ty _ _ hi1)
      simp only at e
      split at e
      · -- nil
        cases r with
        | sliceNil =>
          cases hb : bounds len cap lo hi with
          | none => rw [hb] at e; cases e
          | some lh =>
            obtain ⟨l, h⟩ := lh
            rw [hb] at e; cases e
            have h1 := (bounds_ok (C := C) hb hlo hhi (Nat.le_refl _) true w).1
            refine ⟨_, ?_, .sliceNil _ _⟩
            simp only [Instr.sliceAt, Instr.slice, Sem.run_bind, hu, Result.andThen_ok, h1, hsz, Option.map_none, ite_self]; rfl
      · rename_i b o
        cases hcap : Nat.blt cap big with
        | true =>
          rw [hcap] at e
          simp only [cond_true] at e
          have hcap' := (blt_iff _ _).1 hcap
          cases hb : bounds len cap lo hi with
          | none => rw [hb] at e; cases e
          | some lh =>
            obtain ⟨l, h⟩ := lh
            rw [hb] at e; cases e
            have h1 := bounds_ok (C := C) hb hlo hhi (Nat.le_refl _) true w
            cases r with
            | slice hm hk =>
              refine ⟨_, ?_, VR.slice hm (by omega)⟩
              simp only [Instr.sliceAt, Instr.slice, Sem.run_bind, hu, Result.andThen_ok, h1.1, hsz]
              by_cases hcl : cap = l
              · rw [if_pos hcl]; subst hcl; simp
              · have : Nat.beq cap l = false := by
                  cases hq : Nat.beq cap l with
                  | false => rfl
                  | true => exact absurd ((beq_true_iff _ _).1 hq) hcl
                rw [if_neg hcl, this]; simp [add_eq, Nat.add_assoc]
            | sliceG => omega
            | sliceE => omega
        | false =>
          rw [hcap] at e
          simp only [cond_false] at e
          have hcap' := (blt_false _ _).1 hcap
          cases hb : bounds len len lo hi with
          | none => rw [hb] at e; cases e
          | some lh =>
            obtain ⟨l, h⟩ := lh
            rw [hb] at e; cases e
            cases r with
            | slice hm hk => omega
            | @sliceG _ _ c sh k _ lo₀ hm hk hbg =>
              have h1 := bounds_ok (C := C) (cap' := k - lo₀) hb hlo hhi (by omega) true w
              have hh : h ≤ len := by rcases h1.2.2 with q | q <;> omega
              by_cases hcl : k - lo₀ = l
              · have hl : h - l = 0 := by omega
                rw [hl, Nat.add_assoc]
                refine ⟨_, ?_, VR.sliceE (a := ⟨c, sh + o, none⟩)⟩
                simp only [Instr.sliceAt, Instr.slice, Sem.run_bind, hu, Result.andThen_ok, h1.1, hsz]
                rw [if_pos hcl, hl, hcl]; simp
              · have e1 : big + lo₀ + l = big + (lo₀ + l) := by omega
                rw [e1]
                refine ⟨_, ?_, VR.sliceG hm (by omega) hbg⟩
                simp only [Instr.sliceAt, Instr.slice, Sem.run_bind, hu, Result.andThen_ok, h1.1, hsz]
                rw [if_neg hcl]; simp [add_eq, Nat.add_assoc, Nat.sub_sub]
            | @sliceE _ _ lo₀ a =>
              have h1 := bounds_ok (C := C) (cap' := 0) hb hlo hhi (by omega) true w
              have hh : h = 0 := by rcases h1.2.2 with q | q <;> omega
              have hl : l = 0 := by omega
              subst hh; subst hl
              refine ⟨_, ?_, VR.sliceE (a := a)⟩
              simp only [Instr.sliceAt, Instr.slice, Sem.run_bind, hu, Result.andThen_ok, h1.1, hsz]
              simp
      · cases e
  · rename_i n el b o hu
    have hu := run_underlying w (Ctx.und_ok hC hu)
    cases hi1 : C.ty el with
    | none => rw [hi1] at e; cases e
    | some i =>
      rw [hi1] at e
      have hsz := run_sizeOf w (hC.ty _ _ hi1)
      simp only at e
      cases hcap : Nat.blt n big with
      | false => rw [hcap] at e; cases e
      | true =>
        rw [hcap] at e
        simp only [cond_true] at e
        have hcap' := (blt_iff _ _).1 hcap
        cases hb : bounds n n lo hi with
        | none => rw [hb] at e; cases e
        | some lh =>
          obtain ⟨l, h⟩ := lh
          rw [hb] at e; cases e
          have h1 := bounds_ok (C := C) hb hlo hhi (Nat.le_refl _) false w
          cases r with
          | ptr hm =>
            refine ⟨_, ?_, VR.slice hm (by omega)⟩
            simp only [Instr.sliceAt, Instr.sureAddr, Sem.run_bind, Sem.run_pure, hu, Result.andThen_ok, h1.1, hsz]
            by_cases hcl : n = l
            · rw [if_pos hcl]; subst hcl; simp
            · have : Nat.beq n l = false := by
                cases hq : Nat.beq n l with
                | false => rfl
                | true => exact absurd ((beq_true_iff _ _).1 hq) hcl
              rw [if_neg hcl, this]; simp [add_eq, Nat.add_assoc]
  · cases e

end Go.Ai
