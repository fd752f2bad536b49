/-
  Frames: the interpreter's frame and the model's activation.
-/
import Derived.Test.YtnmmcpaoaepedaaGreatDoorAiN
import Derived.RangeFuncRecord
import Derived.RangeFuncCalls
import Derived.Orders
noncomputable section
namespace Go.Ai

/-! ### Leaves -/

def T.has : T Value → Nat → Bool
  | .nil, _ => false
  | .tip _, i => match i with
    | 0 => true
    | _ + 1 => false
  | .bin l r, i => match Nat.mod i 2 with
    | 0 => T.has l (Nat.div i 2)
    | _ + 1 => T.has r (Nat.div i 2)

theorem two_cases (i : Nat) : (Nat.mod i 2 = 0 ∧ i = 2 * Nat.div i 2) ∨ (Nat.mod i 2 = 1 ∧ i = 2 * Nat.div i 2 + 1) := by
  have h1 : Nat.mod i 2 = i % 2 := rfl
  have h2 : Nat.div i 2 = i / 2 := rfl
  rw [h1, h2]; omega

theorem T.look_bin0 (l r : T Value) {i : Nat} (h : Nat.mod i 2 = 0) : T.look (.bin l r) i = T.look l (Nat.div i 2) := by
  show Nat.rec (motive := fun _ => Value) _ _ (Nat.mod i 2) = _
  rw [h]; rfl
theorem T.look_bin1 (l r : T Value) {i : Nat} (h : Nat.mod i 2 = 1) : T.look (.bin l r) i = T.look r (Nat.div i 2) := by
  show Nat.rec (motive := fun _ => Value) _ _ (Nat.mod i 2) = _
  rw [h]; rfl
theorem T.has_bin0 (l r : T Value) {i : Nat} (h : Nat.mod i 2 = 0) : T.has (.bin l r) i = T.has l (Nat.div i 2) := by simp only [T.has, h]
theorem T.has_bin1 (l r : T Value) {i : Nat} (h : Nat.mod i 2 = 1) : T.has (.bin l r) i = T.has r (Nat.div i 2) := by simp only [T.has, h]
theorem T.put_bin0 {α : Type} (l r : T α) {i : Nat} (v : α) (h : Nat.mod i 2 = 0) : T.put (.bin l r) i v = .bin (T.put l (Nat.div i 2) v) r := by
  show Nat.rec (motive := fun _ => T α) _ _ (Nat.mod i 2) = _
  rw [h]; rfl
theorem T.put_bin1 {α : Type} (l r : T α) {i : Nat} (v : α) (h : Nat.mod i 2 = 1) : T.put (.bin l r) i v = .bin l (T.put r (Nat.div i 2) v) := by
  show Nat.rec (motive := fun _ => T α) _ _ (Nat.mod i 2) = _
  rw [h]; rfl

theorem T.has_put (t : T Value) : ∀ (i j : Nat) (v : Value), T.has (T.put t i v) j = T.has t j := by
  induction t with
  | nil => intro i j v; rfl
  | tip a => intro i j v; cases i <;> cases j <;> rfl
  | bin l r ihl ihr =>
    intro i j v
    rcases two_cases i with ⟨hi, _⟩ | ⟨hi, _⟩ <;> rcases two_cases j with ⟨hj, _⟩ | ⟨hj, _⟩
    · rw [T.put_bin0 _ _ _ hi, T.has_bin0 _ _ hj, T.has_bin0 _ _ hj, ihl]
    · rw [T.put_bin0 _ _ _ hi, T.has_bin1 _ _ hj, T.has_bin1 _ _ hj]
    · rw [T.put_bin1 _ _ _ hi, T.has_bin0 _ _ hj, T.has_bin0 _ _ hj]
    · rw [T.put_bin1 _ _ _ hi, T.has_bin1 _ _ hj, T.has_bin1 _ _ hj, ihr]

theorem T.look_put (t : T Value) : ∀ (i j : Nat) (v : Value), T.look (T.put t i v) j = if i = j ∧ T.has t i = true then v else T.look t j := by
  induction t with
  | nil => intro i j v; rw [if_neg (by simp [T.has])]; rfl
  | tip a =>
    intro i j v
    cases i with
    | zero =>
      cases j with
      | zero => rw [if_pos ⟨rfl, rfl⟩]; rfl
      | succ j => rw [if_neg (by simp)]; rfl
    | succ i => rw [if_neg (by simp [T.has])]; rfl
  | bin l r ihl ihr =>
    intro i j v
    rcases two_cases i with ⟨hi, ei⟩ | ⟨hi, ei⟩ <;> rcases two_cases j with ⟨hj, ej⟩ | ⟨hj, ej⟩
    · rw [T.put_bin0 _ _ _ hi, T.look_bin0 _ _ hj, T.look_bin0 _ _ hj, ihl, T.has_bin0 _ _ hi]
      have : Nat.div i 2 = Nat.div j 2 ↔ i = j := by omega
      simp only [this]
    · rw [T.put_bin0 _ _ _ hi, T.look_bin1 _ _ hj, T.look_bin1 _ _ hj, if_neg (by omega)]
    · rw [T.put_bin1 _ _ _ hi, T.look_bin0 _ _ hj, T.look_bin0 _ _ hj, if_neg (by omega)]
    · rw [T.put_bin1 _ _ _ hi, T.look_bin1 _ _ hj, T.look_bin1 _ _ hj, ihr, T.has_bin1 _ _ hi]
      have : Nat.div i 2 = Nat.div j 2 ↔ i = j := by omega
      simp only [this]

theorem T.look_no (t : T Value) : ∀ (i : Nat), T.has t i = false → T.look t i = undef := by
  induction t with
  | nil => intro i _; rfl
  | tip a => intro i h; cases i with
    | zero => simp [T.has] at h
    | succ i => rfl
  | bin l r ihl ihr =>
    intro i h
    rcases two_cases i with ⟨hi, _⟩ | ⟨hi, _⟩
    · rw [T.has_bin0 _ _ hi] at h; rw [T.look_bin0 _ _ hi]; exact ihl _ h
    · rw [T.has_bin1 _ _ hi] at h; rw [T.look_bin1 _ _ hi]; exact ihr _ h

theorem T.put_comm {α : Type} (t : T α) : ∀ (i j : Nat) (v u : α), i ≠ j → T.put (T.put t i v) j u = T.put (T.put t j u) i v := by
  induction t with
  | nil => intro i j v u _; rfl
  | tip a => intro i j v u h; cases i <;> cases j <;> first | rfl | exact absurd rfl h
  | bin l r ihl ihr =>
    intro i j v u h
    rcases two_cases i with ⟨hi, ei⟩ | ⟨hi, ei⟩ <;> rcases two_cases j with ⟨hj, ej⟩ | ⟨hj, ej⟩
    · rw [T.put_bin0 _ _ _ hi, T.put_bin0 _ _ _ hj, T.put_bin0 _ _ _ hj, T.put_bin0 _ _ _ hi, ihl _ _ _ _ (by omega)]
    · rw [T.put_bin0 _ _ _ hi, T.put_bin1 _ _ _ hj, T.put_bin1 _ _ _ hj, T.put_bin0 _ _ _ hi]
    · rw [T.put_bin1 _ _ _ hi, T.put_bin0 _ _ _ hj, T.put_bin0 _ _ _ hj, T.put_bin1 _ _ _ hi]
    · rw [T.put_bin1 _ _ _ hi, T.put_bin1 _ _ _ hj, T.put_bin1 _ _ _ hj, T.put_bin1 _ _ _ hi, ihr _ _ _ _ (by omega)]

theorem T.has_full (d : Nat) : ∀ (n i : Nat), n ≤ 2 ^ d → (T.has (T.full d n) i = true ↔ i < n) := by
  induction d with
  | zero =>
    intro n i hn
    cases n with
    | zero => simp [T.full, T.has]
    | succ n =>
      have : n = 0 := by simp at hn; omega
      subst this
      cases i <;> simp [T.full, T.has]
  | succ d ih =>
    intro n i hn
    have h1 : Nat.div (Nat.succ n) 2 = (n + 1) / 2 := rfl
    have h2 : Nat.div n 2 = n / 2 := rfl
    have hn' : n ≤ 2 * 2 ^ d := by rw [Nat.pow_succ] at hn; omega
    simp only [T.full]
    rcases two_cases i with ⟨hi, ei⟩ | ⟨hi, ei⟩
    · rw [T.has_bin0 _ _ hi, ih _ _ (by omega)]; omega
    · rw [T.has_bin1 _ _ hi, ih _ _ (by omega)]; omega

theorem T.look_full (d : Nat) : ∀ (n i : Nat), T.look (T.full d n) i = undef := by
  induction d with
  | zero => intro n i; cases n <;> cases i <;> rfl
  | succ d ih =>
    intro n i
    simp only [T.full]
    rcases two_cases i with ⟨hi, ei⟩ | ⟨hi, ei⟩
    · rw [T.look_bin0 _ _ hi, ih]
    · rw [T.look_bin1 _ _ hi, ih]

theorem T.has_putAll : ∀ (l : List Value) (i : Nat) (t : T Value) (j : Nat), T.has (putAll i l t) j = T.has t j
  | [], _, _, _ => rfl
  | v :: l, i, t, j => by rw [putAll, T.has_putAll l, T.has_put]

theorem T.look_putAll : ∀ (l : List Value) (i : Nat) (t : T Value) (j : Nat), (∀ k, i ≤ k → k < i + l.length → T.has t k = true) →
    T.look (putAll i l t) j = if h : i ≤ j ∧ j < i + l.length then l[j - i]'(by omega) else T.look t j
  | [], i, t, j, _ => by rw [dif_neg (by simp)]; rfl
  | v :: l, i, t, j, h => by
    rw [putAll, T.look_putAll l (i + 1) _ j (fun k h1 h2 => by rw [T.has_put]; exact h k (by omega) (by simp; omega)), T.look_put]
    have hi := h i (Nat.le_refl _) (by simp)
    by_cases h1 : i = j
    · subst h1
      rw [dif_neg (by omega), dif_pos (by simp), if_pos ⟨rfl, hi⟩]
      simp
    · by_cases h2 : i + 1 ≤ j ∧ j < i + 1 + l.length
      · rw [dif_pos h2, dif_pos (by simp; omega)]
        have : j - i = (j - (i + 1)) + 1 := by omega
        simp only [this, List.getElem_cons_succ]
      · rw [dif_neg h2, dif_neg (by simp; omega), if_neg (fun h => h1 h.1)]

theorem le_depthOf (n : Nat) : n ≤ 2 ^ depthOf n := by
  unfold depthOf
  exact Nat.le_of_lt Nat.lt_log2_self

/-! ### A frame stands for an activation -/

def DR1 (μ : Mu) (d d' : Deferred) : Prop :=
  match d.target, d'.target with
  | .collected r, .collected r' => ∃ sh k, μ r = some (r', sh, k)
  | .fn (.func g) _, .fn (.func g') _ => g' = g
  | _, _ => False

inductive DR (μ : Mu) : List Deferred → List Deferred → Prop
  | nil : DR μ [] []
  | cons {d d' : Deferred} {l l' : List Deferred} (h : DR1 μ d d') (t : DR μ l l') : DR μ (d :: l) (d' :: l')

theorem DR1.mono {μ μ' : Mu} (hl : Mu.le μ μ') {d d' : Deferred} (h : DR1 μ d d') : DR1 μ' d d' := by
  unfold DR1 at *
  split at h
  · obtain ⟨s, k, e⟩ := h; exact ⟨s, k, hl _ _ e⟩
  · exact h
  · exact h.elim

theorem DR.mono {μ μ' : Mu} (hl : Mu.le μ μ') {l l' : List Deferred} (h : DR μ l l') : DR μ' l l' := by
  induction h with
  | nil => exact .nil
  | cons h _ ih => exact .cons (h.mono hl) ih

def RoR (μ : Mu) : Option Nat → Option Nat → Prop
  | none, none => True
  | some l, some c => ∃ sh k, μ l = some (c, sh, k)
  | _, _ => False

theorem RoR.mono {μ μ' : Mu} (hl : Mu.le μ μ') {l l' : Option Nat} (h : RoR μ l l') : RoR μ' l l' := by
  unfold RoR at *
  split at h
  · trivial
  · obtain ⟨s, k, e⟩ := h; exact ⟨s, k, hl _ _ e⟩
  · exact h.elim

structure FrR (μ : Mu) (ro : Option Nat) (F : Fr) (a : Act) : Prop where
  size : a.tmps.size = F.n
  key : ∀ i, T.has F.t i = true ↔ i < F.n
  slot : ∀ i, VR μ (F.get i) (a.tmps.getD i undef)
  ds : DR μ F.ds a.defers
  ro : RoR μ F.ro ro

theorem VR.undef (μ : Mu) : VR μ undef undef := .tuple rfl (fun i v v' h => by simp at h)

theorem FrR.mono {μ μ' : Mu} (hl : Mu.le μ μ') {ro : Option Nat} {F : Fr} {a : Act} (h : FrR μ ro F a) : FrR μ' ro F a :=
  ⟨h.size, h.key, fun i => (h.slot i).mono hl, h.ds.mono hl, h.ro.mono hl⟩

theorem FrR.eval {C : Ctx} {μ : Mu} {ro : Option Nat} {F : Fr} {a : Act} (h : FrR μ ro F a) (hg : ∀ g, g < C.ng → ∃ k, μ g = some (g, 0, k)) : OpR μ (evalA C F) a.eval := by
  intro x v hx
  cases x with
  | tmp t => simp only [evalA, Option.some.injEq] at hx; subst hx; exact h.slot t
  | const u =>
    simp only [evalA] at hx
    cases hf : flat u with
    | false => rw [hf] at hx; cases hx
    | true => rw [hf] at hx; simp only [cond_true, Option.some.injEq] at hx; subst hx; exact flat_refl hf
  | global g =>
    simp only [evalA] at hx
    cases hf : Nat.blt g C.ng with
    | false => rw [hf] at hx; cases hx
    | true =>
      rw [hf] at hx; simp only [cond_true, Option.some.injEq] at hx; subst hx
      obtain ⟨k, e⟩ := hg g ((blt_iff _ _).1 hf)
      have := VR.ptr (o := 0) e
      simpa [Act.eval] using this
  | func f =>
    simp only [evalA, Option.some.injEq] at hx; subst hx
    exact .func (fun l => by simp) rfl (fun i v v' h => by simp at h) rfl (fun i v v' h => by simp at h)

theorem FrR.put {μ : Mu} {ro : Option Nat} {F : Fr} {a : Act} (h : FrR μ ro F a) {v v' : Value} (hv : VR μ v v') (dst : Option Tmp) : FrR μ ro (putD F dst v) (a.put dst v') := by
  cases dst with
  | none => exact h
  | some d =>
    refine ⟨?_, fun i => ?_, fun i => ?_, h.ds, h.ro⟩
    · simp [Act.put, putD, Fr.set, h.size]
    · show T.has (T.put F.t d v) i = true ↔ _
      rw [T.has_put]; exact h.key i
    · show VR μ (T.look (T.put F.t d v) i) _
      rw [T.look_put]
      by_cases hd : d = i
      · subst hd
        by_cases hlt : d < F.n
        · rw [if_pos ⟨rfl, (h.key d).2 hlt⟩]
          have : d < a.tmps.size := by rw [h.size]; exact hlt
          simpa [Act.put, this] using hv
        · have hk : T.has F.t d = false := by
            cases hh : T.has F.t d with
            | false => rfl
            | true => exact absurd ((h.key d).1 hh) hlt
          rw [if_neg (by simp [hk])]
          have := h.slot d
          have hs : ¬ d < a.tmps.size := by rw [h.size]; exact hlt
          simpa [Act.put, Fr.get, hs] using this
      · rw [if_neg (fun h => hd h.1)]
        have := h.slot i
        simpa [Act.put, Fr.get, Array.getElem?_setIfInBounds_ne hd] using this

theorem putD_ds (F : Fr) (dst : Option Tmp) (v : Value) : (putD F dst v).ds = F.ds := by cases dst <;> rfl
theorem putD_ro (F : Fr) (dst : Option Tmp) (v : Value) : (putD F dst v).ro = F.ro := by cases dst <;> rfl

theorem FrR.defer {μ : Mu} {ro : Option Nat} {F : Fr} {a : Act} (h : FrR μ ro F a) {ds ds' : List Deferred} (hd : DR μ ds ds') : FrR μ ro { F with ds := ds } { a with defers := ds' } :=
  ⟨h.size, h.key, h.slot, hd, h.ro⟩

theorem VR.bool_iff {μ : Mu} {v v' : Value} (h : VR μ v v') (b : Bool) : v = .bool b ↔ v' = .bool b := by
  cases h <;> simp

theorem FrR.yielded {μ : Mu} {ro : Option Nat} {F : Fr} {a : Act} (h : FrR μ ro F a) (ops : Array Oper) (j : Nat) : yieldedA ops.toList F j = Go.yielded ops a.tmps j := by
  unfold yieldedA Go.yielded
  rw [Array.getElem?_toList]
  cases ho : ops[j]? with
  | none => rfl
  | some o =>
    simp only [Option.bind_some]
    cases hd : o.dst with
    | none => rfl
    | some t =>
      simp only [Option.bind_some]
      have hs := h.slot t
      rw [Array.getD_eq_getD_getElem?] at hs
      cases ht : a.tmps[t]? with
      | none =>
        rw [ht] at hs
        simp only [Option.getD_none] at hs
        have : ∀ b, F.get t ≠ .bool b := fun b hb => by
          have := (hs.bool_iff b).1 hb
          simp [undef] at this
        cases hF : F.get t <;> first | rfl | exact absurd hF (this _)
      | some v' =>
        rw [ht] at hs
        simp only [Option.getD_some] at hs
        have hb := hs.bool_iff
        cases hF : F.get t with
        | bool b =>
          have := (hb b).1 hF
          subst this; rfl
        | _ =>
          have hn : ∀ b, v' ≠ .bool b := fun b e => by
            have := (hb b).2 e
            rw [hF] at this; cases this
          cases v' <;> first | rfl | exact absurd rfl (hn _)

theorem FrR.wanted {μ : Mu} {ro : Option Nat} {F : Fr} {a : Act} (h : FrR μ ro F a) (ops : Array Oper) (o : Oper) : Region.wanted o (yieldedA ops.toList F) = Region.wanted o (Go.yielded ops a.tmps) := by
  unfold Region.wanted
  cases o.guard with
  | none => rfl
  | some g => obtain ⟨j, w⟩ := g; simp only [h.yielded]

/-- The frame that a call lays. -/
theorem FrR.enter {μ : Mu} {ro' ro : Option Nat} {args : List Value} {args' : Array Value} {n : Nat} (h : LR μ args args'.toList) (hr : RoR μ ro' ro) :
    FrR μ ro (frOf (max args.length n) args ro') { tmps := args' ++ Array.replicate (n - args'.size) undef, defers := [] } := by
  have hlen : args.length = args'.size := by have := h.1; simpa using this
  have hfull : ∀ i, T.has (T.full (depthOf (max args.length n)) (max args.length n)) i = true ↔ i < max args.length n := fun i => T.has_full _ _ _ (le_depthOf _)
  refine ⟨?_, fun i => ?_, fun i => ?_, .nil, hr⟩
  · simp [frOf]; omega
  · show T.has (putAll 0 args _) i = true ↔ _
    rw [T.has_putAll]; exact hfull i
  · show VR μ (T.look (putAll 0 args _) i) _
    rw [T.look_putAll _ _ _ _ (fun k _ hk => (hfull k).2 (by omega)), T.look_full, Array.getD_eq_getD_getElem?]
    by_cases hi : i < args.length
    · rw [dif_pos (by omega), Array.getElem?_append_left (by omega)]
      have h1 : args[i]? = some args[i] := List.getElem?_eq_getElem hi
      have h2 : args'.toList[i]? = some args'[i] := by rw [Array.getElem?_toList]; exact Array.getElem?_eq_getElem (by omega)
      have := h.2 i _ _ h1 h2
      rw [Array.getElem?_eq_getElem (by omega)]
      simpa using this
    · rw [dif_neg (by omega), Array.getElem?_append_right (by omega)]
      have : ((Array.replicate (n - args'.size) undef)[i - args'.size]?).getD undef = undef := by
        rw [Array.getElem?_replicate]; split <;> rfl
      rw [this]; exact VR.undef μ

/-- The frame of a round. -/
theorem FrR.round {μ : Mu} {ro' ro : Option Nat} {tmps : List Value} {tmps' : Array Value} (h : LR μ tmps tmps'.toList) (hr : RoR μ ro' ro) :
    FrR μ ro (frOf tmps.length tmps ro') { tmps := tmps', defers := [] } := by
  have h1 := FrR.enter (n := 0) h hr
  simp only [Nat.max_zero, Nat.zero_sub, Array.replicate_zero, Array.append_empty] at h1
  exact h1

theorem FrR.arr {μ : Mu} {ro : Option Nat} {F : Fr} {a : Act} (h : FrR μ ro F a) : ArR μ F.arr a.tmps := by
  have hsz : F.arr.size = F.n := by simp [Fr.arr]
  refine ⟨by rw [hsz, h.size], fun i v v' h1 h2 => ?_⟩
  have hi : i < F.n := by have := (Array.getElem?_eq_some_iff.1 h1).1; omega
  have hv : v = F.get i := by
    simp [Fr.arr, hi] at h1; exact h1.symm
  have hs := h.slot i
  rw [Array.getD_eq_getD_getElem?, h2] at hs
  rw [hv]; exact hs

theorem zipSet_ok {μ : Mu} : ∀ (l l' : List (Tmp × Value)) (t t' : Array Value), l.length = l'.length → (∀ (i : Nat) (p p' : Tmp × Value), l[i]? = some p → l'[i]? = some p' → p'.1 = p.1 ∧ VR μ p.2 p'.2) → ArR μ t t' →
    ArR μ (zipSet l t) (l'.foldl (fun tmps (x : Tmp × Value) => tmps.setIfInBounds x.1 x.2) t')
  | [], [], t, t', _, _, h => h
  | [], _ :: _, _, _, hl, _, _ => by simp at hl
  | _ :: _, [], _, _, hl, _, _ => by simp at hl
  | (i, v) :: l, (i', v') :: l', t, t', hl, hp, h => by
    obtain ⟨e1, e2⟩ := hp 0 (i, v) (i', v') rfl rfl
    simp only at e1 e2
    subst e1
    rw [zipSet, List.foldl_cons]
    refine zipSet_ok l l' _ _ (by simpa using hl) (fun k p p' h1 h2 => hp (k + 1) p p' (by simpa using h1) (by simpa using h2)) ⟨by simp [h.1], fun k x x' h1 h2 => ?_⟩
    rw [Array.getElem?_setIfInBounds] at h1 h2
    by_cases hk : i' = k
    · rw [if_pos hk] at h1 h2
      split at h1
      · rw [if_pos (by rw [← h.1]; assumption)] at h2
        cases h1; cases h2; exact e2
      · cases h1
    · rw [if_neg hk] at h1 h2
      exact h.2 k x x' h1 h2

end Go.Ai
