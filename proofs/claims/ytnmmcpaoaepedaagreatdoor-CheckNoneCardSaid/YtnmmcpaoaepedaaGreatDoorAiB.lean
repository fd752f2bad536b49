/-
  The relation of abstract heaps to the model's worlds, and how it is kept.
-/
import Derived.Test.YtnmmcpaoaepedaaGreatDoorAiA
noncomputable section
namespace Go.Ai

structure Ctx where
  P : Program
  ty : Nat → Option TypeInfo
  fn : Nat → Option Func
  ng : Nat
  okc : FuncId → Code → Prop

structure Ctx.Ok (C : Ctx) : Prop where
  ty : ∀ t i, C.ty t = some i → C.P.info? t = some i
  fn : ∀ f x, C.fn f = some x → C.P.funcs[f]? = some x ∧ x.body.isSome = true ∧ (x.name == "runtime.NumGoroutine") = false
  mixed : C.P.follows .mixedOrders = true

def Ctx.und (C : Ctx) (t : Nat) : Option TypeDesc :=
  match C.ty t with
  | some i => match i.desc with
    | .named _ u => match C.ty u with
      | some j => some j.desc
      | none => none
    | d => some d
  | none => none

theorem Ctx.und_ok {C : Ctx} (h : C.Ok) {t : Nat} {d : TypeDesc} (hd : C.und t = some d) : C.P.underlying t = some d := by
  unfold Ctx.und at hd
  split at hd
  · rename_i i hi
    have h1 := h.ty _ _ hi
    split at hd
    · rename_i u hu
      split at hd
      · rename_i j hj
        have h2 := h.ty _ _ hj
        obtain ⟨desc, _, _, _, _, _, _, _, _, _⟩ := i
        simp only at hu
        subst hu
        simp only [Program.underlying, h1, h2, Option.map_some]
        exact hd
      · cases hd
    · rename_i hn
      obtain ⟨desc, _, _, _, _, _, _, _, _, _⟩ := i
      simp only at hd hn
      simp only [Program.underlying, h1]
      cases desc <;> first | exact hd | exact absurd rfl (hn _ _)
  · cases hd

theorem run_underlying {P : Program} {t : TypeId} {d : TypeDesc} (w : World) (h : P.underlying t = some d) : (underlying t).run P w = .ok d w := by
  simp [underlying, h]
theorem run_typeInfo {P : Program} {t : TypeId} {i : TypeInfo} (w : World) (h : P.info? t = some i) : (typeInfo t).run P w = .ok i w := by
  simp [typeInfo, h]
theorem run_sizeOf {P : Program} {t : TypeId} {i : TypeInfo} (w : World) (h : P.info? t = some i) : (sizeOf t).run P w = .ok i.size w := by
  simp [sizeOf, run_typeInfo w h]
theorem run_zeroValue {P : Program} {t : TypeId} {i : TypeInfo} {v : Value} (w : World) (h : P.info? t = some i) (hz : i.zero = some v) : (zeroValue t).run P w = .ok v w := by
  simp [zeroValue, run_typeInfo w h, hz]

/-- Maps' entries. -/
def ER (μ : Mu) (es es' : List MapEntry) : Prop :=
  es.length = es'.length ∧ ∀ (i : Nat) (e e' : MapEntry), es[i]? = some e → es'[i]? = some e' → e'.key = e.key ∧ flat e.key = true ∧ e'.born = e.born ∧ VR μ e.val e'.val

structure LoopR (C : Ctx) (μ : Mu) (l l' : Loop) : Prop where
  oka : C.okc l.fn l.assign
  okb : C.okc l.fn l.body
  state : l'.state = l.state
  pending : l'.pending = l.pending
  tmps : ArR μ l.tmps l'.tmps
  params : l'.params = l.params
  assign : l'.assign = l.assign
  body : l'.body = l.body
  defers : ∃ sh k, μ l.defers = some (l'.defers, sh, k)

structure CellsR (C : Ctx) (μ : Mu) (sh k : Nat) (cs : List Value) (e : TypeId) (g : Bool) (c : Array Value) (e' : TypeId) (fz : Nat × Nat) : Prop where
  elem : e' = e
  len : sh + cs.length ≤ c.size
  row : ∀ (i : Nat) (v : Value), cs[i]? = some v → ∃ v', c[sh + i]? = some v' ∧ VR μ v v'
  exact_ : g = false → sh = 0 ∧ c.size = cs.length ∧ fz = (0, 0)
  grow : g = true → ∃ i, C.P.info? e = some i ∧ sh + k * i.size ≤ c.size ∧ cs.length ≤ k * i.size ∧ k < big
  thaw : ∀ i, i < c.size → ¬ (fz.1 ≤ i ∧ i < fz.2)

def OR (C : Ctx) (μ : Mu) (sh k : Nat) : AObj → Obj → Prop
  | .cells cs e g, .cells c e' fz => CellsR C μ sh k cs e g c e' fz
  | .map es n, .map es' n' => ER μ es es'.toList ∧ n' = n
  | .iter s p, .stringIter s' p' => s' = s ∧ p' = p ∧ sh = 0
  | .loop l, .loop l' => LoopR C μ l l'
  | .defs none, .deferred none => True
  | .defs (some []), .deferred (some []) => True
  | _, _ => False

theorem ER.mono {μ μ' : Mu} (hl : Mu.le μ μ') {es es' : List MapEntry} (h : ER μ es es') : ER μ' es es' :=
  ⟨h.1, fun i e e' h1 h2 => let ⟨a, b, c, d⟩ := h.2 i e e' h1 h2; ⟨a, b, c, d.mono hl⟩⟩
theorem LoopR.mono {C : Ctx} {μ μ' : Mu} (hl : Mu.le μ μ') {l l' : Loop} (h : LoopR C μ l l') : LoopR C μ' l l' :=
  { h with tmps := h.tmps.mono hl, defers := let ⟨s, k, e⟩ := h.defers; ⟨s, k, hl _ _ e⟩ }
theorem CellsR.mono {C : Ctx} {μ μ' : Mu} (hl : Mu.le μ μ') {sh k : Nat} {cs : List Value} {e e' : TypeId} {g : Bool} {c : Array Value} {fz : Nat × Nat}
    (h : CellsR C μ sh k cs e g c e' fz) : CellsR C μ' sh k cs e g c e' fz :=
  { h with row := fun i v hv => let ⟨v', a, b⟩ := h.row i v hv; ⟨v', a, b.mono hl⟩ }
theorem OR.mono {C : Ctx} {μ μ' : Mu} (hl : Mu.le μ μ') {sh k : Nat} {o : AObj} {o' : Obj} (h : OR C μ sh k o o') : OR C μ' sh k o o' := by
  unfold OR at h ⊢
  split at h
  · exact CellsR.mono hl h
  · exact ⟨h.1.mono hl, h.2⟩
  · exact h
  · exact h.mono hl
  · trivial
  · trivial
  · exact h.elim

structure HRg (C : Ctx) (μ : Mu) (nx : Nat) (get : Nat → Option AObj) (w : World) : Prop where
  dom : ∀ b x, μ b = some x → b < nx
  blk : ∀ b c sh k, μ b = some (c, sh, k) → c < w.heap.size
  inj : ∀ b b' o o' c sh k sh' k', get b = some o → get b' = some o' → μ b = some (c, sh, k) → μ b' = some (c, sh', k') → b = b'
  obj : ∀ b o, get b = some o → ∃ c sh k o', μ b = some (c, sh, k) ∧ w.heap[c]? = some o' ∧ OR C μ sh k o o'
  glob : ∀ g, g < C.ng → ∃ k, μ g = some (g, 0, k)

abbrev HR (C : Ctx) (μ : Mu) (H : Hp) (w : World) : Prop := HRg C μ H.next H.get w

/-- From one world to a later one. -/
structure Fwdg (μ : Mu) (nx : Nat) (get : Nat → Option AObj) (w : World) (μ' : Mu) (nx' : Nat) (get' : Nat → Option AObj) (w' : World) : Prop where
  le : Mu.le μ μ'
  next : nx ≤ nx'
  size : w.heap.size ≤ w'.heap.size
  tape : w'.tape = w.tape
  os : w'.os = w.os
  output : w'.output = w.output
  fresh : ∀ b x, μ' b = some x → μ b = some x ∨ nx ≤ b
  img : ∀ b o c sh k, get' b = some o → μ' b = some (c, sh, k) → c < w.heap.size → ∃ b₀ o₀ sh₀ k₀, get b₀ = some o₀ ∧ μ b₀ = some (c, sh₀, k₀)
  keep : ∀ c, c < w.heap.size → (∀ b o sh k, get b = some o → μ b ≠ some (c, sh, k)) → w'.heap[c]? = w.heap[c]?
  live : ∀ b o, get' b = some o → (∃ o₀, get b = some o₀) ∨ nx ≤ b

abbrev Fwd (μ : Mu) (H : Hp) (w : World) (μ' : Mu) (H' : Hp) (w' : World) : Prop := Fwdg μ H.next H.get w μ' H'.next H'.get w'

theorem Fwdg.refl (μ : Mu) (nx : Nat) (get : Nat → Option AObj) (w : World) : Fwdg μ nx get w μ nx get w :=
  ⟨Mu.le_refl μ, Nat.le_refl _, Nat.le_refl _, rfl, rfl, rfl, fun _ _ h => .inl h, fun b o c sh k h1 h2 _ => ⟨b, o, sh, k, h1, h2⟩, fun _ _ _ => rfl, fun _ o h => .inl ⟨o, h⟩⟩

theorem Fwdg.trans {μ μ₁ μ₂ : Mu} {n n₁ n₂ : Nat} {g g₁ g₂ : Nat → Option AObj} {w w₁ w₂ : World} (h : Fwdg μ n g w μ₁ n₁ g₁ w₁) (k : Fwdg μ₁ n₁ g₁ w₁ μ₂ n₂ g₂ w₂) : Fwdg μ n g w μ₂ n₂ g₂ w₂ where
  le := Mu.le_trans h.le k.le
  next := Nat.le_trans h.next k.next
  size := Nat.le_trans h.size k.size
  tape := k.tape.trans h.tape
  os := k.os.trans h.os
  output := k.output.trans h.output
  fresh := fun b x hb => by
    rcases k.fresh b x hb with h1 | h1
    · exact h.fresh b x h1
    · exact .inr (Nat.le_trans h.next h1)
  img := fun b o c sh k' h1 h2 h3 => by
    obtain ⟨b1, o1, s1, k1, a1, a2⟩ := k.img b o c sh k' h1 h2 (Nat.lt_of_lt_of_le h3 h.size)
    exact h.img b1 o1 c s1 k1 a1 a2 h3
  keep := fun c hc hn => by
    rw [k.keep c (Nat.lt_of_lt_of_le hc h.size) ?_, h.keep c hc hn]
    intro b o sh k' h1 h2
    obtain ⟨b0, o0, s0, k0, a1, a2⟩ := h.img b o c sh k' h1 h2 hc
    exact hn b0 o0 s0 k0 a1 a2
  live := fun b o hb => by
    rcases k.live b o hb with ⟨o1, h1⟩ | h1
    · exact h.live b o1 h1
    · exact .inr (Nat.le_trans h.next h1)

/-- A draw changes nothing that is told. -/
theorem HRg.world {C : Ctx} {μ : Mu} {nx : Nat} {get : Nat → Option AObj} {w w' : World} (h : HRg C μ nx get w) (hw : w'.heap = w.heap) : HRg C μ nx get w' :=
  ⟨h.dom, fun b c sh k e => hw ▸ h.blk b c sh k e, h.inj, fun b o e => hw ▸ h.obj b o e, h.glob⟩

theorem Fwd.refl (μ : Mu) (H : Hp) (w : World) : Fwd μ H w μ H w := Fwdg.refl μ H.next H.get w

theorem Fwdg.world {μ : Mu} {nx : Nat} {get : Nat → Option AObj} {w w' : World} (hw : w'.heap = w.heap) (ht : w'.tape = w.tape) (ho : w'.os = w.os) (hp : w'.output = w.output) : Fwdg μ nx get w μ nx get w' :=
  ⟨Mu.le_refl μ, Nat.le_refl _, by rw [hw]; exact Nat.le_refl _, ht, ho, hp, fun _ _ h => .inl h, fun b o c sh k h1 h2 _ => ⟨b, o, sh, k, h1, h2⟩, fun _ _ _ => by rw [hw], fun _ o h => .inl ⟨o, h⟩⟩

def Mu.ext (μ : Mu) (b : Nat) (x : Nat × Nat × Nat) : Mu := fun b' => if b' = b then some x else μ b'
theorem Mu.ext_self (μ : Mu) (b : Nat) (x : Nat × Nat × Nat) : μ.ext b x b = some x := by simp [Mu.ext]
theorem Mu.ext_other (μ : Mu) {b b' : Nat} (x : Nat × Nat × Nat) (h : b' ≠ b) : μ.ext b x b' = μ b' := by simp [Mu.ext, h]
theorem Mu.le_ext {μ : Mu} {b : Nat} (x : Nat × Nat × Nat) (h : μ b = none) : Mu.le μ (μ.ext b x) := fun b' y e => by
  by_cases hb : b' = b
  · subst hb; rw [h] at e; cases e
  · rw [Mu.ext_other _ _ hb]; exact e

/-- An id that is not told of yet. -/
theorem HRg.free {C : Ctx} {μ : Mu} {nx : Nat} {get : Nat → Option AObj} {w : World} (h : HRg C μ nx get w) {b : Nat} (hb : nx ≤ b) : μ b = none := by
  cases e : μ b with
  | none => rfl
  | some x => exact absurd (h.dom b x e) (by omega)
theorem HRg.free_get {C : Ctx} {μ : Mu} {nx : Nat} {get : Nat → Option AObj} {w : World} (h : HRg C μ nx get w) {b : Nat} (hb : μ b = none) : get b = none := by
  cases e : get b with
  | none => rfl
  | some o => obtain ⟨c, sh, k, o', h1, _⟩ := h.obj b o e; rw [hb] at h1; cases h1

/-- A NEW OBJECT at an id of one's own choice (no id of the heap's), the heap's next number raised to 'n'. -/
theorem HRg.put_new {C : Ctx} {μ : Mu} {nx nx' : Nat} {get get' : Nat → Option AObj} {w w' : World} (h : HRg C μ nx get w) {b : Nat} {o : AObj} {o' : Obj} {k : Nat} (hb : μ b = none) (hbn : b < nx') (hn : nx ≤ nx')
    (hg : ∀ b', get' b' = if b = b' then some o else get b') (hw : w'.heap = w.heap.push o') (ho : OR C (μ.ext b (w.heap.size, 0, k)) 0 k o o') :
    HRg C (μ.ext b (w.heap.size, 0, k)) nx' get' w' := by
  have hle : Mu.le μ (μ.ext b (w.heap.size, 0, k)) := Mu.le_ext _ hb
  refine ⟨fun b' x e => ?_, fun b' c sh k' e => ?_, fun b1 b2 o1 o2 c sh k1 sh2 k2 h1 h2 e1 e2 => ?_, fun b' o1 h1 => ?_, fun g hg' => let ⟨k, e⟩ := h.glob g hg'; ⟨k, hle _ _ e⟩⟩
  · by_cases hb' : b' = b
    · subst hb'; exact hbn
    · rw [Mu.ext_other _ _ hb'] at e; exact Nat.lt_of_lt_of_le (h.dom b' x e) hn
  · rw [hw, Array.size_push]
    by_cases hb' : b' = b
    · subst hb'; rw [Mu.ext_self] at e; cases e; omega
    · rw [Mu.ext_other _ _ hb'] at e; have := h.blk b' c sh k' e; omega
  · by_cases hb1 : b1 = b <;> by_cases hb2 : b2 = b
    · rw [hb1, hb2]
    · subst hb1; rw [Mu.ext_self] at e1; rw [Mu.ext_other _ _ hb2] at e2; cases e1; have := h.blk b2 _ _ _ e2; omega
    · subst hb2; rw [Mu.ext_self] at e2; rw [Mu.ext_other _ _ hb1] at e1; cases e2; have := h.blk b1 _ _ _ e1; omega
    · rw [Mu.ext_other _ _ hb1] at e1; rw [Mu.ext_other _ _ hb2] at e2
      rw [hg, if_neg (Ne.symm hb1)] at h1
      rw [hg, if_neg (Ne.symm hb2)] at h2
      exact h.inj b1 b2 o1 o2 c sh k1 sh2 k2 h1 h2 e1 e2
  · rw [hg] at h1
    by_cases hb' : b = b'
    · subst hb'
      rw [if_pos rfl] at h1; cases h1
      exact ⟨w.heap.size, 0, k, o', Mu.ext_self _ _ _, by rw [hw]; simp, ho⟩
    · rw [if_neg hb'] at h1
      obtain ⟨c, sh, k', o2, e1, e2, e3⟩ := h.obj b' o1 h1
      refine ⟨c, sh, k', o2, hle _ _ e1, ?_, e3.mono hle⟩
      have := h.blk b' c sh k' e1
      rw [hw, Array.getElem?_push, if_neg (by omega)]; exact e2

theorem Fwdg.put_new {C : Ctx} {μ : Mu} {nx nx' : Nat} {get get' : Nat → Option AObj} {w w' : World} (h : HRg C μ nx get w) {b : Nat} {o : AObj} {o' : Obj} {k : Nat} (hb : μ b = none) (hn : nx ≤ nx') (hbn : nx ≤ b)
    (hg : ∀ b', get' b' = if b = b' then some o else get b') (hw : w'.heap = w.heap.push o') (ht : w'.tape = w.tape) (hos : w'.os = w.os) (hp : w'.output = w.output) :
    Fwdg μ nx get w (μ.ext b (w.heap.size, 0, k)) nx' get' w' where
  le := Mu.le_ext _ hb
  next := hn
  size := by rw [hw, Array.size_push]; omega
  tape := ht
  os := hos
  output := hp
  fresh := fun b' x e => by
    by_cases hb' : b' = b
    · subst hb'; exact .inr hbn
    · rw [Mu.ext_other _ _ hb'] at e; exact .inl e
  img := fun b' o1 c sh k' h1 h2 h3 => by
    by_cases hb' : b' = b
    · subst hb'; rw [Mu.ext_self] at h2; cases h2; omega
    · rw [Mu.ext_other _ _ hb'] at h2
      rw [hg, if_neg (Ne.symm hb')] at h1
      exact ⟨b', o1, sh, k', h1, h2⟩
  keep := fun c hc _ => by rw [hw, Array.getElem?_push, if_neg (by omega)]
  live := fun b' o1 h1 => by
    rw [hg] at h1
    by_cases hb' : b = b'
    · subst hb'; exact .inr hbn
    · rw [if_neg hb'] at h1; exact .inl ⟨o1, h1⟩

/-- AN OBJECT TURNED in place. -/
theorem HR.put_old {C : Ctx} {μ : Mu} {H H' : Hp} {w w' : World} (h : HR C μ H w) {b c sh k : Nat} {o o₁ : AObj} {o' : Obj} (hb : H.get b = some o) (hm : μ b = some (c, sh, k))
    (hn : H'.next = H.next) (hg : ∀ b', H'.get b' = if b = b' then some o₁ else H.get b') (hw : ∀ c', w'.heap[c']? = if c = c' then some o' else w.heap[c']?) (ho : OR C μ sh k o₁ o') :
    HR C μ H' w' := by
  have hc := h.blk b c sh k hm
  have hsz : w.heap.size ≤ w'.heap.size := by
    rcases Nat.lt_or_ge w'.heap.size w.heap.size with hlt | hge
    · have h1 := hw w'.heap.size
      rw [Array.getElem?_eq_none (Nat.le_refl _)] at h1
      by_cases hcc : c = w'.heap.size
      · rw [if_pos hcc] at h1; cases h1
      · rw [if_neg hcc, Array.getElem?_eq_getElem hlt] at h1; cases h1
    · exact hge
  refine ⟨fun b' x e => by rw [hn]; exact h.dom b' x e, fun b' c' sh' k' e => Nat.lt_of_lt_of_le (h.blk b' c' sh' k' e) hsz, fun b1 b2 o1 o2 c' s1 k1 s2 k2 h1 h2 e1 e2 => ?_, fun b' o1 h1 => ?_, h.glob⟩
  · have f : ∀ x ox, H'.get x = some ox → ∃ oy, H.get x = some oy := fun x ox hx => by
      rw [hg] at hx
      by_cases hbx : b = x
      · subst hbx; exact ⟨o, hb⟩
      · rw [if_neg hbx] at hx; exact ⟨ox, hx⟩
    obtain ⟨p1, g1⟩ := f b1 o1 h1
    obtain ⟨p2, g2⟩ := f b2 o2 h2
    exact h.inj b1 b2 p1 p2 c' s1 k1 s2 k2 g1 g2 e1 e2
  · rw [hg] at h1
    by_cases hbx : b = b'
    · subst hbx
      rw [if_pos rfl] at h1; cases h1
      exact ⟨c, sh, k, o', hm, by rw [hw, if_pos rfl], ho⟩
    · rw [if_neg hbx] at h1
      obtain ⟨c', sh', k', o2, e1, e2, e3⟩ := h.obj b' o1 h1
      refine ⟨c', sh', k', o2, e1, ?_, e3⟩
      rw [hw, if_neg ?_]; exact e2
      intro hcc; subst hcc
      exact hbx (h.inj b b' o o1 c sh k sh' k' hb h1 hm e1)

theorem Fwd.put_old {μ : Mu} {H H' : Hp} {w w' : World} {b c sh k : Nat} {o o₁ : AObj} {o' : Obj} (hb : H.get b = some o) (hm : μ b = some (c, sh, k))
    (hn : H'.next = H.next) (hg : ∀ b', H'.get b' = if b = b' then some o₁ else H.get b') (hw : ∀ c', w'.heap[c']? = if c = c' then some o' else w.heap[c']?) (hs : w'.heap.size = w.heap.size)
    (ht : w'.tape = w.tape) (hos : w'.os = w.os) (hp : w'.output = w.output) : Fwd μ H w μ H' w' where
  le := Mu.le_refl μ
  next := by rw [hn]; exact Nat.le_refl _
  size := by rw [hs]; exact Nat.le_refl _
  tape := ht
  os := hos
  output := hp
  fresh := fun _ _ e => .inl e
  img := fun b' o1 c' sh' k' h1 h2 _ => by
    rw [hg] at h1
    by_cases hbx : b = b'
    · subst hbx; exact ⟨b, o, sh', k', hb, h2⟩
    · rw [if_neg hbx] at h1; exact ⟨b', o1, sh', k', h1, h2⟩
  keep := fun c' _ hno => by
    rw [hw, if_neg]
    intro hcc; subst hcc
    exact hno b o sh k hb hm
  live := fun b' o1 h1 => by
    rw [hg] at h1
    by_cases hbx : b = b'
    · subst hbx; exact .inl ⟨o, hb⟩
    · rw [if_neg hbx] at h1; exact .inl ⟨o1, h1⟩

/-- Fewer objects are told of. -/
theorem HRg.weaken {C : Ctx} {μ : Mu} {nx nx₀ : Nat} {get get₀ : Nat → Option AObj} {w : World} (h : HRg C μ nx get w) (hn : nx₀ = nx) (hg : ∀ b o, get₀ b = some o → get b = some o) : HRg C μ nx₀ get₀ w :=
  ⟨fun b x e => by rw [hn]; exact h.dom b x e, h.blk, fun b b' o o' c sh k sh' k' h1 h2 e1 e2 => h.inj b b' o o' c sh k sh' k' (hg _ _ h1) (hg _ _ h2) e1 e2, fun b o h1 => h.obj b o (hg _ _ h1), h.glob⟩

/-- WHAT IS TOLD BESIDE: H told more than H₀; from H₀ the world went on; what H told more stands as it stood. -/
theorem HRg.beside {C : Ctx} {μ μ' : Mu} {nx nx₀ nx' : Nat} {G G₀ G' G₁ : Nat → Option AObj} {w w' : World} (h : HRg C μ nx G w) (h' : HRg C μ' nx' G' w') (f : Fwdg μ nx₀ G₀ w μ' nx' G' w') (hg : ∀ b o, G₀ b = some o → G b = some o)
    (h₁ : ∀ b o, G₁ b = some o → G' b = some o ∨ (G₀ b = none ∧ G b = some o)) : HRg C μ' nx' G₁ w' := by
  have key : ∀ b o, G₀ b = none → G b = some o → ∃ c sh k o', μ b = some (c, sh, k) ∧ c < w.heap.size ∧ w'.heap[c]? = some o' ∧ OR C μ' sh k o o' := fun b o hb0 hb => by
    obtain ⟨c, sh, k, o', e1, e2, e3⟩ := h.obj b o hb
    refine ⟨c, sh, k, o', e1, h.blk _ _ _ _ e1, ?_, e3.mono f.le⟩
    rw [f.keep c (h.blk _ _ _ _ e1) ?_]; exact e2
    intro b2 o2 s2 k2 g2 e4
    have := h.inj b b2 o o2 c sh k s2 k2 hb (hg _ _ g2) e1 e4
    subst this; rw [hb0] at g2; cases g2
  refine ⟨h'.dom, h'.blk, fun b1 b2 o1 o2 c s1 k1 s2 k2 g1 g2 e1 e2 => ?_, fun b o hb => ?_, h'.glob⟩
  · have cross : ∀ x y ox oy sx kx sy ky, G' x = some ox → G₀ y = none → G y = some oy → μ' x = some (c, sx, kx) → μ' y = some (c, sy, ky) → x = y := by
      intro x y ox oy sx kx sy ky gx gy0 gy ex ey
      obtain ⟨cy, shy, k, oy', f1, f2, f3, f4⟩ := key y oy gy0 gy
      have := f.le _ _ f1
      rw [ey] at this; cases this
      obtain ⟨b0, o0, s0, k0, g0, e0⟩ := f.img x ox c sx kx gx ex f2
      have := h.inj b0 y o0 oy c s0 k0 _ _ (hg _ _ g0) gy e0 f1
      subst this; rw [gy0] at g0; cases g0
    rcases h₁ b1 o1 g1 with a1 | ⟨a1, a1'⟩ <;> rcases h₁ b2 o2 g2 with a2 | ⟨a2, a2'⟩
    · exact h'.inj b1 b2 o1 o2 c s1 k1 s2 k2 a1 a2 e1 e2
    · exact cross b1 b2 o1 o2 s1 k1 s2 k2 a1 a2 a2' e1 e2
    · exact (cross b2 b1 o2 o1 s2 k2 s1 k1 a2 a1 a1' e2 e1).symm
    · obtain ⟨c1, t1, u1, _, f1, _, _, _⟩ := key b1 o1 a1 a1'
      obtain ⟨c2, t2, u2, _, f2, _, _, _⟩ := key b2 o2 a2 a2'
      have i1 := f.le _ _ f1; rw [e1] at i1; cases i1
      have i2 := f.le _ _ f2; rw [e2] at i2; cases i2
      exact h.inj b1 b2 o1 o2 c s1 k1 s2 k2 a1' a2' f1 f2
  · rcases h₁ b o hb with a | ⟨a, a'⟩
    · exact h'.obj b o a
    · obtain ⟨c, sh, k, o', f1, f2, f3, f4⟩ := key b o a a'
      exact ⟨c, sh, k, o', f.le _ _ f1, f3, f4⟩

end Go.Ai
