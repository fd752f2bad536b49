/-
  The abstract heap of the deterministic interpreter 'Ai': tries, abstract objects, the relation of abstract values and heaps to the model's own.
-/
import GoSem.Step
import Derived.Laws.Sem
import Derived.Laws.World
import Derived.AtR
noncomputable section
namespace Go.Ai

/-! ### Tries: keys are numbers, the least bit first -/

inductive T (α : Type) where
  | nil
  | tip (a : α)
  | bin (l r : T α)

def T.left {α : Type} : T α → T α
  | .bin l _ => l
  | t => t
def T.right {α : Type} : T α → T α
  | .bin _ r => r
  | _ => .nil

def T.getC {α : Type} : T α → Nat → Option α
  | .nil, _ => none
  | .tip a, i => match i with
    | 0 => some a
    | _ + 1 => none
  | .bin l r, i => match Nat.mod i 2 with
    | 0 => T.getC l (Nat.div i 2)
    | _ + 1 => T.getC r (Nat.div i 2)

/-- By the recursors themselves: that is what the kernel is quickest at. -/
def T.get {α : Type} (t : T α) : Nat → Option α :=
  T.rec (motive := fun _ => Nat → Option α) (fun _ => none) (fun a i => Nat.rec (motive := fun _ => Option α) (some a) (fun _ _ => none) i)
    (fun _ _ gl gr i => Nat.rec (motive := fun _ => Option α) (gl (Nat.div i 2)) (fun _ _ => gr (Nat.div i 2)) (Nat.mod i 2)) t

def T.leaf {α : Type} : Option α → T α
  | some a => .tip a
  | none => .nil

def T.setC {α : Type} : Nat → T α → Nat → Option α → T α
  | 0, _, _, v => T.leaf v
  | d + 1, t, i, v => match Nat.mod i 2 with
    | 0 => .bin (T.setC d t.left (Nat.div i 2) v) t.right
    | _ + 1 => .bin t.left (T.setC d t.right (Nat.div i 2) v)

def T.set {α : Type} (d : Nat) : T α → Nat → Option α → T α :=
  Nat.rec (motive := fun _ => T α → Nat → Option α → T α) (fun _ _ v => T.leaf v)
    (fun _ ih t i v => T.rec (motive := fun _ => T α)
      (Nat.rec (motive := fun _ => T α) (.bin (ih .nil (Nat.div i 2) v) .nil) (fun _ _ => .bin .nil (ih .nil (Nat.div i 2) v)) (Nat.mod i 2))
      (fun a => Nat.rec (motive := fun _ => T α) (.bin (ih (.tip a) (Nat.div i 2) v) .nil) (fun _ _ => .bin (.tip a) (ih .nil (Nat.div i 2) v)) (Nat.mod i 2))
      (fun l r _ _ => Nat.rec (motive := fun _ => T α) (.bin (ih l (Nat.div i 2) v) r) (fun _ _ => .bin l (ih r (Nat.div i 2) v)) (Nat.mod i 2)) t) d

theorem T.get_bin0 {α : Type} (l r : T α) {i : Nat} (h : Nat.mod i 2 = 0) : T.get (.bin l r) i = T.get l (Nat.div i 2) := by
  show Nat.rec (motive := fun _ => Option α) _ _ (Nat.mod i 2) = _
  rw [h]; rfl
theorem T.get_bin1 {α : Type} (l r : T α) {i : Nat} (h : Nat.mod i 2 = 1) : T.get (.bin l r) i = T.get r (Nat.div i 2) := by
  show Nat.rec (motive := fun _ => Option α) _ _ (Nat.mod i 2) = _
  rw [h]; rfl
theorem T.set_zero {α : Type} (t : T α) (i : Nat) (v : Option α) : T.set 0 t i v = T.leaf v := rfl
theorem T.set_succ0 {α : Type} (d : Nat) (t : T α) (i : Nat) (v : Option α) (h : Nat.mod i 2 = 0) : T.set (d + 1) t i v = .bin (T.set d t.left (Nat.div i 2) v) t.right := by
  cases t <;> (show Nat.rec (motive := fun _ => T α) _ _ (Nat.mod i 2) = _; rw [h]; rfl)
theorem T.set_succ1 {α : Type} (d : Nat) (t : T α) (i : Nat) (v : Option α) (h : Nat.mod i 2 = 1) : T.set (d + 1) t i v = .bin t.left (T.set d t.right (Nat.div i 2) v) := by
  cases t <;> (show Nat.rec (motive := fun _ => T α) _ _ (Nat.mod i 2) = _; rw [h]; rfl)

theorem T.get_even {α : Type} (t : T α) (i : Nat) (h : i % 2 = 0) : T.get t i = T.get t.left (i / 2) := by
  cases t with
  | nil => rfl
  | tip a =>
    show T.get (.tip a) i = T.get (.tip a) (i / 2)
    cases i with
    | zero => rfl
    | succ i =>
      obtain ⟨j, hj⟩ : ∃ j, (i + 1) / 2 = j + 1 := ⟨(i + 1) / 2 - 1, by omega⟩
      rw [hj]; rfl
  | bin l r =>
    exact T.get_bin0 l r h
theorem T.get_odd {α : Type} (t : T α) (i : Nat) (h : i % 2 = 1) : T.get t i = T.get t.right (i / 2) := by
  cases t with
  | nil => rfl
  | tip a =>
    obtain ⟨j, hj⟩ : ∃ j, i = j + 1 := ⟨i - 1, by omega⟩
    rw [hj]; rfl
  | bin l r =>
    exact T.get_bin1 l r h

theorem T.set_even {α : Type} (d : Nat) (t : T α) (i : Nat) (v : Option α) (h : i % 2 = 0) : T.set (d + 1) t i v = .bin (T.set d t.left (i / 2) v) t.right := by
  exact T.set_succ0 d t i v h
theorem T.set_odd {α : Type} (d : Nat) (t : T α) (i : Nat) (v : Option α) (h : i % 2 = 1) : T.set (d + 1) t i v = .bin t.left (T.set d t.right (i / 2) v) := by
  exact T.set_succ1 d t i v h

theorem T.get_leaf {α : Type} (v : Option α) : T.get (T.leaf v) 0 = v := by cases v <;> rfl

theorem T.get_set {α : Type} (d : Nat) : ∀ (t : T α) (i j : Nat) (v : Option α), i < 2 ^ d → j < 2 ^ d →
    T.get (T.set d t i v) j = if i = j then v else T.get t j := by
  induction d with
  | zero =>
    intro t i j v hi hj
    have hi : i = 0 := by simpa using hi
    have hj : j = 0 := by simpa using hj
    subst hi; subst hj
    simp [T.set_zero, T.get_leaf]
  | succ d ih =>
    intro t i j v hi hj
    have hi2 : i / 2 < 2 ^ d := by rw [Nat.pow_succ] at hi; omega
    have hj2 : j / 2 < 2 ^ d := by rw [Nat.pow_succ] at hj; omega
    rcases Nat.mod_two_eq_zero_or_one i with hie | hie <;> rcases Nat.mod_two_eq_zero_or_one j with hje | hje
    · rw [T.set_even _ _ _ _ hie, T.get_even _ _ hje, T.get_even t _ hje]
      simp only [T.left]
      rw [ih _ _ _ _ hi2 hj2]
      by_cases h : i = j
      · subst h; simp
      · have : i / 2 ≠ j / 2 := by omega
        simp [h, this]
    · rw [T.set_even _ _ _ _ hie, T.get_odd _ _ hje, T.get_odd t _ hje]
      have h : i ≠ j := by omega
      simp [T.right, h]
    · rw [T.set_odd _ _ _ _ hie, T.get_even _ _ hje, T.get_even t _ hje]
      have h : i ≠ j := by omega
      simp [T.left, h]
    · rw [T.set_odd _ _ _ _ hie, T.get_odd _ _ hje, T.get_odd t _ hje]
      simp only [T.right]
      rw [ih _ _ _ _ hi2 hj2]
      by_cases h : i = j
      · subst h; simp
      · have : i / 2 ≠ j / 2 := by omega
        simp [h, this]

/-! ### Abstract objects and heaps -/

/-- What stands in an abstract heap. 'cells c e g': g: the model's row may have more cells behind these. -/
inductive AObj where
  | cells (c : List Value) (e : TypeId) (g : Bool)
  | map (es : List MapEntry) (clock : Nat)
  | iter (s : ByteArray) (pos : Nat)
  | loop (l : Loop)
  | defs (ds : Option (List Deferred))

abbrev depthH : Nat := 18

structure Hp where
  next : Nat
  t : T AObj

def Hp.get (H : Hp) (b : Nat) : Option AObj := bif Nat.blt b (2 ^ depthH) then T.get H.t b else none
/-- The object b turned (or struck); it must be one that has been told of. -/
def Hp.put (H : Hp) (b : Nat) (o : Option AObj) : Hp := bif Nat.blt b (2 ^ depthH) then { H with t := T.set depthH H.t b o } else H
/-- A new object. -/
def Hp.new (H : Hp) (o : AObj) : Hp := { next := H.next + 1, t := T.set depthH H.t H.next (some o) }

theorem blt_iff (a b : Nat) : Nat.blt a b = true ↔ a < b := by simp [Nat.blt]; omega
theorem blt_false (a b : Nat) : Nat.blt a b = false ↔ ¬ a < b := by rw [← blt_iff, Bool.not_eq_true]

theorem Hp.get_put (H : Hp) (b b' : Nat) (o : Option AObj) : (H.put b o).get b' = if b = b' ∧ b < 2 ^ depthH then o else H.get b' := by
  unfold Hp.get Hp.put
  by_cases h : b < 2 ^ depthH
  · have h1 := (blt_iff b (2 ^ depthH)).2 h
    by_cases h' : b' < 2 ^ depthH
    · have h2 := (blt_iff b' (2 ^ depthH)).2 h'
      simp only [h1, h2, cond_true]
      rw [T.get_set _ _ _ _ _ h h']
      simp [h]
    · have h2 := (blt_false b' (2 ^ depthH)).2 h'
      simp only [h1, h2, cond_true, cond_false]
      have : ¬ (b = b' ∧ b < 2 ^ depthH) := by rintro ⟨rfl, _⟩; exact h' h
      rw [if_neg this]
  · have h1 := (blt_false b (2 ^ depthH)).2 h
    simp [h1, h]

theorem Hp.get_lt {H : Hp} {b : Nat} {o : AObj} (h : H.get b = some o) : b < 2 ^ depthH := by
  unfold Hp.get at h
  cases hb : Nat.blt b (2 ^ depthH) with
  | true => exact (blt_iff _ _).1 hb
  | false => rw [hb] at h; cases h

@[simp] theorem Hp.next_put (H : Hp) (b : Nat) (o : Option AObj) : (H.put b o).next = H.next := by
  unfold Hp.put; cases Nat.blt b (2 ^ depthH) <;> rfl
@[simp] theorem Hp.next_new (H : Hp) (o : AObj) : (H.new o).next = H.next + 1 := rfl

theorem Hp.get_new (H : Hp) (b : Nat) (o : AObj) (h : H.next < 2 ^ depthH) : (H.new o).get b = if H.next = b then some o else H.get b := by
  have := Hp.get_put H H.next b (some o)
  unfold Hp.put at this
  rw [(blt_iff _ _).2 h] at this
  simp only [cond_true] at this
  unfold Hp.new
  unfold Hp.get at this ⊢
  simp only at this ⊢
  rw [this]
  by_cases hb : H.next = b
  · simp [hb]; intro hh; omega
  · simp [hb]

/-! ### Values -/

abbrev big : Nat := 2 ^ 63

/-- Where an abstract object's cells lie: block, shift, capacity in elements from the shift on. -/
abbrev Mu : Type := Nat → Option (Nat × Nat × Nat)

def kindNo : IntKind → Nat
  | .i8 => 0 | .i16 => 1 | .i32 => 2 | .i64 => 3 | .u8 => 4 | .u16 => 5 | .u32 => 6 | .u64 => 7
/-- An integer of this kind of which nothing is known; a string of which nothing is known. -/
abbrev unkI (k : IntKind) : Value := .complex .f64 (kindNo k) 0
abbrev unkS : Value := .complex .f32 0 0

inductive VR (μ : Mu) : Value → Value → Prop
  | bool (b : Bool) : VR μ (.bool b) (.bool b)
  | int (k : IntKind) (n : Int) : VR μ (.int k n) (.int k n)
  | float (k : FloatKind) (n : Nat) : VR μ (.float k n) (.float k n)
  | unkI (k : IntKind) (n : Int) : VR μ (unkI k) (.int k n)
  | unkS (s : ByteArray) : VR μ unkS (.string s)
  | str (s : ByteArray) : VR μ (.string s) (.string s)
  | ptrNil : VR μ (.pointer none) (.pointer none)
  | ptr {b o c sh k : Nat} (h : μ b = some (c, sh, k)) : VR μ (.pointer (some ⟨b, o, none⟩)) (.pointer (some ⟨c, sh + o, none⟩))
  | sliceNil (n m : Nat) : VR μ (.slice none n m) (.slice none n m)
  | slice {b o c sh k n m : Nat} (h : μ b = some (c, sh, k)) (hm : m < big) : VR μ (.slice (some ⟨b, o, none⟩) n m) (.slice (some ⟨c, sh + o, none⟩) n m)
  | sliceG {b o c sh k n lo : Nat} (h : μ b = some (c, sh, k)) (hk : lo + n ≤ k) (hb : k < big) : VR μ (.slice (some ⟨b, o, none⟩) n (big + lo)) (.slice (some ⟨c, sh + o, none⟩) n (k - lo))
  | sliceE {b o lo : Nat} {a : Addr} : VR μ (.slice (some ⟨b, o, none⟩) 0 (big + lo)) (.slice (some a) 0 0)
  | mapNil : VR μ (.map none) (.map none)
  | map {b c sh k : Nat} (h : μ b = some (c, sh, k)) : VR μ (.map (some b)) (.map (some c))
  | func {fn : Fn} {f f' c c' : Array Value} (hfn : ∀ l, fn ≠ .yield l) (hf : f.size = f'.size) (hf' : ∀ (i : Nat) (v v' : Value), f[i]? = some v → f'[i]? = some v' → VR μ v v')
      (hc : c.size = c'.size) (hc' : ∀ (i : Nat) (v v' : Value), c[i]? = some v → c'[i]? = some v' → VR μ v v') : VR μ (.func fn f c) (.func fn f' c')
  | yield {b c sh k : Nat} (h : μ b = some (c, sh, k)) : VR μ (.func (.yield b) #[] #[]) (.func (.yield c) #[] #[])
  | nilFunc : VR μ .nilFunc .nilFunc
  | iface {t : TypeId} {v v' : Value} (h : VR μ v v') : VR μ (.iface t v) (.iface t v')
  | nilIface : VR μ .nilIface .nilIface
  | agg {cs cs' : Array Value} (hs : cs.size = cs'.size) (h : ∀ (i : Nat) (v v' : Value), cs[i]? = some v → cs'[i]? = some v' → VR μ v v') : VR μ (.agg cs) (.agg cs')
  | tuple {cs cs' : Array Value} (hs : cs.size = cs'.size) (h : ∀ (i : Nat) (v v' : Value), cs[i]? = some v → cs'[i]? = some v' → VR μ v v') : VR μ (.tuple cs) (.tuple cs')

/-- Rows of values. -/
def LR (μ : Mu) (l l' : List Value) : Prop := l.length = l'.length ∧ ∀ (i : Nat) (v v' : Value), l[i]? = some v → l'[i]? = some v' → VR μ v v'
def ArR (μ : Mu) (l l' : Array Value) : Prop := l.size = l'.size ∧ ∀ (i : Nat) (v v' : Value), l[i]? = some v → l'[i]? = some v' → VR μ v v'

theorem ArR.toList {μ : Mu} {l l' : Array Value} (h : ArR μ l l') : LR μ l.toList l'.toList := by
  refine ⟨by simpa using h.1, fun i v v' h1 h2 => h.2 i v v' (by simpa using h1) (by simpa using h2)⟩
theorem LR.toArray {μ : Mu} {l l' : List Value} (h : LR μ l l') : ArR μ l.toArray l'.toArray := by
  refine ⟨by simpa using h.1, fun i v v' h1 h2 => h.2 i v v' (by simpa using h1) (by simpa using h2)⟩
theorem LR.nil (μ : Mu) : LR μ [] [] := ⟨rfl, by simp⟩
theorem LR.cons {μ : Mu} {l l' : List Value} {v v' : Value} (hv : VR μ v v') (h : LR μ l l') : LR μ (v :: l) (v' :: l') := by
  refine ⟨by simp [h.1], fun i u u' h1 h2 => ?_⟩
  cases i with
  | zero => simp at h1 h2; subst h1; subst h2; exact hv
  | succ i => exact h.2 i u u' (by simpa using h1) (by simpa using h2)
theorem LR.head {μ : Mu} {l l' : List Value} {v v' : Value} (h : LR μ (v :: l) (v' :: l')) : VR μ v v' := h.2 0 v v' (by simp) (by simp)
theorem LR.tail {μ : Mu} {l l' : List Value} {v v' : Value} (h : LR μ (v :: l) (v' :: l')) : LR μ l l' :=
  ⟨by simpa using h.1, fun i u u' h1 h2 => h.2 (i + 1) u u' (by simpa using h1) (by simpa using h2)⟩
/-- What stands on the left stands on the right. -/
theorem LR.at {μ : Mu} {l l' : List Value} {i : Nat} {v : Value} (h : LR μ l l') (hv : l[i]? = some v) : ∃ v', l'[i]? = some v' ∧ VR μ v v' := by
  have hi : i < l.length := by
    rcases Nat.lt_or_ge i l.length with h' | h'
    · exact h'
    · rw [List.getElem?_eq_none h'] at hv; cases hv
  have hi' : i < l'.length := h.1 ▸ hi
  exact ⟨l'[i], List.getElem?_eq_getElem hi', h.2 i v _ hv (List.getElem?_eq_getElem hi')⟩
theorem LR.at_none {μ : Mu} {l l' : List Value} {i : Nat} (h : LR μ l l') (hv : l[i]? = none) : l'[i]? = none := by
  rw [List.getElem?_eq_none_iff] at hv ⊢; rw [← h.1]; exact hv
theorem ArR.at {μ : Mu} {l l' : Array Value} {i : Nat} {v : Value} (h : ArR μ l l') (hv : l[i]? = some v) : ∃ v', l'[i]? = some v' ∧ VR μ v v' := by
  have hi : i < l.size := by
    rcases Nat.lt_or_ge i l.size with h' | h'
    · exact h'
    · rw [Array.getElem?_eq_none h'] at hv; cases hv
  have hi' : i < l'.size := h.1 ▸ hi
  exact ⟨l'[i], Array.getElem?_eq_getElem hi', h.2 i v _ hv (Array.getElem?_eq_getElem hi')⟩
theorem LR.append {μ : Mu} {a a' b b' : List Value} (h : LR μ a a') (k : LR μ b b') : LR μ (a ++ b) (a' ++ b') := by
  refine ⟨by simp [h.1, k.1], fun i v v' h1 h2 => ?_⟩
  rcases Nat.lt_or_ge i a.length with hi | hi
  · rw [List.getElem?_append_left hi] at h1
    rw [List.getElem?_append_left (h.1 ▸ hi)] at h2
    exact h.2 i v v' h1 h2
  · rw [List.getElem?_append_right hi] at h1
    rw [List.getElem?_append_right (h.1 ▸ hi), ← h.1] at h2
    exact k.2 _ v v' h1 h2
theorem LR.take {μ : Mu} {a a' : List Value} (n : Nat) (h : LR μ a a') : LR μ (a.take n) (a'.take n) := by
  refine ⟨by simp [h.1], fun i v v' h1 h2 => ?_⟩
  rw [List.getElem?_take] at h1 h2
  split at h1
  · rename_i hi; rw [if_pos hi] at h2; exact h.2 i v v' h1 h2
  · cases h1
theorem LR.drop {μ : Mu} {a a' : List Value} (n : Nat) (h : LR μ a a') : LR μ (a.drop n) (a'.drop n) := by
  refine ⟨by simp [h.1], fun i v v' h1 h2 => ?_⟩
  rw [List.getElem?_drop] at h1 h2
  exact h.2 _ v v' h1 h2
theorem LR.set {μ : Mu} {a a' : List Value} {v v' : Value} (i : Nat) (h : LR μ a a') (hv : VR μ v v') : LR μ (a.set i v) (a'.set i v') := by
  refine ⟨by simp [h.1], fun j u u' h1 h2 => ?_⟩
  rw [List.getElem?_set] at h1 h2
  split at h1
  · rename_i hij
    rw [if_pos hij] at h2
    split at h1
    · rename_i hlt
      rw [if_pos (h.1 ▸ hlt)] at h2
      cases h1; cases h2; exact hv
    · cases h1
  · rename_i hij
    rw [if_neg hij] at h2
    exact h.2 j u u' h1 h2

def Mu.le (μ μ' : Mu) : Prop := ∀ b x, μ b = some x → μ' b = some x
theorem Mu.le_refl (μ : Mu) : Mu.le μ μ := fun _ _ h => h
theorem Mu.le_trans {a b c : Mu} (h : Mu.le a b) (k : Mu.le b c) : Mu.le a c := fun x y e => k x y (h x y e)

theorem VR.mono {μ μ' : Mu} (hl : Mu.le μ μ') {v v' : Value} (h : VR μ v v') : VR μ' v v' := by
  induction h with
  | bool b => exact .bool b
  | int k n => exact .int k n
  | float k n => exact .float k n
  | unkI k n => exact .unkI k n
  | unkS s => exact .unkS s
  | str s => exact .str s
  | ptrNil => exact .ptrNil
  | ptr h => exact .ptr (hl _ _ h)
  | sliceNil n m => exact .sliceNil n m
  | slice h hm => exact .slice (hl _ _ h) hm
  | sliceG h hk hb => exact .sliceG (hl _ _ h) hk hb
  | sliceE => exact .sliceE
  | mapNil => exact .mapNil
  | map h => exact .map (hl _ _ h)
  | func hfn hf hf' hc hc' ih1 ih2 => exact .func hfn hf ih1 hc ih2
  | yield h => exact .yield (hl _ _ h)
  | nilFunc => exact .nilFunc
  | iface _ ih => exact .iface ih
  | nilIface => exact .nilIface
  | agg hs _ ih => exact .agg hs ih
  | tuple hs _ ih => exact .tuple hs ih
theorem LR.mono {μ μ' : Mu} (hl : Mu.le μ μ') {l l' : List Value} (h : LR μ l l') : LR μ' l l' := ⟨h.1, fun i v v' h1 h2 => (h.2 i v v' h1 h2).mono hl⟩
theorem ArR.mono {μ μ' : Mu} (hl : Mu.le μ μ') {l l' : Array Value} (h : ArR μ l l') : ArR μ' l l' := ⟨h.1, fun i v v' h1 h2 => (h.2 i v v' h1 h2).mono hl⟩

/-- Values without addresses. -/
def scalar : Value → Bool
  | .bool _ | .int _ _ | .float _ _ | .string _ | .pointer none | .slice none _ _ | .map none | .nilFunc | .nilIface => true
  | _ => false
def flat1 : Value → Bool
  | .agg cs => cs.toList.all scalar
  | .iface _ v => scalar v
  | .func (.func _) f c => f.isEmpty && c.isEmpty
  | v => scalar v
def flat : Value → Bool
  | .tuple cs => cs.toList.all flat1
  | v => flat1 v

theorem scalar_refl {μ : Mu} {v : Value} (h : scalar v = true) : VR μ v v := by
  unfold scalar at h
  split at h <;> first | constructor | cases h
theorem scalar_eq {μ : Mu} {v v' : Value} (h : scalar v = true) (r : VR μ v v') : v' = v := by
  cases r <;> first | rfl | (simp [scalar] at h)
theorem rows_refl {μ : Mu} {cs : Array Value} {p : Value → Bool} (hp : ∀ v, p v = true → VR μ v v) (h : cs.toList.all p = true) :
    ∀ (i : Nat) (v v' : Value), cs[i]? = some v → cs[i]? = some v' → VR μ v v' := by
  intro i v v' h1 h2
  rw [h1] at h2; cases h2
  refine hp v (List.all_eq_true.1 h v ?_)
  have : cs.toList[i]? = some v := by simpa using h1
  exact List.mem_of_getElem? this
theorem rows_eq {μ : Mu} {cs cs' : Array Value} {p : Value → Bool} (hp : ∀ v v', p v = true → VR μ v v' → v' = v) (h : cs.toList.all p = true) (hs : cs.size = cs'.size)
    (hr : ∀ (i : Nat) (v v' : Value), cs[i]? = some v → cs'[i]? = some v' → VR μ v v') : cs' = cs := by
  apply Array.ext_getElem?
  intro i
  rcases Nat.lt_or_ge i cs.size with hi | hi
  · have h1 := Array.getElem?_eq_getElem hi
    have h2 := Array.getElem?_eq_getElem (hs ▸ hi)
    have := hr i _ _ h1 h2
    have hm : cs[i] ∈ cs.toList := by simp
    rw [h1, h2, hp _ _ (List.all_eq_true.1 h _ hm) this]
  · rw [Array.getElem?_eq_none hi, Array.getElem?_eq_none (hs ▸ hi)]
theorem flat1_refl {μ : Mu} {v : Value} (h : flat1 v = true) : VR μ v v := by
  unfold flat1 at h
  split at h
  · exact .agg rfl (rows_refl (fun v hv => scalar_refl hv) h)
  · exact .iface (scalar_refl h)
  · simp only [Bool.and_eq_true, Array.isEmpty_iff] at h
    obtain ⟨rfl, rfl⟩ := h
    exact .func (by simp) rfl (by simp) rfl (by simp)
  · exact scalar_refl h
theorem flat1_eq {μ : Mu} {v v' : Value} (h : flat1 v = true) (r : VR μ v v') : v' = v := by
  unfold flat1 at h
  split at h
  · cases r with
    | agg hs hr => rw [rows_eq (fun _ _ a b => scalar_eq a b) h hs hr]
  · cases r with
    | iface hr => rw [scalar_eq h hr]
  · simp only [Bool.and_eq_true, Array.isEmpty_iff] at h
    obtain ⟨rfl, rfl⟩ := h
    cases r with
    | func h1 h2 h3 h4 h5 =>
      have a1 := Array.eq_empty_of_size_eq_zero h2.symm
      have a2 := Array.eq_empty_of_size_eq_zero h4.symm
      rw [a1, a2]
  · exact scalar_eq h r
theorem flat_refl {μ : Mu} {v : Value} (h : flat v = true) : VR μ v v := by
  unfold flat at h
  split at h
  · exact .tuple rfl (rows_refl (fun v hv => flat1_refl hv) h)
  · exact flat1_refl h
theorem flat_eq {μ : Mu} {v v' : Value} (h : flat v = true) (r : VR μ v v') : v' = v := by
  unfold flat at h
  split at h
  · cases r with
    | tuple hs hr => rw [rows_eq (fun _ _ a b => flat1_eq a b) h hs hr]
  · exact flat1_eq h r

end Go.Ai
