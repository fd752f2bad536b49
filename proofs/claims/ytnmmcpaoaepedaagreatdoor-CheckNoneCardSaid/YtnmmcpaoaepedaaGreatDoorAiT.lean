/-
  A region whose order is drawn: the check of a plan; two operations that may stand in either order.
-/
import Derived.Test.YtnmmcpaoaepedaaGreatDoorAiS
noncomputable section
namespace Go.Ai

abbrev Ent := Nat × List Nat × List Nat
abbrev Recs := Nat → Option (((Nat → Option AObj) → Option Value) × Value)

/-! ### What must stand ahead of what -/

inductive Anc (ops : Array Oper) : Nat → Nat → Prop
  | one {i : Nat} {o : Oper} {e : Edge} (ho : ops[i]? = some o) (he : e ∈ o.after) (hb : Region.binds .any e = true) : Anc ops e.on i
  | more {i j : Nat} {o : Oper} {e : Edge} (ho : ops[i]? = some o) (he : e ∈ o.after) (hb : Region.binds .any e = true) (h : Anc ops j e.on) : Anc ops j i

def edgeMask (ms : List Nat) : List Edge → Nat
  | [] => 0
  | e :: l => bif Region.binds .any e then (1 <<< e.on) ||| ((ms.getD e.on 0) ||| edgeMask ms l) else edgeMask ms l

def ancGo : List Oper → List Nat → List Nat
  | [], ms => ms
  | o :: l, ms => ancGo l (ms ++ [edgeMask ms o.after.toList])

def ancOf (ops : Array Oper) : List Nat := ancGo ops.toList []

theorem edgeMask_ok {ops : Array Oper} {ms : List Nat} (hms : ∀ i m, ms[i]? = some m → ∀ j, m.testBit j = true → Anc ops j i) {i : Nat} {o : Oper} (ho : ops[i]? = some o) :
    ∀ (l : List Edge), (∀ e ∈ l, e ∈ o.after) → ∀ j, (edgeMask ms l).testBit j = true → Anc ops j i
  | [], _, j, h => by simp [edgeMask] at h
  | e :: l, hl, j, h => by
    have he := hl e (by simp)
    have ih := edgeMask_ok hms ho l (fun e' h' => hl e' (by simp [h'])) j
    simp only [edgeMask] at h
    cases hb : Region.binds .any e with
    | false => rw [hb] at h; exact ih h
    | true =>
      rw [hb] at h
      simp only [cond_true, Nat.testBit_or, Bool.or_eq_true] at h
      rcases h with h | h | h
      · rw [Nat.one_shiftLeft, Nat.testBit_two_pow] at h
        have : e.on = j := by simpa using h
        subst this
        exact .one ho he hb
      · rw [List.getD_eq_getElem?_getD] at h
        cases hm : ms[e.on]? with
        | none => rw [hm] at h; simp at h
        | some m => rw [hm] at h; exact .more ho he hb (hms _ _ hm j (by simpa using h))
      · exact ih h

theorem ancGo_ok {ops : Array Oper} : ∀ (l : List Oper) (ms : List Nat), ops.toList.drop ms.length = l → (∀ i m, ms[i]? = some m → ∀ j, m.testBit j = true → Anc ops j i) →
    ∀ i m, (ancGo l ms)[i]? = some m → ∀ j, m.testBit j = true → Anc ops j i
  | [], ms, _, h => h
  | o :: l, ms, hd, h => by
    have ho : ops[ms.length]? = some o := by
      have := congrArg (·[0]?) hd
      simp at this
      exact this
    refine ancGo_ok l (ms ++ [edgeMask ms o.after.toList]) ?_ ?_
    · have := congrArg (List.drop 1) hd
      simpa [List.drop_drop, Nat.add_comm] using this
    · intro i m hm j hj
      by_cases hi : i < ms.length
      · rw [List.getElem?_append_left hi] at hm; exact h i m hm j hj
      · rw [List.getElem?_append_right (by omega)] at hm
        have : i = ms.length := by
          have := (List.getElem?_eq_some_iff.1 hm).1
          simp at this; omega
        subst this
        simp at hm; subst hm
        exact edgeMask_ok h ho _ (fun e he => by simpa using he) j hj

theorem ancOf_ok {ops : Array Oper} {i m : Nat} (h : (ancOf ops)[i]? = some m) {j : Nat} (hj : m.testBit j = true) : Anc ops j i :=
  ancGo_ok ops.toList [] (by simp) (fun i m hm => by simp at hm) i m h j hj

/-! ### The check -/

def kindsOk (kx ky : Kd) (x y : Ent) : Bool :=
  match kx with
  | .d => false
  | .p => (match ky with | .d => false | _ => true)
  | .a => (match ky with | .p => true | .a => true | _ => false)
  | .r => (match ky with | .p => true | .a => true | .r => true | .w => y.2.1.contains x.1 | .d => false)
  | .w => (match ky with | .p => true | .a => !(x.2.2.contains y.1) | _ => false)

def pairOk (C : Ctx) (ops : Array Oper) (ms : List Nat) (x y : Ent) : Bool :=
  !(Nat.beq x.1 y.1) && ((ms.getD y.1 0).testBit x.1 || (match ops[x.1]?, ops[y.1]? with
    | some ox, some oy => kindsOk (kindOf C ox) (kindOf C oy) x y && Oper.apart ops ox oy
    | _, _ => false))

def pairsOk (C : Ctx) (ops : Array Oper) (ms : List Nat) : List Ent → Bool
  | [] => true
  | x :: l => l.all (pairOk C ops ms x) && pairsOk C ops ms l

def downOk : List Oper → Nat → Bool
  | [], _ => true
  | o :: l, i => o.after.toList.all (fun e => !(Region.binds .any e) || Nat.blt e.on i) && downOk l (i + 1)

def planOk (C : Ctx) (ops : Array Oper) (p : List Ent) : Bool :=
  downOk ops.toList 0 && (List.range ops.size).all (fun i => p.any fun s => Nat.beq s.1 i) && pairsOk C ops (ancOf ops) p && Nat.ble p.length ops.size

theorem downOk_ok {ops : Array Oper} : ∀ (l : List Oper) (k : Nat), ops.toList.drop k = l → downOk l k = true → ∀ i o, k ≤ i → ops[i]? = some o → ∀ e ∈ o.after, Region.binds .any e = true → e.on < i
  | [], k, hd, _, i, o, hi, ho, _, _, _ => by
    have : ops.size ≤ k := by simpa using hd
    have := (Array.getElem?_eq_some_iff.1 ho).1
    omega
  | o' :: l, k, hd, h, i, o, hi, ho, e, he, hb => by
    simp only [downOk, Bool.and_eq_true] at h
    have hk : ops[k]? = some o' := by
      have := congrArg (·[0]?) hd
      simp at this
      exact this
    by_cases hik : i = k
    · subst hik
      rw [hk] at ho; cases ho
      have := List.all_eq_true.1 h.1 e (by simpa using he)
      simp only [hb, Bool.not_true, Bool.false_or] at this
      exact (blt_iff _ _).1 this
    · refine downOk_ok l (k + 1) ?_ h.2 i o (by omega) ho e he hb
      have := congrArg (List.drop 1) hd
      simpa [List.drop_drop, Nat.add_comm] using this

theorem pairsOk_pw {C : Ctx} {ops : Array Oper} {ms : List Nat} : ∀ {l : List Ent}, pairsOk C ops ms l = true → l.Pairwise (fun x y => pairOk C ops ms x y = true)
  | [], _ => .nil
  | x :: l, h => by
    simp only [pairsOk, Bool.and_eq_true] at h
    exact .cons (fun y hy => List.all_eq_true.1 h.1 y hy) (pairsOk_pw h.2)

/-! ### The nursery and the heap -/

theorem upd_self {α : Type} (f : Nat → Option α) (i : Nat) (x : Option α) : upd f i x i = x := by
  unfold upd; rw [(beq_true_iff i i).2 rfl]; rfl
theorem upd_other {α : Type} (f : Nat → Option α) {i j : Nat} (x : Option α) (h : i ≠ j) : upd f i x j = f j := by
  unfold upd; rw [(beq_false_iff i j).2 h]; rfl
theorem upd_comm {α : Type} (f : Nat → Option α) {i j : Nat} (x y : Option α) (h : i ≠ j) : upd (upd f i x) j y = upd (upd f j y) i x := by
  funext k
  by_cases hi : i = k <;> by_cases hj : j = k
  · omega
  · subst hi; rw [upd_other _ _ hj, upd_self, upd_self]
  · subst hj; rw [upd_self, upd_other _ _ hi, upd_self]
  · rw [upd_other _ _ hj, upd_other _ _ hi, upd_other _ _ hi, upd_other _ _ hj]

theorem mergeA_upd {base y : Nat} {ob : Option AObj} : ∀ (l : List Nat) (H : Hp) (N : Nat → Option AObj), y ∉ l → mergeA base l H (upd N (base + y) ob) = ((mergeA base l H N).1, upd (mergeA base l H N).2 (base + y) ob)
  | [], H, N, _ => rfl
  | i :: l, H, N, h => by
    have hi : y ≠ i := fun e => h (by simp [e])
    have hl : y ∉ l := fun e => h (by simp [e])
    simp only [mergeA]
    rw [upd_other _ _ (by omega : base + y ≠ base + i)]
    cases hN : N (base + i) with
    | none => simp only; exact mergeA_upd l H N hl
    | some o =>
      simp only
      rw [upd_comm _ _ _ (by omega : base + y ≠ base + i)]
      exact mergeA_upd l _ _ hl

theorem mergeA_none {base : Nat} : ∀ (l : List Nat) (H : Hp) (N : Nat → Option AObj) (b : Nat), N b = none → (mergeA base l H N).2 b = none
  | [], _, _, _, h => h
  | i :: l, H, N, b, h => by
    simp only [mergeA]
    cases hN : N (base + i) with
    | none => exact mergeA_none l H N b h
    | some o =>
      refine mergeA_none l _ _ b ?_
      by_cases hb : base + i = b
      · subst hb; rw [upd_self]
      · rw [upd_other _ _ hb]; exact h

theorem view_upd_more {H : Hp} {N : Nat → Option AObj} {b : Nat} {o : Option AObj} (h : N b = none) : More (view H N) (view H (upd N b o)) := by
  intro b' o' h'
  unfold view at *
  cases hH : H.get b' with
  | some x => rw [hH] at h'; exact h'
  | none =>
    rw [hH] at h'
    simp only at h' ⊢
    by_cases hb : b = b'
    · subst hb; rw [h] at h'; cases h'
    · rw [upd_other _ _ hb]; exact h'

def RMono (R : Recs) : Prop := ∀ j rd v, R j = some (rd, v) → ∀ g g' u, More g g' → rd g = some u → rd g' = some u

theorem watchOk_more {R : Recs} (hR : RMono R) {g g' : Nat → Option AObj} (hm : More g g') : ∀ (l : List Nat), watchOk g R l = true → watchOk g' R l = true
  | [], _ => rfl
  | j :: l, h => by
    simp only [watchOk] at h ⊢
    cases hj : R j with
    | none => rw [hj] at h; exact watchOk_more hR hm l h
    | some p =>
      obtain ⟨rd, v⟩ := p
      rw [hj] at h
      simp only at h ⊢
      cases hu : rd g with
      | none => rw [hu] at h; cases h
      | some u =>
        rw [hu] at h
        rw [hR j rd v hj g g' u hm hu]
        simp only at h ⊢
        cases hv : veq u v with
        | false => rw [hv] at h; cases h
        | true => rw [hv] at h; exact watchOk_more hR hm l h

theorem watchOk_fewer {R R' : Recs} {g : Nat → Option AObj} (hr : ∀ j, R' j = none ∨ R' j = R j) : ∀ (l : List Nat), watchOk g R l = true → watchOk g R' l = true
  | [], _ => rfl
  | j :: l, h => by
    simp only [watchOk] at h ⊢
    have hl : watchOk g R l = true := by
      cases hj : R j with
      | none => rw [hj] at h; exact h
      | some p =>
        rw [hj] at h
        simp only at h
        cases hu : p.1 g with
        | none => rw [hu] at h; cases h
        | some u =>
          rw [hu] at h
          simp only at h
          cases hv : veq u p.2 with
          | false => rw [hv] at h; cases h
          | true => rw [hv] at h; exact h
    rcases hr j with hj | hj
    · rw [hj]; exact watchOk_fewer hr l hl
    · rw [hj]
      cases hj' : R j with
      | none => exact watchOk_fewer hr l hl
      | some p =>
        rw [hj'] at h
        simp only at h ⊢
        cases hu : p.1 g with
        | none => rw [hu] at h; cases h
        | some u =>
          rw [hu] at h
          simp only at h ⊢
          cases hv : veq u p.2 with
          | false => rw [hv] at h; cases h
          | true => rw [hv] at h; exact watchOk_fewer hr l hl

theorem watchOk_mem {R : Recs} {g : Nat → Option AObj} {rd : (Nat → Option AObj) → Option Value} {v : Value} {j : Nat} (hj : R j = some (rd, v)) : ∀ (l : List Nat), j ∈ l → watchOk g R l = true → rd g = some v
  | [], h, _ => by simp at h
  | i :: l, hm, h => by
    simp only [watchOk] at h
    by_cases hij : i = j
    · subst hij
      rw [hj] at h
      simp only at h
      cases hu : rd g with
      | none => rw [hu] at h; cases h
      | some u =>
        rw [hu] at h
        simp only at h
        cases hv : veq u v with
        | false => rw [hv] at h; cases h
        | true => rw [veq_sound hv]
    · have hl : watchOk g R l = true := by
        cases hi : R i with
        | none => rw [hi] at h; exact h
        | some p =>
          rw [hi] at h
          simp only at h
          cases hu : p.1 g with
          | none => rw [hu] at h; cases h
          | some u =>
            rw [hu] at h
            simp only at h
            cases hv : veq u p.2 with
            | false => rw [hv] at h; cases h
            | true => rw [hv] at h; exact h
      exact watchOk_mem hj l (by
        rcases List.mem_cons.1 hm with h' | h'
        · exact absurd h'.symm hij
        · exact h') hl

end Go.Ai
