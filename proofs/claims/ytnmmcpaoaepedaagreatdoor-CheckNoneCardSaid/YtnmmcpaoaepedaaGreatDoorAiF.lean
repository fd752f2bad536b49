/-
  The operations that hang on no memory, one by one: fields, elements, parts, what is built.
-/
import Derived.Test.YtnmmcpaoaepedaaGreatDoorAiE
noncomputable section
namespace Go.Ai

theorem beq_false_iff (a b : Nat) : Nat.beq a b = false ↔ a ≠ b := by
  rw [← Bool.not_eq_true, beq_true_iff]

def fieldAddrP (C : Ctx) (t : TypeId) (x : Value) (f : Nat) : Option Value :=
  match C.und t, x with
  | some (.struct fs), .pointer (some ⟨b, o, none⟩) => match fs.toList[f]? with
    | some fd => match C.ty fd.type with
      | some i => bif Nat.beq i.size 0 then none else some (.pointer (some ⟨b, o + fd.offset, none⟩))
      | none => none
    | none => none
  | _, _ => none

theorem fieldAddrP_ok {C : Ctx} (hC : C.Ok) {μ : Mu} {t : TypeId} {x x' v : Value} {f : Nat} (e : fieldAddrP C t x f = some v) (r : VR μ x x') (w : World) :
    ∃ v', (Instr.fieldAt t x' f).run C.P w = .ok v' w ∧ VR μ v v' := by
  unfold fieldAddrP at e
  split at e
  · rename_i fs b o hu
    have hu := run_underlying w (Ctx.und_ok hC hu)
    cases r with
    | @ptr _ _ c sh k hm =>
      split at e
      · rename_i fd hf
        split at e
        · rename_i i hi
          have hsz := run_sizeOf w (hC.ty _ _ hi)
          cases hz : Nat.beq i.size 0 with
          | true => rw [hz] at e; cases e
          | false =>
            rw [hz] at e; cases e
            have hz := (beq_false_iff _ _).1 hz
            have hf' : fs[f]? = some fd := by simpa using hf
            refine ⟨.pointer (some ⟨c, sh + o + fd.offset, none⟩), ?_, by rw [Nat.add_assoc]; exact .ptr hm⟩
            simp [Instr.fieldAt, Instr.sureAddr, hu, hf', fieldPlace, hsz, if_neg hz, add_eq]
        · cases e
      · cases e
  · cases e

def indexAddrP (C : Ctx) (t : TypeId) (x ix : Value) : Option Value :=
  match ix with
  | .int _ n => match C.und t, x with
    | some (.slice el), .slice (some ⟨b, o, none⟩) len _ => match C.ty el with
      | some i => if 0 ≤ n ∧ n < len then some (.pointer (some ⟨b, o + n.toNat * i.size, none⟩)) else none
      | none => none
    | some (.array len el), .pointer (some ⟨b, o, none⟩) => match C.ty el with
      | some i => if 0 ≤ n ∧ n < len then some (.pointer (some ⟨b, o + n.toNat * i.size, none⟩)) else none
      | none => none
    | _, _ => none
  | _ => none

theorem indexAddrP_ok {C : Ctx} (hC : C.Ok) {μ : Mu} {t : TypeId} {x x' ix ix' v : Value} (e : indexAddrP C t x ix = some v) (r : VR μ x x') (ri : VR μ ix ix') (w : World) :
    ∃ v', (Instr.indexAt t x' ix').run C.P w = .ok v' w ∧ VR μ v v' := by
  unfold indexAddrP at e
  split at e
  · rename_i k n
    cases ri
    split at e
    · rename_i el b o len cap hu
      have hu := run_underlying w (Ctx.und_ok hC hu)
      split at e
      · rename_i i hi
        have hsz := run_sizeOf w (hC.ty _ _ hi)
        split at e
        · rename_i hn
          cases e
          have main : ∀ c sh k' cap', μ b = some (c, sh, k') → ∃ v', (Instr.indexAt t (.slice (some ⟨c, sh + o, none⟩) len cap') (.int k n)).run C.P w = .ok v' w ∧ VR μ (.pointer (some ⟨b, o + n.toNat * i.size, none⟩)) v' := by
            intro c sh k' cap' hm
            refine ⟨.pointer (some ⟨c, sh + o + n.toNat * i.size, none⟩), ?_, by rw [Nat.add_assoc]; exact .ptr hm⟩
            simp [Instr.indexAt, asIntOf, hu, hsz, add_eq]
            intro h1; omega
          cases r with
          | slice hm hk => exact main _ _ _ _ hm
          | sliceG hm hk hb => exact main _ _ _ _ hm
          | sliceE => omega
        · cases e
      · cases e
    · rename_i len el b o hu
      have hu := run_underlying w (Ctx.und_ok hC hu)
      split at e
      · rename_i i hi
        have hsz := run_sizeOf w (hC.ty _ _ hi)
        split at e
        · rename_i hn
          cases e
          cases r with
          | @ptr _ _ c sh k' hm =>
            refine ⟨.pointer (some ⟨c, sh + o + n.toNat * i.size, none⟩), ?_, by rw [Nat.add_assoc]; exact .ptr hm⟩
            simp [Instr.indexAt, Instr.sureAddr, asIntOf, hu, hsz, add_eq]
            intro h1; omega
        · cases e
      · cases e
    · cases e
  · cases e

def aggB : TypeDesc → Bool
  | .struct _ | .array _ _ => true
  | _ => false

/-- A part of a row: of a struct or an array its own row, else the one cell. -/
def partP (C : Ctx) (t : TypeId) (cs : List Value) (off : Nat) : Option Value :=
  match C.ty t, C.und t with
  | some i, some d => bif aggB d then (bif Nat.ble (off + i.size) cs.length then some (.agg ((cs.drop off).take i.size).toArray) else none) else cs[off]?
  | _, _ => none

theorem run_isAgg {C : Ctx} (hC : C.Ok) {t : TypeId} {d : TypeDesc} (w : World) (h : C.und t = some d) : (isAgg t).run C.P w = .ok (aggB d) w := by
  have hu := run_underlying w (Ctx.und_ok hC h)
  simp only [isAgg, Sem.run_bind, hu, Result.andThen_ok]
  cases d <;> rfl

theorem partP_ok {C : Ctx} (hC : C.Ok) {μ : Mu} {t : TypeId} {cs : List Value} {cs' : Array Value} {off : Nat} {v : Value} (e : partP C t cs off = some v) (r : LR μ cs cs'.toList) (w : World) :
    ∃ v', (part t cs' off).run C.P w = .ok v' w ∧ VR μ v v' := by
  unfold partP at e
  split at e
  · rename_i i d hi hd
    have hsz := run_sizeOf w (hC.ty _ _ hi)
    have hag := run_isAgg hC w hd
    cases ha : aggB d with
    | true =>
      rw [ha] at e hag
      simp only [cond_true] at e
      cases hb : Nat.ble (off + i.size) cs.length with
      | false => rw [hb] at e; cases e
      | true =>
        rw [hb] at e; cases e
        refine ⟨.agg (cs'.extract off (off + i.size)), ?_, ?_⟩
        · simp only [part, Sem.run_bind, hag, Result.andThen_ok, hsz, if_true]; rfl
        · have h1 := ((r.drop off).take i.size).toArray
          have h2 : ((cs'.toList.drop off).take i.size).toArray = cs'.extract off (off + i.size) := by
            apply Array.ext'
            rw [Array.toList_extract]
            show _ = (cs'.toList.drop off).take (off + i.size - off)
            rw [Nat.add_sub_cancel_left]
          rw [h2] at h1
          exact .agg h1.1 h1.2
    | false =>
      rw [ha] at e hag
      simp only [cond_false] at e
      obtain ⟨v', h1, h2⟩ := r.at e
      refine ⟨v', ?_, h2⟩
      have h1' : cs'[off]? = some v' := by simpa using h1
      simp only [part, Sem.run_bind, hag, Result.andThen_ok, Bool.false_eq_true, if_false, h1']; rfl
  · cases e

def fieldP (C : Ctx) (t : TypeId) (x : Value) (f : Nat) : Option Value :=
  match C.und t, x with
  | some (.struct fs), .agg cs => match fs.toList[f]? with
    | some fd => partP C fd.type cs.toList fd.offset
    | none => none
  | _, _ => none

theorem fieldP_ok {C : Ctx} (hC : C.Ok) {μ : Mu} {t : TypeId} {x x' v : Value} {f : Nat} (e : fieldP C t x f = some v) (r : VR μ x x') (w : World) :
    ∃ v', (Instr.field t x' f).run C.P w = .ok v' w ∧ VR μ v v' := by
  unfold fieldP at e
  split at e
  · rename_i fs cs hu
    have hu := run_underlying w (Ctx.und_ok hC hu)
    cases r with
    | @agg _ cs' hs hr =>
      split at e
      · rename_i fd hf
        have hf' : fs[f]? = some fd := by simpa using hf
        obtain ⟨v', h1, h2⟩ := partP_ok hC e (ArR.toList ⟨hs, hr⟩) w
        exact ⟨v', by simp [Instr.field, hu, hf', asAgg, h1], h2⟩
      · cases e
  · cases e

def indexP (C : Ctx) (t : TypeId) (x ix : Value) : Option Value :=
  match ix with
  | .int _ n => match C.und t, x with
    | some .string, .string s => if 0 ≤ n then (match (bytesOf s)[n.toNat]? with | some b => some (.int .u8 b.toNat) | none => none) else none
    | some (.array len el), .agg cs => match C.ty el with
      | some i => if 0 ≤ n ∧ n < len then partP C el cs.toList (n.toNat * i.size) else none
      | none => none
    | _, _ => none
  | _ => none

theorem indexP_ok {C : Ctx} (hC : C.Ok) {μ : Mu} {t : TypeId} {x x' ix ix' v : Value} (e : indexP C t x ix = some v) (r : VR μ x x') (ri : VR μ ix ix') (w : World) :
    ∃ v', (Instr.index t x' ix').run C.P w = .ok v' w ∧ VR μ v v' := by
  unfold indexP at e
  split at e
  · rename_i k n
    cases ri
    split at e
    · rename_i s hu
      have hu := run_underlying w (Ctx.und_ok hC hu)
      cases r
      split at e
      · rename_i hn
        split at e
        · rename_i b hb
          cases e
          have hb' : s[n.toNat]? = some b := by
            have hlt : n.toNat < (bytesOf s).length := (List.getElem?_eq_some_iff.1 hb).1
            have hlt' : n.toNat < s.size := by rw [size_bytes]; exact hlt
            have h3 := (List.getElem?_eq_some_iff.1 hb).2
            rw [getElem?_pos s n.toNat hlt']
            congr 1
          refine ⟨_, ?_, .int _ _⟩
          simp only [Instr.index, asIntOf, Sem.run_bind, Sem.run_pure, Result.andThen_ok, hu, if_pos hn, hb']
        · cases e
      · cases e
    · rename_i len el cs hu
      have hu := run_underlying w (Ctx.und_ok hC hu)
      cases r with
      | @agg _ cs' hs hr =>
        split at e
        · rename_i i hi
          have hsz := run_sizeOf w (hC.ty _ _ hi)
          split at e
          · rename_i hn
            obtain ⟨v', h1, h2⟩ := partP_ok hC e (ArR.toList ⟨hs, hr⟩) w
            exact ⟨v', by simp only [Instr.index, asIntOf, Sem.run_bind, Sem.run_pure, Result.andThen_ok, hu, if_pos hn, hsz, h1], h2⟩
          · cases e
        · cases e
    · cases e
  · cases e

def extractP (x : Value) (i : Nat) : Option Value :=
  match x with
  | .tuple vs => vs.toList[i]?
  | _ => none

theorem extractP_ok {P : Program} {μ : Mu} {x x' v : Value} {i : Nat} (e : extractP x i = some v) (r : VR μ x x') (w : World) :
    ∃ v', (Instr.extract x' i).run P w = .ok v' w ∧ VR μ v v' := by
  unfold extractP at e
  split at e
  · cases r with
    | @tuple _ vs' hs hr =>
      obtain ⟨v', h1, h2⟩ := (ArR.toList ⟨hs, hr⟩ : LR μ _ _).at e
      have h1' : vs'[i]? = some v' := by simpa using h1
      exact ⟨v', by simp [Instr.extract, h1'], h2⟩
  · cases e

/-! ### What is built -/

/-- The list with these laid at a place. -/
def splice (cells : List Value) (off : Nat) (vs : List Value) : List Value := cells.take off ++ vs ++ cells.drop (off + vs.length)

theorem foldl_splice : ∀ (vs : List Value) (n off : Nat) (cells : Array Value), off + n + vs.length ≤ cells.size →
    ((vs.zipIdx n).foldl (fun cs (p : Value × Nat) => cs.setIfInBounds (off + p.2) p.1) cells).toList = splice cells.toList (off + n) vs
  | [], n, off, cells, _ => by simp [splice]
  | v :: vs, n, off, cells, h => by
    simp only [List.length_cons] at h
    rw [List.zipIdx_cons, List.foldl_cons]
    have := foldl_splice vs (n + 1) off (cells.setIfInBounds (off + n) v) (by simp; omega)
    rw [this]
    unfold splice
    apply List.ext_getElem?
    intro i
    have hsz : (cells.setIfInBounds (off + n) v).toList = cells.toList.set (off + n) v := by simp
    rw [hsz]
    have hl : cells.toList.length = cells.size := by simp
    rw [List.append_assoc, List.append_assoc]
    simp only [List.getElem?_append, List.length_take, List.length_set, List.getElem?_take, List.getElem?_drop, List.getElem?_set, List.length_cons, hl]
    have m1 : min (off + (n + 1)) cells.size = off + n + 1 := by omega
    have m2 : min (off + n) cells.size = off + n := by omega
    simp only [m1, m2]
    by_cases c1 : i < off + n
    · simp [c1, show i < off + n + 1 by omega, show off + n ≠ i by omega, show i < off + (n + 1) by omega]
    · by_cases c2 : i = off + n
      · subst c2; simp [show off + n < cells.size by omega]
      · have c3 : ¬ i < off + n + 1 := by omega
        simp only [c1, c3, if_false]
        have e1 : i - (off + n) = (i - (off + n + 1)) + 1 := by omega
        rw [e1]
        simp only [List.getElem?_cons_succ]
        by_cases c4 : i - (off + n + 1) < vs.length
        · simp [c4, show i - (off + n + 1) + 1 < vs.length + 1 by omega]
        · simp only [c4, if_false, show ¬ (i - (off + n + 1) + 1 < vs.length + 1) by omega]
          rw [if_neg (by omega)]
          congr 1; omega

/-- 'fill' over lists: places and sizes, what is laid. -/
def fillL (place : Nat → Option (Nat × Nat)) (cells : List Value) : List (Nat × Value) → Option (List Value)
  | [] => some cells
  | (i, v) :: rest =>
    match place i with
    | none => none
    | some (off, size) =>
      bif Nat.beq (cellsL v).length size && Nat.ble (off + (cellsL v).length) cells.length then fillL place (splice cells off (cellsL v)) rest else none

theorem LR.splice {μ : Mu} {a a' b b' : List Value} (h : LR μ a a') (k : LR μ b b') (n : Nat) : LR μ (splice a n b) (splice a' n b') := by
  unfold Go.Ai.splice
  rw [← k.1]
  exact ((h.take n).append k).append (h.drop _)

theorem fillL_ok {μ : Mu} {place : Nat → Option (Nat × Nat)} : ∀ {parts parts' : List (Nat × Value)} {cells : List Value} {cells' : Array Value} {r : List Value},
    fillL place cells parts = some r → LR μ cells cells'.toList → parts.length = parts'.length → (∀ (i : Nat) (p p' : Nat × Value), parts[i]? = some p → parts'[i]? = some p' → p'.1 = p.1 ∧ VR μ p.2 p'.2) →
    ∃ r', Instr.fill place cells' parts' = some r' ∧ LR μ r r'.toList
  | [], parts', cells, cells', r, h, hc, hl, _ => by
    cases parts' with
    | nil => cases h; exact ⟨cells', rfl, hc⟩
    | cons _ _ => cases hl
  | (i, v) :: rest, parts', cells, cells', r, h, hc, hl, hp => by
    cases parts' with
    | nil => cases hl
    | cons p' rest' =>
      obtain ⟨i', v'⟩ := p'
      obtain ⟨rfl, hv⟩ := hp 0 _ _ rfl rfl
      simp only at hv
      simp only [fillL] at h
      cases hpl : place i' with
      | none => rw [hpl] at h; cases h
      | some os =>
        obtain ⟨off, size⟩ := os
        rw [hpl] at h
        simp only at h
        cases hb : Nat.beq (cellsL v).length size && Nat.ble (off + (cellsL v).length) cells.length with
        | false => rw [hb] at h; cases h
        | true =>
          rw [hb] at h
          simp only [cond_true] at h
          simp only [Bool.and_eq_true] at hb
          have h1 := Nat.eq_of_beq_eq_true hb.1
          have h2 := Nat.le_of_ble_eq_true hb.2
          have hcv := hv.cells
          have hl1 : v'.cells.size = size := by rw [← Array.length_toList, cellsL_eq, ← hcv.1]; exact h1
          have hl2 : off + v'.cells.size ≤ cells'.size := by have h3 := hc.1; have h4 : cells'.toList.length = cells'.size := Array.length_toList; omega
          have hspl : ((v'.cells.zipIdx.foldl (fun cs (p : Value × Nat) => cs.setIfInBounds (off + p.2) p.1) cells')).toList = splice cells'.toList off (cellsL v') := by
            have := foldl_splice v'.cells.toList 0 off cells' (by simpa using hl2)
            rw [← cellsL_eq, ← Array.foldl_toList, Array.toList_zipIdx]
            simpa using this
          obtain ⟨r', e1, e2⟩ := fillL_ok (place := place) (parts' := rest') (cells' := v'.cells.zipIdx.foldl (fun cs (p : Value × Nat) => cs.setIfInBounds (off + p.2) p.1) cells') h (by rw [hspl]; exact hc.splice hcv off) (by simpa using hl)
            (fun j p p' a b => hp (j + 1) p p' (by simpa using a) (by simpa using b))
          refine ⟨r', ?_, e2⟩
          have hcond : ¬ ((v'.cells.size ≠ size) ∨ (off + v'.cells.size > cells'.size)) := by omega
          simp only [Instr.fill, hpl]
          rw [if_neg (by simpa using hcond)]
          exact e1

end Go.Ai
