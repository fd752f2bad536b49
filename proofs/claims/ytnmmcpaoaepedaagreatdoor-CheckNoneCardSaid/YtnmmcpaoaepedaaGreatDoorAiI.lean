/-
  The operations that read memory.
-/
import Derived.Test.YtnmmcpaoaepedaaGreatDoorAiH
noncomputable section
namespace Go.Ai

theorem cell_of {C : Ctx} {μ : Mu} {nx : Nat} {get : Nat → Option AObj} {w : World} (h : HRg C μ nx get w) {b c sh k i : Nat} {cs : List Value} {e : TypeId} {g : Bool} {v : Value} (hb : get b = some (.cells cs e g)) (hm : μ b = some (c, sh, k)) (hv : cs[i]? = some v) :
    ∃ v', w.cell? ⟨c, sh + i, none⟩ = some v' ∧ VR μ v v' := by
  obtain ⟨c', sh', k', o', h1, h2, h3⟩ := h.obj b _ hb
  rw [hm] at h1; cases h1
  cases o' with
  | cells ca e' fz =>
    obtain ⟨v', h4, h5⟩ := CellsR.row h3 i v hv
    exact ⟨v', by simp [World.cell?, h2, h4], h5⟩
  | _ => exact h3.elim

theorem run_loadCellsFrom (P : Program) (w : World) (c o : Nat) : ∀ (vs : List Value) (i : Nat) (acc : Array Value), (∀ (j : Nat) (v : Value), vs[j]? = some v → w.cell? ⟨c, o + i + j, none⟩ = some v) →
    (loadCellsFrom ⟨c, o, none⟩ i vs.length acc).run P w = .ok (acc ++ vs.toArray) w
  | [], i, acc, _ => by simp [loadCellsFrom]
  | v :: vs, i, acc, h => by
    have h0 := h 0 v rfl
    simp only [Nat.add_zero] at h0
    simp only [List.length_cons, loadCellsFrom, add_eq, Sem.run_bind, run_load, h0, Result.andThen_ok]
    rw [run_loadCellsFrom P w c o vs (i + 1) _ (fun j u hu => by have := h (j + 1) u (by simpa using hu); rw [← this]; congr 2; omega)]
    simp

theorem run_loadCells (P : Program) (w : World) (c o : Nat) (vs : List Value) (h : ∀ (j : Nat) (v : Value), vs[j]? = some v → w.cell? ⟨c, o + j, none⟩ = some v) :
    (loadCells ⟨c, o, none⟩ vs.length).run P w = .ok vs.toArray w := by
  have := run_loadCellsFrom P w c o vs 0 #[] (by simpa using h)
  simpa [loadCells] using this

/-- The cells of a row in the model, out of those that are told. -/
theorem cells_of {C : Ctx} {μ : Mu} {nx : Nat} {get : Nat → Option AObj} {w : World} (h : HRg C μ nx get w) {b c sh k o n : Nat} {cs : List Value} {e : TypeId} {g : Bool} (hb : get b = some (.cells cs e g)) (hm : μ b = some (c, sh, k)) (hn : o + n ≤ cs.length) :
    ∃ vs : List Value, vs.length = n ∧ LR μ ((cs.drop o).take n) vs ∧ (loadCells ⟨c, sh + o, none⟩ n).run C.P w = .ok vs.toArray w := by
  have main : ∀ n, o + n ≤ cs.length → ∃ vs : List Value, vs.length = n ∧ (∀ (j : Nat) (v : Value), ((cs.drop o).take n)[j]? = some v → ∃ v', vs[j]? = some v' ∧ VR μ v v') ∧ ∀ (j : Nat) (v : Value), vs[j]? = some v → w.cell? ⟨c, sh + o + j, none⟩ = some v := by
    intro n
    induction n with
    | zero => intro _; exact ⟨[], rfl, by simp, by simp⟩
    | succ n ih =>
      intro hn
      obtain ⟨vs, h1, h2, h3⟩ := ih (by omega)
      have hv : cs[o + n]? = some cs[o + n] := List.getElem?_eq_getElem (by omega)
      obtain ⟨v', h4, h5⟩ := cell_of h hb hm hv
      refine ⟨vs ++ [v'], by simp [h1], fun j v hj => ?_, fun j v hj => ?_⟩
      · rw [List.getElem?_take] at hj
        split at hj
        · rename_i hlt
          rw [List.getElem?_drop] at hj
          by_cases hjn : j < n
          · obtain ⟨u, a, b⟩ := h2 j v (by rw [List.getElem?_take, if_pos hjn, List.getElem?_drop]; exact hj)
            exact ⟨u, by rw [List.getElem?_append_left (by omega)]; exact a, b⟩
          · have : j = n := by omega
            subst this
            rw [hv] at hj; cases hj
            exact ⟨v', by rw [List.getElem?_append_right (by omega), h1]; simp, h5⟩
        · cases hj
      · by_cases hjn : j < n
        · rw [List.getElem?_append_left (by omega)] at hj; exact h3 j v hj
        · rw [List.getElem?_append_right (by omega), h1] at hj
          have : j - n = 0 := by
            have := (List.getElem?_eq_some_iff.1 hj).1; simp at this; omega
          have hjn' : j = n := by omega
          subst hjn'
          simp at hj; subst hj
          rw [Nat.add_assoc]; exact h4
  obtain ⟨vs, h1, h2, h3⟩ := main n hn
  refine ⟨vs, h1, ⟨by simp [h1]; omega, fun i v v' a b => ?_⟩, by rw [← h1]; exact run_loadCells _ _ _ _ _ h3⟩
  obtain ⟨u, c1, c2⟩ := h2 i v a
  rw [b] at c1; cases c1; exact c2

def loadR (C : Ctx) (get : Nat → Option AObj) (t : TypeId) (x : Value) : Option Value :=
  match x with
  | .pointer (some ⟨b, o, none⟩) => match get b, C.ty t, C.und t with
    | some (.cells cs _ _), some i, some d => bif aggB d then (bif Nat.ble (o + i.size) cs.length then some (.agg ((cs.drop o).take i.size).toArray) else none) else cs[o]?
    | _, _, _ => none
  | _ => none

theorem loadR_ok {C : Ctx} (hC : C.Ok) {μ : Mu} {nx : Nat} {get : Nat → Option AObj} {w : World} (h : HRg C μ nx get w) {t : TypeId} {x x' v : Value} (e : loadR C get t x = some v) (r : VR μ x x') :
    ∃ v', (Instr.loadAt t x').run C.P w = .ok v' w ∧ VR μ v v' := by
  unfold loadR at e
  split at e
  · rename_i b o
    cases r with
    | @ptr _ _ c sh k hm =>
      split at e
      · rename_i cs el g i d hb hi hd
        have hsz := run_sizeOf w (hC.ty _ _ hi)
        have hag := run_isAgg hC w hd
        cases ha : aggB d with
        | true =>
          rw [ha] at e hag
          simp only [cond_true] at e
          cases hle : Nat.ble (o + i.size) cs.length with
          | false => rw [hle] at e; cases e
          | true =>
            rw [hle] at e; cases e
            obtain ⟨vs, h1, h2, h3⟩ := cells_of h hb hm (Nat.le_of_ble_eq_true hle)
            refine ⟨.agg vs.toArray, ?_, .agg h2.toArray.1 h2.toArray.2⟩
            simp only [Instr.loadAt, Instr.sureAddr, loadVar, Sem.run_bind, Sem.run_pure, Result.andThen_ok, hag, if_true, hsz, h3]
        | false =>
          rw [ha] at e hag
          simp only [cond_false] at e
          obtain ⟨v', h1, h2⟩ := cell_of h hb hm e
          refine ⟨v', ?_, h2⟩
          simp only [Instr.loadAt, Instr.sureAddr, loadVar, Sem.run_bind, Sem.run_pure, Result.andThen_ok, hag, Bool.false_eq_true, if_false, run_load, h1]
      · cases e
  · cases e

/-! ### Maps -/

def findNowI (kind : TypeDesc) (k : Value) : List MapEntry → Nat → Option (Option Nat)
  | [], _ => some none
  | e :: es, i =>
    match Instr.sameNow kind k e.key with
    | some true => some (some i)
    | some false => findNowI kind k es (i + 1)
    | none => none

def findAskI (P : Program) (kt : TypeId) (k : Value) : List MapEntry → Nat → Option (Option Nat)
  | [], _ => some none
  | e :: es, i =>
    match pureRun P (Op.equal kt k e.key) with
    | some true => some (some i)
    | some false => findAskI P kt k es (i + 1)
    | none => none

def findI (C : Ctx) (kt : TypeId) (k : Value) (es : List MapEntry) : Option (Option Nat) :=
  match C.und kt with
  | some d => match findNowI d k es 0 with
    | some r => some r
    | none => findAskI C.P kt k es 0
  | none => none

theorem findNowI_ok {μ : Mu} {kind : TypeDesc} {k : Value} : ∀ {es es' : List MapEntry} {i : Nat}, ER μ es es' →
    (Instr.findNow kind k es' i = (findNowI kind k es i).map (fun r => r.map fun j => (j, ((es'[j - i]?).map (·.val)).getD undef))) ∧ (∀ j, findNowI kind k es i = some (some j) → i ≤ j ∧ j - i < es.length)
  | [], es', i, h => by
    cases es' with
    | nil => simp [Instr.findNow, findNowI]
    | cons _ _ => simp [ER] at h
  | e :: es, es', i, h => by
    cases es' with
    | nil => simp [ER] at h
    | cons e' es' =>
      have hk := (h.2 0 e e' rfl rfl).1
      have ht : ER μ es es' := ⟨by simpa using h.1, fun j a b p q => h.2 (j + 1) a b (by simpa using p) (by simpa using q)⟩
      have ih := findNowI_ok (kind := kind) (k := k) (i := i + 1) ht
      unfold Instr.findNow findNowI
      rw [hk]
      cases hs : Instr.sameNow kind k e.key with
      | none => simp
      | some b =>
        cases b with
        | true => simp
        | false =>
          simp only
          refine ⟨?_, fun j hj => ?_⟩
          · rw [ih.1]
            cases hf : findNowI kind k es (i + 1) with
            | none => rfl
            | some r =>
              cases r with
              | none => rfl
              | some j =>
                have := (ih.2 j hf).1
                simp only [Option.map_some]
                have e1 : j - i = (j - (i + 1)) + 1 := by omega
                rw [e1]; simp
          · have := ih.2 j hj; simp; omega

theorem findAskI_ok {P : Program} {μ : Mu} {kt : TypeId} {k : Value} (w : World) : ∀ {es es' : List MapEntry} {i : Nat} {r : Option Nat}, ER μ es es' → findAskI P kt k es i = some r →
    (Instr.findAsking kt k es' i).run P w = .ok (r.map fun j => (j, ((es'[j - i]?).map (·.val)).getD undef)) w ∧ (∀ j, r = some j → i ≤ j ∧ j - i < es.length)
  | [], es', i, r, h, hr => by
    cases es' with
    | nil => cases hr; simp [Instr.findAsking]
    | cons _ _ => simp [ER] at h
  | e :: es, es', i, r, h, hr => by
    cases es' with
    | nil => simp [ER] at h
    | cons e' es' =>
      have hk := (h.2 0 e e' rfl rfl).1
      have ht : ER μ es es' := ⟨by simpa using h.1, fun j a b p q => h.2 (j + 1) a b (by simpa using p) (by simpa using q)⟩
      unfold findAskI at hr
      cases hp : pureRun P (Op.equal kt k e.key) with
      | none => rw [hp] at hr; cases hr
      | some b =>
        rw [hp] at hr
        have hp' := pureRun_ok hp w
        unfold Instr.findAsking
        rw [hk]
        cases b with
        | true =>
          cases hr
          refine ⟨?_, fun j hj => by cases hj; simp⟩
          simp only [Sem.run_bind, hp', Result.andThen_ok, if_true]; simp
        | false =>
          simp only at hr
          obtain ⟨a1, a2⟩ := findAskI_ok w (i := i + 1) ht hr
          refine ⟨?_, fun j hj => by have := a2 j hj; simp; omega⟩
          simp only [Sem.run_bind, hp', Result.andThen_ok, Bool.false_eq_true, if_false, a1]
          cases r with
          | none => rfl
          | some j =>
            have := (a2 j rfl).1
            simp only [Option.map_some]
            have e1 : j - i = (j - (i + 1)) + 1 := by omega
            rw [e1]; simp

theorem findI_ok {C : Ctx} (hC : C.Ok) {μ : Mu} {kt : TypeId} {k : Value} (w : World) {es es' : List MapEntry} {r : Option Nat} (h : ER μ es es') (e : findI C kt k es = some r) :
    (Instr.findKey kt k es').run C.P w = .ok (r.map fun j => (j, ((es'[j]?).map (·.val)).getD undef)) w ∧ (∀ j, r = some j → j < es.length) := by
  unfold findI at e
  cases hd : C.und kt with
  | none => rw [hd] at e; cases e
  | some d =>
    rw [hd] at e
    simp only at e
    have hu := run_underlying w (Ctx.und_ok hC hd)
    obtain ⟨n1, n2⟩ := findNowI_ok (kind := d) (k := k) (i := 0) h
    cases hn : findNowI d k es 0 with
    | some r' =>
      rw [hn] at e n1; cases e
      refine ⟨?_, fun j hj => by subst hj; simpa using (n2 j hn).2⟩
      simp only [Instr.findKey, Sem.run_bind, hu, Result.andThen_ok, n1, Option.map_some]
      simp
    | none =>
      rw [hn] at e n1
      simp only at e
      obtain ⟨a1, a2⟩ := findAskI_ok w (i := 0) h e
      refine ⟨?_, fun j hj => by simpa using (a2 j hj).2⟩
      simp only [Instr.findKey, Sem.run_bind, hu, Result.andThen_ok, n1, Option.map_none]
      simpa using a1

/-- May this key be asked for? -/
def keyOk (C : Ctx) (empty : Bool) (kt : TypeId) (k : Value) : Bool :=
  match C.und kt, k with
  | some (.int _), .int _ _ => true
  | some .string, .string _ => true
  | _, _ => match pureRun C.P (Instr.checkKey empty 10000 kt k) with
    | some _ => true
    | none => false

theorem keyOk_ok {C : Ctx} (hC : C.Ok) {empty : Bool} {kt : TypeId} {k : Value} (h : keyOk C empty kt k = true) (w : World) : (Instr.checkKey empty 10000 kt k).run C.P w = .ok () w := by
  have ten : (10000 : Nat) = 9999 + 1 := rfl
  unfold keyOk at h
  split at h
  · rename_i hu
    have hu := run_underlying w (Ctx.und_ok hC hu)
    rw [ten]; unfold Instr.checkKey
    simp only [Sem.run_bind, hu, Result.andThen_ok]; rfl
  · rename_i hu
    have hu := run_underlying w (Ctx.und_ok hC hu)
    rw [ten]; unfold Instr.checkKey
    simp only [Sem.run_bind, hu, Result.andThen_ok]; rfl
  · split at h
    · rename_i u hp; exact pureRun_ok hp w
    · cases h

def lookupR (C : Ctx) (get : Nat → Option AObj) (t : TypeId) (m k : Value) (ok : Bool) : Option Value :=
  match C.und t with
  | some (.map kt et) => bif flat k then
      (match (match m with
        | .map none => some []
        | .map (some r) => match get r with
          | some (.map es _) => some es
          | _ => none
        | _ => none : Option (List MapEntry)) with
      | some es => bif keyOk C es.isEmpty kt k then
          (match findI C kt k es with
          | some (some j) => match es[j]? with
            | some e => some (bif ok then .tuple #[e.val, .bool true] else e.val)
            | none => none
          | some none => match C.ty et with
            | some i => match i.zero with
              | some z => bif flat z then some (bif ok then .tuple #[z, .bool false] else z) else none
              | none => none
            | none => none
          | none => none) else none
      | none => none) else none
  | _ => none

theorem VR.tuple2 {μ : Mu} {a a' : Value} (h : VR μ a a') (b : Bool) : VR μ (.tuple #[a, .bool b]) (.tuple #[a', .bool b]) := by
  have := ((LR.cons h (LR.cons (.bool b) (LR.nil μ)))).toArray
  exact .tuple this.1 this.2

theorem lookupR_ok {C : Ctx} (hC : C.Ok) {μ : Mu} {nx : Nat} {get : Nat → Option AObj} {w : World} (h : HRg C μ nx get w) {t : TypeId} {m m' k k' v : Value} {ok : Bool} (e : lookupR C get t m k ok = some v) (r : VR μ m m') (rk : VR μ k k') :
    ∃ v', (Instr.lookup t m' k' ok).run C.P w = .ok v' w ∧ VR μ v v' := by
  unfold lookupR at e
  split at e
  · rename_i kt et hu
    have hu := run_underlying w (Ctx.und_ok hC hu)
    cases hf : flat k with
    | false => rw [hf] at e; cases e
    | true =>
      rw [hf] at e
      simp only [cond_true] at e
      have hk := flat_eq hf rk
      subst hk
      -- the entries
      have main : ∀ (es : List MapEntry) (es' : Array MapEntry), ER μ es es'.toList →
          (bif keyOk C es.isEmpty kt k' then
          (match findI C kt k' es with
          | some (some j) => match es[j]? with
            | some e => some (bif ok then .tuple #[e.val, .bool true] else e.val)
            | none => none
          | some none => match C.ty et with
            | some i => match i.zero with
              | some z => bif flat z then some (bif ok then .tuple #[z, .bool false] else z) else none
              | none => none
            | none => none
          | none => none) else none) = some v →
          ∃ v', (do Instr.checkKey es'.isEmpty 10000 kt k'
                    match ← Instr.findKey kt k' es'.toList with
                    | some (_, v) => do
                      let x ← pure (v, true)
                      pure (if ok then .tuple #[x.1, .bool x.2] else x.1)
                    | none => do
                      let x ← pure (← zeroValue et, false)
                      pure (if ok then .tuple #[x.1, .bool x.2] else x.1) : Sem Value).run C.P w = .ok v' w ∧ VR μ v v' := by
        intro es es' her hv
        cases hko : keyOk C es.isEmpty kt k' with
        | false => rw [hko] at hv; cases hv
        | true =>
          rw [hko] at hv
          simp only [cond_true] at hv
          have hemp : es'.isEmpty = es.isEmpty := by
            have := her.1; simp at this
            cases es with
            | nil => simp at this ⊢; exact Array.eq_empty_of_size_eq_zero this.symm
            | cons a l => simp at this; rw [List.isEmpty_cons, Array.isEmpty_eq_false_iff]; intro hh; rw [hh] at this; simp at this
          have hck := keyOk_ok hC hko w
          rw [← hemp] at hck
          cases hfi : findI C kt k' es with
          | none => rw [hfi] at hv; cases hv
          | some r' =>
            rw [hfi] at hv
            obtain ⟨f1, f2⟩ := findI_ok hC w her hfi
            simp only [Sem.run_bind, hck, Result.andThen_ok, f1]
            cases r' with
            | some j =>
              simp only at hv
              have hj := f2 j rfl
              have he := List.getElem?_eq_getElem hj
              rw [he] at hv
              simp only [Option.some.injEq] at hv
              have hj' : j < es'.toList.length := her.1 ▸ hj
              have he' := List.getElem?_eq_getElem hj'
              have hvr := (her.2 j _ _ he he').2.2.2
              refine ⟨if ok then .tuple #[es'.toList[j].val, .bool true] else es'.toList[j].val, by simp only [Option.map_some, he', Option.getD_some, Sem.run_bind, Sem.run_pure, Result.andThen_ok], ?_⟩
              subst hv
              cases ok with
              | true => exact VR.tuple2 hvr true
              | false => exact hvr
            | none =>
              simp only at hv
              cases hi : C.ty et with
              | none => rw [hi] at hv; cases hv
              | some i =>
                rw [hi] at hv
                simp only at hv
                cases hz : i.zero with
                | none => rw [hz] at hv; cases hv
                | some z =>
                  rw [hz] at hv
                  simp only at hv
                  cases hfz : flat z with
                  | false => rw [hfz] at hv; cases hv
                  | true =>
                    rw [hfz] at hv
                    simp only [cond_true, Option.some.injEq] at hv
                    have hzr := run_zeroValue w (hC.ty _ _ hi) hz
                    refine ⟨if ok then .tuple #[z, .bool false] else z, by simp only [Option.map_none, Sem.run_bind, hzr, Sem.run_pure, Result.andThen_ok], ?_⟩
                    subst hv
                    cases ok with
                    | true => exact VR.tuple2 (flat_refl hfz) false
                    | false => exact flat_refl hfz
      split at e
      · rename_i es hes
        split at hes
        · cases hes
          cases r
          obtain ⟨v', h1, h2⟩ := main [] #[] ⟨rfl, by simp⟩ e
          refine ⟨v', ?_, h2⟩
          rw [← h1]
          simp only [Instr.lookup, Sem.run_bind, hu, Result.andThen_ok, Sem.run_pure]
          rfl
        · rename_i b
          split at hes
          · rename_i es0 clock hb
            cases hes
            cases r with
            | @map _ c sh k hm =>
              obtain ⟨c', sh', k2, o', h1, h2, h3⟩ := h.obj b _ hb
              rw [hm] at h1; cases h1
              cases o' with
              | map es' n' =>
                obtain ⟨v', h4, h5⟩ := main es es' h3.1 e
                refine ⟨v', ?_, h5⟩
                rw [← h4]
                have hg : (getObj c).run C.P w = .ok (.map es' n') w := by simp only [getObj, Sem.run, h2]
                simp only [Instr.lookup, Sem.run_bind, hu, Result.andThen_ok, Sem.run_pure, hg]
                rfl
              | _ => exact h3.elim
          · cases hes
        · cases hes
      · cases e
  · cases e

end Go.Ai
