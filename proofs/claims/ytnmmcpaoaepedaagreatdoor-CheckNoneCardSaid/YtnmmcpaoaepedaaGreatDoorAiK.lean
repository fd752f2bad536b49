/-
  Stores.
-/
import Derived.Test.YtnmmcpaoaepedaaGreatDoorAiJ
import Derived.Laws.IdiomCopy
noncomputable section
namespace Go.Ai

theorem splice_length (l : List Value) (o : Nat) (vs : List Value) (h : o + vs.length ≤ l.length) : (splice l o vs).length = l.length := by
  unfold splice; simp; omega

theorem splice_get (l : List Value) (o : Nat) (vs : List Value) (h : o + vs.length ≤ l.length) (i : Nat) : (splice l o vs)[i]? = if o ≤ i ∧ i < o + vs.length then vs[i - o]? else l[i]? := by
  unfold splice
  rw [List.append_assoc]
  simp only [List.getElem?_append, List.length_take, List.getElem?_take, List.getElem?_drop]
  have m : min o l.length = o := by omega
  rw [m]
  by_cases h1 : i < o
  · simp [h1, show ¬ (o ≤ i) by omega]
  · by_cases h2 : i - o < vs.length
    · simp [h1, h2, show o ≤ i by omega, show i < o + vs.length by omega]
    · simp only [h1, h2, if_false, show ¬ (o ≤ i ∧ i < o + vs.length) by omega]
      congr 1; omega

/-- What a row of stores leaves. -/
theorem setCells_heap (c : Nat) (e : TypeId) (fz : Nat × Nat) : ∀ (vs : List Value) (o : Nat) (w : World) (ca : Array Value), w.heap[c]? = some (.cells ca e fz) → o + vs.length ≤ ca.size →
    ∃ ca', (∀ c', (w.setCells c o vs).heap[c']? = if c = c' then some (.cells ca' e fz) else w.heap[c']?) ∧ ca'.size = ca.size ∧ (∀ i, ca'[i]? = if o ≤ i ∧ i < o + vs.length then vs[i - o]? else ca[i]?) ∧
      (w.setCells c o vs).heap.size = w.heap.size ∧ (w.setCells c o vs).tape = w.tape ∧ (w.setCells c o vs).os = w.os ∧ (w.setCells c o vs).output = w.output
  | [], o, w, ca, h, _ => ⟨ca, fun c' => by
      by_cases hc : c = c'
      · subst hc; simp [World.setCells, h]
      · simp [World.setCells, hc], rfl, fun i => by simp; intro h1 h2; omega, rfl, rfl, rfl, rfl⟩
  | v :: vs, o, w, ca, h, hl => by
    simp only [List.length_cons] at hl
    have hset : ∀ c', (w.setCell ⟨c, o, none⟩ v).heap[c']? = if c = c' then some (.cells (ca.setIfInBounds o v) e fz) else w.heap[c']? := by
      intro c'
      simp only [World.setCell, Array.getElem?_modify]
      by_cases hc : c = c'
      · subst hc; simp [h]
      · simp [hc]
    obtain ⟨ca', h1, h2, h3, h4, h5, h6, h7⟩ := setCells_heap c e fz vs (o + 1) (w.setCell ⟨c, o, none⟩ v) (ca.setIfInBounds o v) (by rw [hset, if_pos rfl]) (by simp; omega)
    refine ⟨ca', fun c' => ?_, by rw [h2]; simp, fun i => ?_, by rw [World.setCells, h4]; simp, by rw [World.setCells, h5]; rfl, by rw [World.setCells, h6]; rfl, by rw [World.setCells, h7]; rfl⟩
    · rw [World.setCells, h1, hset]
      by_cases hc : c = c'
      · simp [hc]
      · simp [hc]
    · rw [h3, Array.getElem?_setIfInBounds]
      simp only [List.length_cons]
      by_cases a1 : o + 1 ≤ i ∧ i < o + 1 + vs.length
      · rw [if_pos a1, if_pos (by omega)]
        have : i - o = (i - (o + 1)) + 1 := by omega
        rw [this]; simp
      · rw [if_neg a1]
        by_cases a2 : o = i
        · subst a2
          rw [if_pos rfl, if_pos (by omega), if_pos (by omega)]; simp
        · rw [if_neg a2, if_neg (by omega)]

def oneCell : Value → Bool
  | .agg _ | .tuple _ => false
  | _ => true

theorem oneCell_ok {μ : Mu} {v v' : Value} (h : oneCell v = true) (r : VR μ v v') : v'.oneCell' = true := by
  cases r <;> first | rfl | (simp [oneCell] at h)

theorem oneCells_ok {μ : Mu} {l l' : List Value} (h : l.all oneCell = true) (r : LR μ l l') : ∀ v ∈ l', v.oneCell' = true := by
  intro v hv
  obtain ⟨i, hi, rfl⟩ := List.mem_iff_getElem.1 hv
  have h2 := List.getElem?_eq_getElem hi
  have h1 := List.getElem?_eq_getElem (r.1 ▸ hi : i < l.length)
  exact oneCell_ok (List.all_eq_true.1 h _ (List.getElem_mem _)) (r.2 i _ _ h1 h2)

/-- A ROW OF CELLS STORED into what is told: the model does it, and the telling goes on. -/
theorem store_ok {C : Ctx} {μ : Mu} {H : Hp} {w : World} (h : HR C μ H w) {b c sh k o : Nat} {cs : List Value} {el : TypeId} {g : Bool} {vs vs' : List Value} (hb : H.get b = some (.cells cs el g)) (hm : μ b = some (c, sh, k))
    (hr : LR μ vs vs') (hone : vs.all oneCell = true) (hle : o + vs.length ≤ cs.length) :
    ∃ w', (storeCells ⟨c, sh + o, none⟩ vs').run C.P w = .ok () w' ∧ HR C μ (H.put b (some (.cells (splice cs o vs) el g))) w' ∧ Fwd μ H w μ (H.put b (some (.cells (splice cs o vs) el g))) w' := by
  obtain ⟨c', sh', k', o', h1, h2, h3⟩ := h.obj b _ hb
  rw [hm] at h1; cases h1
  cases o' with
  | cells ca e' fz =>
    obtain ⟨rfl, hlen, hrow, hex, hgr, hth⟩ := (h3 : CellsR C μ sh k cs el g ca e' fz)
    have hin : sh + o + vs'.length ≤ ca.size := by rw [← hr.1]; omega
    have hcell : ∀ j, j < vs'.length → (w.cell? ⟨c, sh + o + 0 + j, none⟩).isSome = true := by
      intro j hj
      have : sh + o + j < ca.size := by omega
      simp [World.cell?, h2, Array.getElem?_eq_getElem this]
    have hfz : ∀ j, j < vs'.length → w.frozen? ⟨c, sh + o + 0 + j, none⟩ = false := by
      intro j hj
      have h9 := hth (sh + o + j) (by omega)
      obtain ⟨lo, hi⟩ := fz
      simp only [World.frozen?, h2, Nat.add_zero]
      simp only [not_and, Nat.not_lt] at h9
      by_cases hlo : lo ≤ sh + o + j
      · simp [hlo, h9 hlo]
      · simp [hlo]
    have hrun := run_storeCells_cells (P := C.P) c (sh + o) vs' 0 w hcell hfz (oneCells_ok hone hr)
    rw [Nat.add_zero] at hrun
    obtain ⟨ca', s1, s2, s3, s4, s5, s6, s7⟩ := setCells_heap c e' fz vs' (sh + o) w ca h2 hin
    have hget : ∀ b', (H.put b (some (.cells (splice cs o vs) e' g))).get b' = if b = b' then some (.cells (splice cs o vs) e' g) else H.get b' := by
      intro b'
      rw [Hp.get_put]
      by_cases hbb : b = b'
      · rw [if_pos hbb, if_pos ⟨hbb, Hp.get_lt hb⟩]
      · rw [if_neg hbb, if_neg (fun hh => hbb hh.1)]
    have hOR : OR C μ sh k (.cells (splice cs o vs) e' g) (.cells ca' e' fz) := by
      refine ⟨rfl, by rw [splice_length _ _ _ hle, s2]; exact hlen, fun i v hv => ?_, fun hg => by rw [splice_length _ _ _ hle, s2]; exact hex hg, fun hg => by rw [splice_length _ _ _ hle, s2]; exact hgr hg, fun i hi => hth i (by rw [← s2]; exact hi)⟩
      rw [splice_get _ _ _ hle] at hv
      rw [s3]
      split at hv
      · rename_i hi
        rw [if_pos (by rw [← hr.1]; omega)]
        obtain ⟨v', a1, a2⟩ := hr.at hv
        exact ⟨v', by rw [← a1]; congr 1; omega, a2⟩
      · rename_i hi
        rw [if_neg (by rw [← hr.1]; omega)]
        exact hrow i v hv
    exact ⟨w.setCells c (sh + o) vs', hrun, h.put_old hb hm (by simp) hget s1 hOR, Fwd.put_old hb hm (by simp) hget s1 s4 s5 s6 s7⟩
  | _ => exact h3.elim

/-- What an operation comes to that turns memory. -/
def Turns (C : Ctx) (μ : Mu) (H : Hp) (w : World) (s : Sem Next) (res : Value) (H' : Hp) : Prop :=
  ∃ μ' nx w', s.run C.P w = .ok nx w' ∧ ((nx = .skip ∧ res = undef) ∨ ∃ v', nx = .value v' ∧ VR μ' res v') ∧ HR C μ' H' w' ∧ Fwd μ H w μ' H' w'

def storeW (C : Ctx) (H : Hp) (t : TypeId) (x v : Value) : Option Hp :=
  match x with
  | .pointer (some ⟨b, o, none⟩) => match H.get b, C.ty t with
    | some (.cells cs el g), some i => bif Nat.beq (cellsL v).length i.size && (cellsL v).all oneCell && Nat.ble (o + (cellsL v).length) cs.length then
        some (H.put b (some (.cells (splice cs o (cellsL v)) el g))) else none
    | _, _ => none
  | _ => none

theorem storeW_ok {C : Ctx} (hC : C.Ok) {μ : Mu} {H H' : Hp} {w : World} (h : HR C μ H w) {t : TypeId} {x x' v v' : Value} (e : storeW C H t x v = some H') (r : VR μ x x') (rv : VR μ v v') :
    ∃ w', (Instr.storeAt t x' v').run C.P w = .ok () w' ∧ HR C μ H' w' ∧ Fwd μ H w μ H' w' := by
  unfold storeW at e
  split at e
  · rename_i b o
    split at e
    · rename_i cs el g i hb hi
      cases hc : Nat.beq (cellsL v).length i.size && (cellsL v).all oneCell && Nat.ble (o + (cellsL v).length) cs.length with
      | false => rw [hc] at e; cases e
      | true =>
        rw [hc] at e; cases e
        simp only [Bool.and_eq_true] at hc
        obtain ⟨⟨h1, h2⟩, h3⟩ := hc
        have h1 := Nat.eq_of_beq_eq_true h1
        have h3 := Nat.le_of_ble_eq_true h3
        cases r with
        | @ptr _ _ c sh k hm =>
          obtain ⟨w', a1, a2, a3⟩ := store_ok h hb hm rv.cells h2 h3
          refine ⟨w', ?_, a2, a3⟩
          have hsz := run_sizeOf w (hC.ty _ _ hi)
          have hlen : v'.cells.size = i.size := by rw [← Array.length_toList, cellsL_eq, ← rv.cells.1]; exact h1
          simp only [Instr.storeAt, Instr.sureAddr, storeVar, Sem.run_bind, Sem.run_pure, Result.andThen_ok, hsz]
          rw [if_neg (by simpa using hlen), cellsL_eq]
          exact a1
    · cases e
  · cases e

/-! ### Maps -/

theorem map_obj {C : Ctx} {μ : Mu} {H : Hp} {w : World} (h : HR C μ H w) {r c sh k : Nat} {es : List MapEntry} {n : Nat} (hb : H.get r = some (.map es n)) (hm : μ r = some (c, sh, k)) :
    ∃ es' : Array MapEntry, w.heap[c]? = some (.map es' n) ∧ ER μ es es'.toList := by
  obtain ⟨c', sh', k', o', h1, h2, h3⟩ := h.obj r _ hb
  rw [hm] at h1; cases h1
  cases o' with
  | map es' n' => obtain ⟨a, rfl⟩ := h3; exact ⟨es', h2, a⟩
  | _ => exact h3.elim

/-- An object that is no row of cells turned. -/
theorem setObj_ok {C : Ctx} {μ : Mu} {H : Hp} {w : World} (h : HR C μ H w) {r c sh k : Nat} {o o₁ : AObj} {p p₁ : Obj} (hb : H.get r = some o) (hm : μ r = some (c, sh, k)) (hp : w.heap[c]? = some p) (hnc : ∀ a b d, p ≠ .cells a b d) (ho : OR C μ sh k o₁ p₁) :
    (setObj c p₁).run C.P w = .ok () { w with heap := w.heap.setIfInBounds c p₁ } ∧ HR C μ (H.put r (some o₁)) { w with heap := w.heap.setIfInBounds c p₁ } ∧ Fwd μ H w μ (H.put r (some o₁)) { w with heap := w.heap.setIfInBounds c p₁ } := by
  have hget : ∀ b', (H.put r (some o₁)).get b' = if r = b' then some o₁ else H.get b' := by
    intro b'
    rw [Hp.get_put]
    by_cases hbb : r = b'
    · rw [if_pos hbb, if_pos ⟨hbb, Hp.get_lt hb⟩]
    · rw [if_neg hbb, if_neg (fun hh => hbb hh.1)]
  have hlt : c < w.heap.size := (Array.getElem?_eq_some_iff.1 hp).1
  have hw : ∀ c', (w.heap.setIfInBounds c p₁)[c']? = if c = c' then some p₁ else w.heap[c']? := by
    intro c'
    rw [Array.getElem?_setIfInBounds]
    by_cases hcc : c = c'
    · subst hcc; simp [hlt]
    · simp [hcc]
  refine ⟨?_, h.put_old (w' := { w with heap := w.heap.setIfInBounds c p₁ }) hb hm (by simp) hget hw ho, Fwd.put_old (w' := { w with heap := w.heap.setIfInBounds c p₁ }) hb hm (by simp) hget hw (by simp) rfl rfl rfl⟩
  simp only [setObj, Sem.run, hp]
  try (cases p <;> first | rfl | exact absurd rfl (hnc _ _ _))

theorem getObj_map {P : Program} {w : World} {c : Nat} {es : Array MapEntry} {n : Nat} (h : w.heap[c]? = some (.map es n)) : (getObj c).run P w = .ok (.map es n) w := by
  simp only [getObj, Sem.run, h]

def setE (es : List MapEntry) (j : Nat) (f : MapEntry → MapEntry) : List MapEntry :=
  match es, j with
  | [], _ => []
  | e :: es, 0 => f e :: es
  | e :: es, j + 1 => e :: setE es j f

theorem setE_get : ∀ (es : List MapEntry) (j : Nat) (f : MapEntry → MapEntry) (i : Nat), (setE es j f)[i]? = if j = i then (es[i]?).map f else es[i]?
  | [], j, f, i => by simp [setE]
  | e :: es, 0, f, i => by cases i <;> simp [setE]
  | e :: es, j + 1, f, i => by
    cases i with
    | zero => simp [setE]
    | succ i => simp [setE, setE_get es j f i]

theorem setE_length : ∀ (es : List MapEntry) (j : Nat) (f : MapEntry → MapEntry), (setE es j f).length = es.length
  | [], _, _ => rfl
  | _ :: _, 0, _ => rfl
  | e :: es, j + 1, f => by simp [setE, setE_length es j f]

theorem ER.modify {μ : Mu} {es : List MapEntry} {es' : Array MapEntry} {j : Nat} {f f' : MapEntry → MapEntry} (h : ER μ es es'.toList)
    (hf : ∀ e e', es[j]? = some e → es'.toList[j]? = some e' → (f' e').key = (f e).key ∧ flat (f e).key = true ∧ (f' e').born = (f e).born ∧ VR μ (f e).val (f' e').val) : ER μ (setE es j f) (es'.modify j f').toList := by
  refine ⟨by have := h.1; simp only [Array.length_toList] at this; simp [setE_length, this], fun i e e' h1 h2 => ?_⟩
  rw [setE_get] at h1
  rw [Array.getElem?_toList, Array.getElem?_modify] at h2
  by_cases hji : j = i
  · subst hji
    rw [if_pos rfl] at h1 h2
    cases ha : es[j]? with
    | none => rw [ha] at h1; cases h1
    | some a =>
      rw [ha] at h1; cases h1
      cases hb : es'[j]? with
      | none => rw [hb] at h2; cases h2
      | some b =>
        rw [hb] at h2; cases h2
        exact hf a b ha (by simpa using hb)
  · rw [if_neg hji] at h1 h2
    exact h.2 i e e' h1 (by simpa using h2)

theorem ER.push {μ : Mu} {es : List MapEntry} {es' : Array MapEntry} {e e' : MapEntry} (h : ER μ es es'.toList) (hk : e'.key = e.key) (hf : flat e.key = true) (hb : e'.born = e.born) (hv : VR μ e.val e'.val) : ER μ (es ++ [e]) (es'.push e').toList := by
  have hl := h.1
  refine ⟨by simp at hl ⊢; exact hl, fun i a b h1 h2 => ?_⟩
  rw [Array.toList_push] at h2
  by_cases hi : i < es.length
  · rw [List.getElem?_append_left hi] at h1
    rw [List.getElem?_append_left (by omega)] at h2
    exact h.2 i a b h1 h2
  · rw [List.getElem?_append_right (by omega)] at h1
    rw [List.getElem?_append_right (by omega), ← hl] at h2
    have : i - es.length = 0 := by have := (List.getElem?_eq_some_iff.1 h1).1; simp at this; omega
    rw [this] at h1 h2
    simp at h1 h2
    subst h1; subst h2
    exact ⟨hk, hf, hb, hv⟩

/-- The key that stays. -/
def sameKey (es : List MapEntry) (j : Nat) (k : Value) : Bool :=
  match es[j]? with
  | some e => Instr.sameBits 10000 e.key k
  | none => false

def updateW (C : Ctx) (H : Hp) (t : TypeId) (m k v : Value) : Option Hp :=
  match C.und t, m with
  | some (.map kt _), .map (some r) => match H.get r with
    | some (.map es n) => bif flat k && keyOk C false kt k then
        (match findI C kt k es with
        | some (some j) => bif sameKey es j k then some (H.put r (some (.map (setE es j fun e => { e with key := k, val := v }) n))) else none
        | some none => some (H.put r (some (.map (es ++ [{ key := k, val := v, born := n }]) (n + 1))))
        | none => none) else none
    | _ => none
  | _, _ => none

theorem run_keyStays {P : Program} {μ : Mu} {w : World} {es : List MapEntry} {es' : Array MapEntry} {j : Nat} {k : Value} (h : ER μ es es'.toList) (hs : sameKey es j k = true) : (Instr.keyThatStays (((es'[j]?).map (·.key)).getD k) k).run P w = .ok k w := by
  unfold sameKey at hs
  split at hs
  · rename_i e he
    have hj : j < es.length := (List.getElem?_eq_some_iff.1 he).1
    have hj' : j < es'.toList.length := h.1 ▸ hj
    have he' := List.getElem?_eq_getElem hj'
    have hk := (h.2 j _ _ he he').1
    have he2 : es'[j]? = some es'.toList[j] := by rw [← Array.getElem?_toList]; exact he'
    rw [he2]
    simp only [Option.map_some, Option.getD_some, hk, Instr.keyThatStays, hs, if_true]
    rfl
  · cases hs

theorem updateW_ok {C : Ctx} (hC : C.Ok) {μ : Mu} {H H' : Hp} {w : World} (h : HR C μ H w) {t : TypeId} {m m' k k' v v' : Value} (e : updateW C H t m k v = some H') (r : VR μ m m') (rk : VR μ k k') (rv : VR μ v v') :
    ∃ w', (Instr.mapUpdate t m' k' v').run C.P w = .ok () w' ∧ HR C μ H' w' ∧ Fwd μ H w μ H' w' := by
  unfold updateW at e
  split at e
  · rename_i kt et b hu
    have hu := run_underlying w (Ctx.und_ok hC hu)
    split at e
    · rename_i es n hb
      cases hc : flat k && keyOk C false kt k with
      | false => rw [hc] at e; cases e
      | true =>
        rw [hc] at e
        simp only [cond_true] at e
        simp only [Bool.and_eq_true] at hc
        have hk := flat_eq hc.1 rk
        subst hk
        have hck := keyOk_ok hC hc.2 w
        cases r with
        | @map _ c sh kk hm =>
          obtain ⟨es', h1, h2⟩ := map_obj h hb hm
          have hg := getObj_map (P := C.P) h1
          split at e
          · rename_i j hf
            cases hs : sameKey es j k' with
            | false => rw [hs] at e; cases e
            | true =>
              rw [hs] at e; cases e
              obtain ⟨f1, f2⟩ := findI_ok hC w h2 hf
              obtain ⟨s1, s2, s3⟩ := setObj_ok (o₁ := .map (setE es j fun e => { e with key := k', val := v }) n) (p₁ := .map (es'.modify j fun e => { e with key := k', val := v' }) n) h hb hm h1 (by simp)
                ⟨h2.modify (fun a a' ha ha' => ⟨rfl, hc.1, (h2.2 j _ _ ha ha').2.2.1, rv⟩), rfl⟩
              refine ⟨_, ?_, s2, s3⟩
              simp only [Instr.mapUpdate, Sem.run_bind, hu, Result.andThen_ok, hg, hck, f1, Option.map_some]
              rw [run_keyStays h2 hs]
              exact s1
          · rename_i hf
            cases e
            obtain ⟨f1, f2⟩ := findI_ok hC w h2 hf
            obtain ⟨s1, s2, s3⟩ := setObj_ok (o₁ := .map (es ++ [{ key := k', val := v, born := n }]) (n + 1)) (p₁ := .map (es'.push { key := k', val := v', born := n }) (n + 1)) h hb hm h1 (by simp)
              ⟨h2.push rfl hc.1 rfl rv, rfl⟩
            refine ⟨_, ?_, s2, s3⟩
            simp only [Instr.mapUpdate, Sem.run_bind, hu, Result.andThen_ok, hg, hck, f1, Option.map_none]
            exact s1
          · cases e
    · cases e
  · cases e

def entryW (C : Ctx) (H : Hp) (t : TypeId) (m k : Value) : Option (Value × Hp) :=
  match C.und t, m with
  | some (.map kt et), .map (some r) => match H.get r with
    | some (.map es n) => bif flat k && keyOk C false kt k then
        (match findI C kt k es with
        | some (some j) => bif sameKey es j k then (match es[j]? with
          | some e => some (.tuple #[e.val, .int .i64 e.born], H.put r (some (.map (setE es j fun e => { e with key := k }) n)))
          | none => none) else none
        | some none => match C.ty et with
          | some i => match i.zero with
            | some z => bif flat z then some (.tuple #[z, .int .i64 n], H.put r (some (.map (es ++ [{ key := k, val := z, born := n }]) (n + 1)))) else none
            | none => none
          | none => none
        | none => none) else none
    | _ => none
  | _, _ => none

theorem VR.pairI {μ : Mu} {a a' : Value} (h : VR μ a a') (n : Int) : VR μ (.tuple #[a, .int .i64 n]) (.tuple #[a', .int .i64 n]) := by
  have := ((LR.cons h (LR.cons (.int .i64 n) (LR.nil μ)))).toArray
  exact .tuple this.1 this.2

theorem entryW_ok {C : Ctx} (hC : C.Ok) {μ : Mu} {H H' : Hp} {w : World} (h : HR C μ H w) {t : TypeId} {m m' k k' res : Value} (e : entryW C H t m k = some (res, H')) (r : VR μ m m') (rk : VR μ k k') :
    ∃ v' w', (Instr.mapEntry t m' k').run C.P w = .ok v' w' ∧ VR μ res v' ∧ HR C μ H' w' ∧ Fwd μ H w μ H' w' := by
  unfold entryW at e
  split at e
  · rename_i kt et b hu
    have hu := run_underlying w (Ctx.und_ok hC hu)
    split at e
    · rename_i es n hb
      cases hc : flat k && keyOk C false kt k with
      | false => rw [hc] at e; cases e
      | true =>
        rw [hc] at e
        simp only [cond_true] at e
        simp only [Bool.and_eq_true] at hc
        have hk := flat_eq hc.1 rk
        subst hk
        have hck := keyOk_ok hC hc.2 w
        cases r with
        | @map _ c sh kk hm =>
          obtain ⟨es', h1, h2⟩ := map_obj h hb hm
          have hg := getObj_map (P := C.P) h1
          split at e
          · rename_i j hf
            cases hs : sameKey es j k' with
            | false => rw [hs] at e; cases e
            | true =>
              rw [hs] at e
              simp only [cond_true] at e
              split at e
              · rename_i en hen
                cases e
                obtain ⟨f1, f2⟩ := findI_ok hC w h2 hf
                have hj' : j < es'.toList.length := h2.1 ▸ f2 j rfl
                have he' := List.getElem?_eq_getElem hj'
                have hd := h2.2 j _ _ hen he'
                have he2 : es'[j]? = some es'.toList[j] := by rw [← Array.getElem?_toList]; exact he'
                obtain ⟨s1, s2, s3⟩ := setObj_ok (o₁ := .map (setE es j fun e => { e with key := k' }) n) (p₁ := .map (es'.modify j fun e => { e with key := k' }) n) h hb hm h1 (by simp)
                  ⟨h2.modify (fun a a' ha ha' => ⟨rfl, hc.1, (h2.2 j _ _ ha ha').2.2.1, (h2.2 j _ _ ha ha').2.2.2⟩), rfl⟩
                refine ⟨.tuple #[es'.toList[j].val, goInt es'.toList[j].born], _, ?_, ?_, s2, s3⟩
                · simp only [Instr.mapEntry, Sem.run_bind, hu, Result.andThen_ok, hg, hck, f1, Option.map_some]
                  rw [run_keyStays h2 hs]
                  simp only [Result.andThen_ok, s1, he', Option.map_some, Option.getD_some, he2]
                  rfl
                · rw [hd.2.2.1]; exact VR.pairI hd.2.2.2 _
              · cases e
          · rename_i hf
            split at e
            · rename_i i hi
              split at e
              · rename_i z hz
                cases hfz : flat z with
                | false => rw [hfz] at e; cases e
                | true =>
                  rw [hfz] at e; cases e
                  have hzr := run_zeroValue w (hC.ty _ _ hi) hz
                  obtain ⟨f1, f2⟩ := findI_ok hC w h2 hf
                  obtain ⟨s1, s2, s3⟩ := setObj_ok (o₁ := .map (es ++ [{ key := k', val := z, born := n }]) (n + 1)) (p₁ := .map (es'.push { key := k', val := z, born := n }) (n + 1)) h hb hm h1 (by simp)
                    ⟨h2.push rfl hc.1 rfl (flat_refl hfz), rfl⟩
                  refine ⟨.tuple #[z, goInt n], _, ?_, VR.pairI (flat_refl hfz) _, s2, s3⟩
                  simp only [Instr.mapEntry, Sem.run_bind, hu, Result.andThen_ok, hg, hck, f1, Option.map_none, hzr, s1]
                  rfl
              · cases e
            · cases e
          · cases e
    · cases e
  · cases e

def bornI (n : Int) : List MapEntry → Nat → Option Nat
  | [], _ => none
  | e :: es, i => bif (e.born : Int) == n then some i else bornI n es (i + 1)

theorem bornI_ok {μ : Mu} {n : Int} : ∀ {es es' : List MapEntry} {i : Nat}, ER μ es es' → (es'.findIdx? fun e => (e.born : Int) == n) = (bornI n es i).map (· - i) ∧ ∀ j, bornI n es i = some j → i ≤ j
  | [], es', i, h => by
    cases es' with
    | nil => simp [bornI]
    | cons _ _ => simp [ER] at h
  | e :: es, es', i, h => by
    cases es' with
    | nil => simp [ER] at h
    | cons e' es' =>
      have hk := (h.2 0 e e' rfl rfl).2.2.1
      have ht : ER μ es es' := ⟨by simpa using h.1, fun j a b p q => h.2 (j + 1) a b (by simpa using p) (by simpa using q)⟩
      obtain ⟨i1, i2⟩ := bornI_ok (n := n) (i := i + 1) ht
      rw [List.findIdx?_cons, hk]
      unfold bornI
      cases hb : (e.born : Int) == n with
      | true => simp
      | false =>
        simp only [cond_false, Bool.false_eq_true, if_false]
        refine ⟨?_, fun j hj => by have := i2 j hj; omega⟩
        rw [i1]
        cases hq : bornI n es (i + 1) with
        | none => rfl
        | some j => have := i2 j hq; simp; omega

def entryStoreW (H : Hp) (m s v : Value) : Option Hp :=
  match m, s with
  | .map (some r), .int _ n => match H.get r with
    | some (.map es c) => match bornI n es 0 with
      | some j => some (H.put r (some (.map (setE es j fun e => { e with val := v }) c)))
      | none => none
    | _ => none
  | _, _ => none

theorem entryStoreW_ok {C : Ctx} {μ : Mu} {H H' : Hp} {w : World} (h : HR C μ H w) {t : TypeId} {m m' s s' v v' : Value} (e : entryStoreW H m s v = some H') (r : VR μ m m') (rs : VR μ s s') (rv : VR μ v v') :
    ∃ w', (Instr.entryStore t m' s' v').run C.P w = .ok () w' ∧ HR C μ H' w' ∧ Fwd μ H w μ H' w' := by
  unfold entryStoreW at e
  split at e
  · rename_i b k n
    cases rs
    split at e
    · rename_i es cl hb
      split at e
      · rename_i j hj
        cases e
        cases r with
        | @map _ c sh kk hm =>
          obtain ⟨es', h1, h2⟩ := map_obj h hb hm
          have hg := getObj_map (P := C.P) h1
          have hi := (bornI_ok (n := n) (i := 0) h2).1
          rw [hj] at hi
          have hi' : (es'.findIdx? fun e => (e.born : Int) == n) = some j := by
            rw [← List.findIdx?_toArray, Array.toArray_toList] at hi
            simpa using hi
          obtain ⟨s1, s2, s3⟩ := setObj_ok (o₁ := .map (setE es j fun e => { e with val := v }) cl) (p₁ := .map (es'.modify j fun e => { e with val := v' }) cl) h hb hm h1 (by simp)
            ⟨h2.modify (fun a a' ha ha' => ⟨(h2.2 j _ _ ha ha').1, (h2.2 j _ _ ha ha').2.1, (h2.2 j _ _ ha ha').2.2.1, rv⟩), rfl⟩
          refine ⟨_, ?_, s2, s3⟩
          simp only [Instr.entryStore, Sem.run_bind, Result.andThen_ok, hg, asInt, asIntOf, Sem.run_pure, hi', s1]
      · cases e
    · cases e
  · cases e

/-- The next rune of a text that is gone through. -/
def nextW (H : Hp) (it : Value) (isS : Bool) : Option (Value × Hp) :=
  match it, isS with
  | .pointer (some ⟨r, 0, none⟩), true => match H.get r with
    | some (.iter s pos) => bif Nat.blt pos (bytesOf s).length then
        some (.tuple #[.bool true, .int .i64 pos, .int .i32 (Utf8.decode s pos).1], H.put r (some (.iter s (pos + (Utf8.decode s pos).2))))
      else some (.tuple #[.bool false], H)
    | _ => none
  | _, _ => none

theorem nextW_ok {C : Ctx} {μ : Mu} {H H' : Hp} {w : World} (h : HR C μ H w) {t : TypeId} {it it' res : Value} {isS : Bool} (e : nextW H it isS = some (res, H')) (r : VR μ it it') :
    ∃ v' w', (Instr.next it' isS t).run C.P w = .ok v' w' ∧ VR μ res v' ∧ HR C μ H' w' ∧ Fwd μ H w μ H' w' := by
  unfold nextW at e
  split at e
  · rename_i b
    split at e
    · rename_i s pos hb
      cases r with
      | @ptr _ _ c sh k hm =>
        obtain ⟨c', sh', k', o', h1, h2, h3⟩ := h.obj b _ hb
        rw [hm] at h1; cases h1
        cases o' with
        | stringIter s' p' =>
          obtain ⟨rfl, rfl, rfl⟩ := h3
          have hg : (getObj c).run C.P w = .ok (.stringIter s' p') w := by simp only [getObj, Sem.run, h2]
          cases hlt : Nat.blt p' (bytesOf s').length with
          | true =>
            rw [hlt] at e; cases e
            have hlt := (blt_iff _ _).1 hlt
            rw [← size_bytes] at hlt
            obtain ⟨s1, s2, s3⟩ := setObj_ok (o₁ := .iter s' (p' + (Utf8.decode s' p').2)) (p₁ := .stringIter s' (p' + (Utf8.decode s' p').2)) h hb hm h2 (by simp) ⟨rfl, rfl, rfl⟩
            refine ⟨.tuple #[.bool true, .int .i64 p', .int .i32 (Utf8.decode s' p').1], _, ?_, flat_refl rfl, s2, s3⟩
            simp only [Instr.next, Sem.run_bind, hg, Result.andThen_ok, if_pos hlt]
            rw [s1]; rfl
          | false =>
            rw [hlt] at e; cases e
            have hlt := (blt_false _ _).1 hlt
            rw [← size_bytes] at hlt
            refine ⟨.tuple #[.bool false], w, ?_, flat_refl rfl, h, Fwd.refl _ _ _⟩
            simp only [Instr.next, Sem.run_bind, hg, Result.andThen_ok, if_neg hlt]; rfl
        | _ => exact h3.elim
    · cases e
  · cases e

end Go.Ai
