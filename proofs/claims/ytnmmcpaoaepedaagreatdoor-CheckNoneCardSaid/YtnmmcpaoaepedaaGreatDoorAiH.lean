/-
  The operations that make an object.
-/
import Derived.Test.YtnmmcpaoaepedaaGreatDoorAiG
noncomputable section
namespace Go.Ai

/-- What a making operation comes to, in the model: a block pushed, and the value that leads to it. -/
def Makes (C : Ctx) (μ : Mu) (s : Sem Next) (ob : AObj) (mk : Nat → Value) (w : World) : Prop :=
  ∃ v' w' o' k, s.run C.P w = .ok (.value v') w' ∧ w'.heap = w.heap.push o' ∧ w'.tape = w.tape ∧ w'.os = w.os ∧ w'.output = w.output ∧
    ∀ μ' b, Mu.le μ μ' → μ' b = some (w.heap.size, 0, k) → VR μ' (mk b) v' ∧ OR C μ' 0 k ob o'

theorem cellsR_new {C : Ctx} {μ : Mu} {k : Nat} {cs : List Value} {e : TypeId} {c : Array Value} (h : LR μ cs c.toList) : CellsR C μ 0 k cs e false c e (0, 0) := by
  refine ⟨rfl, by have := h.1; simp at this; omega, fun i v hv => ?_, fun _ => ⟨rfl, by have := h.1; simp at this; omega, rfl⟩, (fun hh => by cases hh), fun i _ => by omega⟩
  obtain ⟨v', h1, h2⟩ := h.at hv
  exact ⟨v', by simpa using h1, h2⟩

theorem makes_row {C : Ctx} {μ : Mu} {e : TypeId} {cs : List Value} {c : Array Value} {mk : Nat → Value} {f : Addr → Value} {w : World} (h : LR μ cs c.toList)
    (hv : ∀ μ' b, Mu.le μ μ' → μ' b = some (w.heap.size, 0, 0) → VR μ' (mk b) (f ⟨w.heap.size, 0, none⟩)) :
    Makes C μ (do pure (.value (f (← newRow e c)))) (.cells cs e false) mk w :=
  ⟨f ⟨w.heap.size, 0, none⟩, { w with heap := w.heap.push (.cells c e) }, .cells c e, 0, by simp [newRow], rfl, rfl, rfl, rfl, fun μ' b hl hb => ⟨hv μ' b hl hb, cellsR_new (h.mono hl)⟩⟩

def zerosL (z : List Value) (n : Nat) : List Value := (List.range n).map fun k => (z[k % z.length]?).getD default

theorem zerosL_ok (z : Array Value) (n : Nat) : ((Array.range n).map fun k => z[k % z.size]!).toList = zerosL z.toList n := by
  unfold zerosL
  simp only [Array.toList_map, Array.toList_range]
  apply List.map_congr_left
  intro k _
  simp only [Array.length_toList, Array.getElem?_toList]
  rw [getElem!_def]
  cases z[k % z.size]? <;> rfl

theorem zerosL_refl {μ : Mu} {z : Value} (h : flat z = true) (n : Nat) : LR μ (zerosL (cellsL z) n) (zerosL (cellsL z) n) := by
  refine ⟨rfl, fun i v v' h1 h2 => ?_⟩
  rw [h1] at h2; cases h2
  unfold zerosL at h1
  rw [List.getElem?_map] at h1
  cases hr : (List.range n)[i]? with
  | none => rw [hr] at h1; cases h1
  | some k =>
    rw [hr] at h1
    simp only [Option.map_some, Option.some.injEq] at h1
    subst h1
    cases hz : (cellsL z)[k % (cellsL z).length]? with
    | none => exact flat_refl rfl
    | some u => exact ((flat_refl h).cells).2 _ _ _ hz hz

def opA (C : Ctx) (e : Operand → Option Value) (o : Oper) : Option (AObj × (Nat → Value)) :=
  match o.op with
  | .alloc t => match C.ty t with
    | some i => match i.zero with
      | some z => bif flat z then some (.cells (cellsL z) t false, fun b => .pointer (some ⟨b, 0, none⟩)) else none
      | none => none
    | none => none
  | .box t x => match e x with
    | some v => some (.cells (cellsL v) t false, fun b => .pointer (some ⟨b, 0, none⟩))
    | none => none
  | .buildSlice t len ps => match C.und t, evalPs e ps.toList with
    | some (.slice el), some parts => match C.ty el with
      | some i => match i.zero with
        | some z => bif flat z && Nat.ble (len * i.size) (2 ^ 24) && Nat.blt len big then
            (match fillL (fun k => some (k * i.size, i.size)) (zerosL (cellsL z) (len * i.size)) parts with
            | some cs => some (.cells cs el false, fun b => .slice (some ⟨b, 0, none⟩) len len)
            | none => none) else none
        | none => none
      | none => none
    | _, _ => none
  | .makeMap t r => match r with
    | none => some (.map [] 0, fun b => .map (some b))
    | some x => match C.und t, e x with
      | some (.map _ _), some (.int _ _) => some (.map [] 0, fun b => .map (some b))
      | _, _ => none
  | .makeSlice t l c => match C.und t, e l, e c with
    | some (.slice el), some (.int _ l), some (.int _ c) => match C.ty el with
      | some i => match i.zero with
        | some z => if flat z = true ∧ 0 ≤ l ∧ l ≤ c ∧ c ≤ 9007199254740992 ∧ i.bytes * c ≤ 2 ^ 48 then
            some (.cells (zerosL (cellsL z) (c.toNat * i.size)) el false, fun b => .slice (some ⟨b, 0, none⟩) l.toNat c.toNat) else none
        | none => none
      | none => none
    | _, _, _ => none
  | .range t x => match C.und t, e x with
    | some .string, some (.string s) => some (.iter s 0, fun b => .pointer (some ⟨b, 0, none⟩))
    | _, _ => none
  | .convert s d x => match C.und s, C.und d, e x with
    | some _, some (.slice el), some (.string u) => match C.und el, C.ty el with
      | some (.int .u8), some i => bif Nat.beq i.size 1 && Nat.blt (bytesOf u).length big then
          some (.cells ((bytesOf u).map fun b => .int .u8 b.toNat) el true, fun b => .slice (some ⟨b, 0, none⟩) (bytesOf u).length (big + 0)) else none
      | some (.int .i32), some i => bif Nat.beq i.size 1 && Nat.blt (Conv.runesFrom u (bytesOf u).length 0 #[]).toList.length big then
          some (.cells (Conv.runesFrom u (bytesOf u).length 0 #[]).toList el true, fun b => .slice (some ⟨b, 0, none⟩) (Conv.runesFrom u (bytesOf u).length 0 #[]).toList.length (big + 0)) else none
      | _, _ => none
    | _, _, _ => none
  | _ => none

theorem cut_append (need old : Nat) (e : TypeId) (t : Nat) (h : need < big) : need ≤ (Question.appendCap need old e).cut t ∧ (Question.appendCap need old e).cut t < big := by
  unfold big at h
  have : t % (2 ^ 63 - need) < 2 ^ 63 - need := Nat.mod_lt _ (by omega)
  simp only [Question.cut]
  unfold big
  omega

theorem ints_refl {μ : Mu} (l : List Value) (h : ∀ v ∈ l, flat v = true) : LR μ l l :=
  ⟨rfl, fun i v v' h1 h2 => by rw [h1] at h2; cases h2; exact flat_refl (h v (List.mem_of_getElem? h1))⟩

theorem cellsR_grow {C : Ctx} {μ : Mu} {cs : List Value} {e : TypeId} {i : TypeInfo} {c extra : Array Value} {fz : Nat × Nat} {cap : Nat} (hi : C.P.info? e = some i) (hs : i.size = 1) (h : LR μ cs c.toList) (hc : cs.length ≤ cap)
    (hb : cap < big) (he : (c ++ extra).size = cap) (hf : fz = (0, 0) ∨ fz = (cap, cap + 1)) : CellsR C μ 0 cap cs e true (c ++ extra) e fz := by
  have hlen : cs.length = c.size := by have := h.1; simpa using this
  refine ⟨rfl, by rw [he]; omega, fun j v hv => ?_, (fun hh => by cases hh), fun _ => ⟨i, hi, by rw [hs, he]; omega, by rw [hs]; omega, hb⟩, fun j hj => by rcases hf with rfl | rfl <;> simp <;> omega⟩
  obtain ⟨v', h1, h2⟩ := h.at hv
  refine ⟨v', ?_, h2⟩
  have hj : j < c.size := by
    have := (List.getElem?_eq_some_iff.1 hv).1; omega
  rw [Nat.zero_add, Array.getElem?_append_left hj]
  simpa using h1

theorem push_modify {α : Type} (xs : Array α) (x : α) (f : α → α) : (xs.push x).modify xs.size f = xs.push (f x) := by
  apply Array.ext_getElem?
  intro i
  rw [Array.getElem?_modify, Array.getElem?_push, Array.getElem?_push]
  by_cases h : xs.size = i
  · subst h; simp
  · rw [if_neg h, if_neg (fun hh => h hh.symm), if_neg (fun hh => h hh.symm)]

theorem runesFrom_flat (s : ByteArray) : ∀ (n i : Nat) (acc : Array Value), (∀ v ∈ acc.toList, flat v = true) → ∀ v ∈ (Conv.runesFrom s n i acc).toList, flat v = true
  | 0, _, acc, h => by simpa [Conv.runesFrom] using h
  | n + 1, i, acc, h => by
    unfold Conv.runesFrom
    split
    · refine runesFrom_flat s n _ _ ?_
      intro v hv
      simp only [Array.toList_push, List.mem_append, List.mem_singleton] at hv
      rcases hv with hv | hv
      · exact h v hv
      · subst hv; rfl
    · exact h

theorem opA_ok {C : Ctx} (hC : C.Ok) {μ : Mu} {e : Operand → Option Value} {ρ : Operand → Value} {o : Oper} {ob : AObj} {mk : Nat → Value} (he : OpR μ e ρ) (h : opA C e o = some (ob, mk)) (w : World) :
    Makes C μ (execOp ρ o) ob mk w := by
  unfold opA at h
  split at h
  · rename_i t hop
    split at h
    · rename_i i hi
      split at h
      · rename_i z hz
        cases hf : flat z with
        | false => rw [hf] at h; cases h
        | true =>
          rw [hf] at h; cases h
          have hzr := run_zeroValue w (hC.ty _ _ hi) hz
          have m := makes_row (C := C) (μ := μ) (e := t) (cs := cellsL z) (c := z.cells) (mk := fun b => .pointer (some ⟨b, 0, none⟩)) (f := fun a => .pointer (some a)) (w := w) (by rw [cellsL_eq]; exact (flat_refl hf).cells)
            (fun μ' b _ hb => by exact VR.ptr hb)
          obtain ⟨v', w', o', k, h1, h2⟩ := m
          refine ⟨v', w', o', k, ?_, h2⟩
          simp only [execOp, hop]
          simpa [Instr.alloc, hzr, newVar] using h1
      · cases h
    · cases h
  · rename_i t x hop
    split at h
    · rename_i v hx
      cases h
      have m := makes_row (C := C) (μ := μ) (e := t) (cs := cellsL v) (c := (ρ x).cells) (mk := fun b => .pointer (some ⟨b, 0, none⟩)) (f := fun a => .pointer (some a)) (w := w) (by rw [cellsL_eq]; exact (he _ _ hx).cells)
        (fun μ' b _ hb => by exact VR.ptr hb)
      obtain ⟨v', w', o', k, h1, h2⟩ := m
      refine ⟨v', w', o', k, ?_, h2⟩
      simp only [execOp, hop]
      simpa [Instr.box, newVar] using h1
    · cases h
  · rename_i t len ps hop
    split at h
    · rename_i el parts hu hps
      have hu := run_underlying w (Ctx.und_ok hC hu)
      split at h
      · rename_i i hi
        split at h
        · rename_i z hz
          cases hf : flat z && Nat.ble (len * i.size) (2 ^ 24) && Nat.blt len big with
          | false => rw [hf] at h; cases h
          | true =>
            rw [hf] at h
            simp only [cond_true] at h
            simp only [Bool.and_eq_true, Bool.not_eq_true'] at hf
            obtain ⟨⟨hf1, hf2⟩, hf4⟩ := hf
            have hf2 := Nat.le_of_ble_eq_true hf2
            have hf4 := (blt_iff _ _).1 hf4
            split at h
            · rename_i cs hcs
              cases h
              have hzr := run_zeroValue w (hC.ty _ _ hi) hz
              have hsz := run_sizeOf w (hC.ty _ _ hi)
              obtain ⟨p1, p2⟩ := evalPs_ok he hps
              have e3 : (ps.map fun (p : Nat × Operand) => (p.1, ρ p.2)).toList = ps.toList.map fun p => (p.1, ρ p.2) := by simp
              have hz0 : LR μ (zerosL (cellsL z) (len * i.size)) ((Array.range (len * i.size)).map fun k => z.cells[k % z.cells.size]!).toList := by
                rw [zerosL_ok, cellsL_eq]; exact zerosL_refl hf1 _
              obtain ⟨r', f1, f2⟩ := fillL_ok (parts' := (ps.map fun (p : Nat × Operand) => (p.1, ρ p.2)).toList) hcs hz0 (by rw [e3]; exact p1) (by rw [e3]; exact p2)
              have m := makes_row (C := C) (μ := μ) (e := el) (cs := cs) (c := r') (mk := fun b => .slice (some ⟨b, 0, none⟩) len len) (f := fun a => .slice (some a) len len) (w := w) f2
                (fun μ' b _ hb => by exact VR.slice hb hf4)
              obtain ⟨v', w', o', k, h1, h2⟩ := m
              refine ⟨v', w', o', k, ?_, h2⟩
              have e4 : (ps.map fun x => match x with | (i, x) => (i, ρ x)) = ps.map fun (p : Nat × Operand) => (p.1, ρ p.2) := rfl
              simp only [execOp, hop, Instr.buildSlice, e4, Sem.run_bind, hu, Result.andThen_ok, hsz, Sem.run_pure]
              rw [if_neg (show ¬ (len * i.size > 2 ^ 24) by omega)]
              by_cases hf3 : len * i.size = 0
              · have e5 : (Array.range (len * i.size)).map (fun k => (#[] : Array Value)[k % (#[] : Array Value).size]!) = (Array.range (len * i.size)).map fun k => z.cells[k % z.cells.size]! := by rw [hf3]; simp
                simp only [Sem.run_bind, Sem.run_pure, Result.andThen_ok, if_pos hf3, e5, f1]
                simpa [newRow] using h1
              · simp only [Sem.run_bind, Sem.run_pure, Result.andThen_ok, if_neg hf3, hzr, f1]
                simpa [newRow] using h1
            · cases h
        · cases h
      · cases h
    · cases h
  · rename_i t r hop
    have main : ∀ s : Sem Next, s.run C.P w = (do pure (.value (.map (some (← newObj (.map #[] 0))))) : Sem Next).run C.P w → Makes C μ s (.map [] 0) (fun b => .map (some b)) w := fun s hs =>
      ⟨.map (some w.heap.size), { w with heap := w.heap.push (.map #[] 0) }, .map #[] 0, 0, by rw [hs]; simp, rfl, rfl, rfl, rfl, fun μ' b hl hb => ⟨.map hb, ⟨rfl, by simp⟩, rfl⟩⟩
    split at h
    · cases h
      refine main _ ?_
      simp [execOp, hop, Instr.makeMap]
    · rename_i x
      split at h
      · rename_i a b c d hu hx
        have hu := run_underlying w (Ctx.und_ok hC hu)
        have hr := he _ _ hx
        cases h
        refine main _ ?_
        generalize hq : ρ x = q at hr
        cases hr
        simp [execOp, hop, Instr.makeMap, hu, hq, asInt, asIntOf]
      · cases h
  · rename_i t lo co hop
    split at h
    · rename_i el k1 l k2 c hu hl hc
      have hu := run_underlying w (Ctx.und_ok hC hu)
      have hrl := he _ _ hl
      have hrc := he _ _ hc
      split at h
      · rename_i i hi
        split at h
        · rename_i z hz
          split at h
          · rename_i hcnd
            obtain ⟨hf, c1, c2, c3, c4⟩ := hcnd
            cases h
            have hzr := run_zeroValue w (hC.ty _ _ hi) hz
            have hsz := run_sizeOf w (hC.ty _ _ hi)
            have hty := run_typeInfo w (hC.ty _ _ hi)
            generalize hq : ρ lo = q at hrl
            generalize hq2 : ρ co = q2 at hrc
            cases hrl; cases hrc
            have wl : IntKind.i64.wrap l = l := by
              simp only [IntKind.wrap, IntKind.bits, IntKind.signed]
              have : l % (2 ^ 64 : Int) = l := Int.emod_eq_of_lt c1 (by omega)
              simp [this]; omega
            have wc : IntKind.i64.wrap c = c := by
              simp only [IntKind.wrap, IntKind.bits, IntKind.signed]
              have : c % (2 ^ 64 : Int) = c := Int.emod_eq_of_lt (by omega) (by omega)
              simp [this]; omega
            have hz0 : LR μ (zerosL (cellsL z) (c.toNat * i.size)) ((Array.range (c.toNat * i.size)).map fun k => z.cells[k % z.cells.size]!).toList := by
              rw [zerosL_ok, cellsL_eq]; exact zerosL_refl hf _
            have m := makes_row (C := C) (μ := μ) (e := el) (cs := zerosL (cellsL z) (c.toNat * i.size)) (c := (Array.range (c.toNat * i.size)).map fun k => z.cells[k % z.cells.size]!)
              (mk := fun b => .slice (some ⟨b, 0, none⟩) l.toNat c.toNat) (f := fun a => .slice (some a) l.toNat c.toNat) (w := w) hz0 (fun μ' b _ hb => by exact VR.slice hb (by unfold big; omega))
            obtain ⟨v', w', o', k, h1, h2⟩ := m
            refine ⟨v', w', o', k, ?_, h2⟩
            have hno : ¬ ((c < 0 ∨ (i.bytes : Int) * c > 2 ^ 48) ∨ l < 0) := by omega
            have hno2 : ¬ (l > c) := by omega
            have cnd : ((decide (c < 0) || decide ((i.bytes : Int) * c > 2 ^ 48)) || decide (l < 0) || decide (l > c)) = false := by
              simp only [Bool.or_eq_false_iff, decide_eq_false_iff_not]; omega
            simp only [execOp, hop, hq, hq2, Instr.makeSlice, Sem.run_bind, hu, asInt, asIntOf, Sem.run_pure, Result.andThen_ok, hty, wl, wc]
            rw [if_neg (by simpa using cnd)]
            by_cases c5 : c.toNat * i.size = 0
            · have e5 : (Array.range (c.toNat * i.size)).map (fun k => (#[] : Array Value)[k % (#[] : Array Value).size]!) = (Array.range (c.toNat * i.size)).map fun k => z.cells[k % z.cells.size]! := by rw [c5]; simp
              simp only [Sem.run_bind, run_askRoom, Result.andThen_ok, hsz, if_pos c5, e5, Sem.run_pure]
              simpa [newRow] using h1
            · simp only [Sem.run_bind, run_askRoom, Result.andThen_ok, hsz, if_neg c5, hzr, Sem.run_pure]
              simpa [newRow] using h1
          · cases h
        · cases h
      · cases h
    · cases h
  · rename_i t x hop
    split at h
    · rename_i s hu hx
      have hu := run_underlying w (Ctx.und_ok hC hu)
      have hr := he _ _ hx
      cases h
      generalize hq : ρ x = q at hr
      cases hr
      exact ⟨.pointer (some ⟨w.heap.size, 0, none⟩), { w with heap := w.heap.push (.stringIter s 0) }, .stringIter s 0, 0, by simp [execOp, hop, hq, Instr.range, hu], rfl, rfl, rfl, rfl,
        fun μ' b hl hb => ⟨.ptr hb, rfl, rfl, rfl⟩⟩
    · cases h
  · rename_i sT dT x hop
    split at h
    · rename_i sd el u hs hd hx
      have hs := run_underlying w (Ctx.und_ok hC hs)
      have hd := run_underlying w (Ctx.und_ok hC hd)
      have hr := he _ _ hx
      generalize hq : ρ x = q at hr
      cases hr
      split at h
      · rename_i i hel hi
        have hel := run_underlying w (Ctx.und_ok hC hel)
        cases hb : Nat.beq i.size 1 && Nat.blt (bytesOf u).length big with
        | false => rw [hb] at h; cases h
        | true =>
          rw [hb] at h; cases h
          simp only [Bool.and_eq_true] at hb
          have hs1 := Nat.eq_of_beq_eq_true hb.1
          have hs2 := (blt_iff _ _).1 hb.2
          have hcut := cut_append u.size 0 el (w.tape w.drawn (.appendCap u.size 0 el)) (by rw [size_bytes]; exact hs2)
          generalize hcap : (Question.appendCap u.size 0 el).cut (w.tape w.drawn (.appendCap u.size 0 el)) = cap at hcut
          have hsz : (u.data.map (fun (b : UInt8) => Value.int .u8 b.toNat) ++ Array.replicate (cap - u.size) (Value.int .u8 0)).size = cap := by
            rw [Array.size_append, Array.size_map, Array.size_replicate]; have : u.size = u.data.size := rfl; omega
          refine ⟨.slice (some ⟨w.heap.size, 0, none⟩) u.size cap, ({ w with drawn := w.drawn + 1, heap := w.heap.push (.cells (u.data.map (fun (b : UInt8) => Value.int .u8 b.toNat) ++ Array.replicate (cap - u.size) (Value.int .u8 0)) el) }).freeze ⟨w.heap.size, cap, none⟩ 1,
            .cells (u.data.map (fun (b : UInt8) => Value.int .u8 b.toNat) ++ Array.replicate (cap - u.size) (Value.int .u8 0)) el (cap, cap + 1), cap, ?_, ?_, rfl, rfl, rfl, fun μ' b hl hb' => ⟨?_, ?_⟩⟩
          · simp only [execOp, hop, hq, convert, Sem.run_bind, hs, hd, Result.andThen_ok, hel, Conv.stringToBytes, run_choose, Question.forced, hcap]
            simp [-World.alloc_eq, -World.drew_eq, newRow, markStringish, World.shape?, hsz]
            rw [Nat.add_sub_of_le hcut.1]
          · simp only [World.freeze, Nat.succ_ne_zero, if_false]; rw [push_modify]; simp
          · have := VR.sliceG (μ := μ') (o := 0) (n := u.size) (lo := 0) hb' (by omega) hcut.2
            rw [size_bytes] at this
            simpa [size_bytes] using this
          · refine cellsR_grow (hC.ty _ _ hi) hs1 ?_ ?_ hcut.2 hsz (.inr rfl)
            · have e5 : (u.data.map (fun (b : UInt8) => Value.int .u8 b.toNat)).toList = (bytesOf u).map fun b => Value.int .u8 b.toNat := by simp [bytesOf]
              rw [e5]
              refine ints_refl _ ?_
              intro v hv
              simp only [List.mem_map] at hv
              obtain ⟨b, _, rfl⟩ := hv
              rfl
            · rw [List.length_map, ← size_bytes]; exact hcut.1
      · rename_i i hel hi
        have hel := run_underlying w (Ctx.und_ok hC hel)
        cases hb : Nat.beq i.size 1 && Nat.blt (Conv.runesFrom u (bytesOf u).length 0 #[]).toList.length big with
        | false => rw [hb] at h; cases h
        | true =>
          rw [hb] at h; cases h
          simp only [Bool.and_eq_true] at hb
          have hs1 := Nat.eq_of_beq_eq_true hb.1
          have hs2 := (blt_iff _ _).1 hb.2
          rw [← size_bytes] at hs2 ⊢
          generalize hrs : Conv.runesFrom u u.size 0 #[] = rs at hs2 ⊢
          have hs2' : rs.size < big := by simpa using hs2
          have hcut := cut_append rs.size 0 el (w.tape w.drawn (.appendCap rs.size 0 el)) hs2'
          generalize hcap : (Question.appendCap rs.size 0 el).cut (w.tape w.drawn (.appendCap rs.size 0 el)) = cap at hcut
          have hsz : (rs ++ Array.replicate (cap - rs.size) (Value.int .i32 0)).size = cap := by
            rw [Array.size_append, Array.size_replicate]; omega
          refine ⟨.slice (some ⟨w.heap.size, 0, none⟩) rs.size cap, { w with drawn := w.drawn + 1, heap := w.heap.push (.cells (rs ++ Array.replicate (cap - rs.size) (Value.int .i32 0)) el) },
            .cells (rs ++ Array.replicate (cap - rs.size) (Value.int .i32 0)) el (0, 0), cap, ?_, rfl, rfl, rfl, rfl, fun μ' b hl hb' => ⟨?_, ?_⟩⟩
          · simp only [execOp, hop, hq, convert, Sem.run_bind, hs, hd, Result.andThen_ok, hel, Conv.stringToRunes, run_choose, Question.forced, hrs, hcap]
            simp [-World.alloc_eq, -World.drew_eq, newRow]
          · have := VR.sliceG (μ := μ') (o := 0) (n := rs.size) (lo := 0) hb' (by omega) hcut.2
            simpa using this
          · refine cellsR_grow (hC.ty _ _ hi) hs1 ?_ ?_ hcut.2 hsz (.inl rfl)
            · exact ints_refl _ (by rw [← hrs]; exact runesFrom_flat u u.size 0 #[] (by simp))
            · simpa using hcut.1
      · cases h
    · cases h
  · cases h

end Go.Ai
