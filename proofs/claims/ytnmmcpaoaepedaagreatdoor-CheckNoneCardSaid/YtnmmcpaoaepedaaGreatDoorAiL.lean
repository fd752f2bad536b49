/-
  append and copy.
-/
import Derived.Test.YtnmmcpaoaepedaaGreatDoorAiK
noncomputable section
namespace Go.Ai

/-- What is appended: its length, its cells. -/
def srcL (C : Ctx) (get : Nat → Option AObj) (size : Nat) (x : Value) : Option (Nat × List Value) :=
  match x with
  | .slice none n _ => bif Nat.beq n 0 then some (0, []) else none
  | .slice (some ⟨b, o, none⟩) n _ => bif Nat.beq n 0 then some (0, []) else match get b with
    | some (.cells cs _ _) => bif Nat.ble (o + n * size) cs.length then some (n, (cs.drop o).take (n * size)) else none
    | _ => none
  | .string s => some ((bytesOf s).length, (bytesOf s).map fun b => .int .u8 b.toNat)
  | _ => none

theorem srcL_ok {C : Ctx} {μ : Mu} {H : Hp} {w : World} (h : HR C μ H w) {size : Nat} {x x' : Value} {n : Nat} {vs : List Value} (e : srcL C H.get size x = some (n, vs)) (r : VR μ x x') :
    ∃ vs' : List Value, (Builtin.lenOf x').run C.P w = .ok n w ∧ LR μ vs vs' ∧ (Builtin.firstCells size n x').run C.P w = .ok vs'.toArray w := by
  unfold srcL at e
  split at e
  · rename_i n' cap
    cases hn : Nat.beq n' 0 with
    | false => rw [hn] at e; cases e
    | true =>
      rw [hn] at e; cases e
      have hn := Nat.eq_of_beq_eq_true hn
      subst hn
      cases r
      exact ⟨[], rfl, LR.nil μ, rfl⟩
  · rename_i b o n' cap
    cases hn : Nat.beq n' 0 with
    | true =>
      rw [hn] at e; cases e
      have hn := Nat.eq_of_beq_eq_true hn
      subst hn
      obtain ⟨a, cap', rfl⟩ := slice_zero r
      exact ⟨[], rfl, LR.nil μ, by simp [Builtin.firstCells, loadCells, loadCellsFrom]⟩
    | false =>
      rw [hn] at e
      simp only [cond_false] at e
      have hn := (beq_false_iff _ _).1 hn
      split at e
      · rename_i cs el g hb
        cases hle : Nat.ble (o + n' * size) cs.length with
        | false => rw [hle] at e; cases e
        | true =>
          rw [hle] at e; cases e
          have hle := Nat.le_of_ble_eq_true hle
          have main : ∀ c sh kk cap', μ b = some (c, sh, kk) → ∃ vs' : List Value, (Builtin.lenOf (.slice (some ⟨c, sh + o, none⟩) n cap')).run C.P w = .ok n w ∧ LR μ ((cs.drop o).take (n * size)) vs' ∧
              (Builtin.firstCells size n (.slice (some ⟨c, sh + o, none⟩) n cap')).run C.P w = .ok vs'.toArray w := by
            intro c sh kk cap' hm
            obtain ⟨vs', h1, h2, h3⟩ := cells_of h hb hm hle
            exact ⟨vs', rfl, h2, h3⟩
          cases r with
          | slice hm _ => exact main _ _ _ _ hm
          | sliceG hm _ _ => exact main _ _ _ _ hm
          | sliceE => exact absurd rfl hn
      · cases e
  · rename_i s
    cases e
    cases r
    refine ⟨(bytesOf s).map fun b => .int .u8 b.toNat, by simp [Builtin.lenOf, size_bytes], ints_refl _ ?_, ?_⟩
    · intro v hv
      simp only [List.mem_map] at hv
      obtain ⟨b, _, rfl⟩ := hv
      rfl
    · have : s.extract 0 (bytesOf s).length = s := by
        rw [bytesOf_extract]; exact bytes_ext (by simp [bytesOf_ofBytes])
      simp only [Builtin.firstCells, this]
      have h2 : (s.data.map fun (b : UInt8) => Value.int .u8 b.toNat) = ((bytesOf s).map fun b => Value.int .u8 b.toNat).toArray := by
        apply Array.ext'; simp [bytesOf]
      rw [h2]; rfl
  · cases e

theorem growBy_le (n : Nat) : ∀ (r c : Nat), Builtin.growBy n r c ≤ max c (n + (n + 768) / 4)
  | 0, c => by unfold Builtin.growBy; omega
  | r + 1, c => by
    unfold Builtin.growBy
    split
    · omega
    · have := growBy_le n r (c + (c + 768) / 4); omega

theorem nextcap_le {n c : Nat} (h : c < n) : Builtin.nextslicecap n c ≤ 2 * n + 1000 := by
  unfold Builtin.nextslicecap
  split
  · omega
  · split
    · omega
    · have := growBy_le n 4 c; omega

theorem cut_le {n c : Nat} (h : n ≤ c) : Builtin.nextslicecap n c = Builtin.nextslicecap n c := rfl

/-- 'append(s, x...)'. -/
def appendW (C : Ctx) (H : Hp) (t : TypeId) (s x : Value) : Option (Value × Hp) :=
  match C.und t, s with
  | some (.slice el), .slice base n cap => match C.ty el with
    | some i => match i.zero, srcL C H.get i.size x with
      | some z, some (m, vs) =>
        bif Nat.beq i.size 0 || !flat z || !Nat.blt (n + m) big || !Nat.ble ((2 * (n + m) + 1000) * i.bytes) (2 ^ 48) || !(vs.all oneCell) || !(Nat.beq vs.length (m * i.size)) || !(Nat.beq (cellsL z).length i.size) then none else
        match base with
        | none => bif Nat.beq n 0 && Nat.beq cap 0 then
            (bif Nat.beq m 0 then some (.slice none 0 0, H)
            else bif Nat.blt H.next (2 ^ depthH) then some (.slice (some ⟨H.next, 0, none⟩) m (big + 0), H.new (.cells vs el true)) else none) else none
        | some ⟨b, o, none⟩ => bif Nat.blt cap big then
            (bif Nat.ble (n + m) cap then (match H.get b with
              | some (.cells cs e' g) => bif Nat.ble (o + n * i.size + vs.length) cs.length then
                  some (.slice (some ⟨b, o, none⟩) (n + m) cap, H.put b (some (.cells (splice cs (o + n * i.size) vs) e' g))) else none
              | _ => none)
            else match H.get b with
              | some (.cells cs _ _) => bif Nat.ble (o + n * i.size) cs.length && Nat.blt H.next (2 ^ depthH) then
                  some (.slice (some ⟨H.next, 0, none⟩) (n + m) (big + 0), H.new (.cells ((cs.drop o).take (n * i.size) ++ vs) el true)) else none
              | _ => none)
          else bif Nat.beq m 0 then some (.slice (some ⟨b, o, none⟩) n cap, H)
          else match H.get b with
            | some (.cells cs e' true) => bif Nat.beq (o + n * i.size) cs.length && Nat.beq o ((cap - big) * i.size) && Nat.beq e' el && Nat.blt H.next (2 ^ depthH) then
                some (.slice (some ⟨H.next, 0, none⟩) (n + m) (big + 0), (H.put b none).new (.cells (cs.drop o ++ vs) el true)) else none
            | _ => none
        | _ => none
      | _, _ => none
    | none => none
  | _, _ => none

/-- The new row that an append lays. -/
theorem grow_new {C : Ctx} {μ : Mu} {H : Hp} {w w₁ : World} (h : HR C μ H w) {el : TypeId} {i : TypeInfo} (hi : C.P.info? el = some i) {cs : List Value} {c extra : Array Value} {n cap : Nat} (hr : LR μ cs c.toList) (hn : cs.length = n * i.size)
    (hc : n ≤ cap) (hb : cap < big) (he : extra.size = (cap - n) * i.size) (hw : w₁.heap = w.heap) (ht : w₁.tape = w.tape) (ho : w₁.os = w.os) (hp : w₁.output = w.output) (hnx : H.next < 2 ^ depthH) :
    ∃ μ', HR C μ' (H.new (.cells cs el true)) { w₁ with heap := w₁.heap.push (.cells (c ++ extra) el) } ∧ Fwd μ H w μ' (H.new (.cells cs el true)) { w₁ with heap := w₁.heap.push (.cells (c ++ extra) el) } ∧
      VR μ' (.slice (some ⟨H.next, 0, none⟩) n (big + 0)) (.slice (some ⟨w.heap.size, 0, none⟩) n cap) := by
  have hfree := h.free (Nat.le_refl H.next)
  have hget : ∀ b', (H.new (.cells cs el true)).get b' = if H.next = b' then some (.cells cs el true) else H.get b' := fun b' => Hp.get_new H b' _ hnx
  have hlen : cs.length = c.size := by have := hr.1; simpa using this
  have hcell : OR C (μ.ext H.next (w.heap.size, 0, cap)) 0 cap (.cells cs el true) (.cells (c ++ extra) el) := by
    refine ⟨rfl, by rw [Array.size_append]; omega, fun j v hv => ?_, (fun hh => by cases hh), fun _ => ⟨i, hi, ?_, ?_, hb⟩, fun j _ => by simp⟩
    · obtain ⟨v', h1, h2⟩ := (hr.mono (Mu.le_ext _ hfree)).at hv
      have hj : j < c.size := by have := (List.getElem?_eq_some_iff.1 hv).1; omega
      exact ⟨v', by rw [Nat.zero_add, Array.getElem?_append_left hj]; simpa using h1, h2⟩
    · rw [Array.size_append, he, ← hlen, hn, ← Nat.add_mul]
      have : n + (cap - n) = cap := by omega
      rw [this]; omega
    · rw [hn]; exact Nat.mul_le_mul_right _ hc
  have hww : ({ w₁ with heap := w₁.heap.push (.cells (c ++ extra) el) } : World).heap = w.heap.push (.cells (c ++ extra) el) := by rw [← hw]
  refine ⟨μ.ext H.next (w.heap.size, 0, cap), h.put_new (k := cap) hfree (by simp) (by simp) hget hww hcell, Fwdg.put_new (k := cap) h hfree (by simp) (Nat.le_refl _) hget hww ht ho hp, ?_⟩
  have := VR.sliceG (μ := μ.ext H.next (w.heap.size, 0, cap)) (o := 0) (n := n) (lo := 0) (Mu.ext_self _ _ _) (by omega) hb
  simpa using this

/-- A TELLING MOVED: the object told as b is told as b' from now on. -/
theorem HR.move {C : Ctx} {μ : Mu} {H : Hp} {w w' : World} (h : HR C μ H w) {b c sh k sh' k' : Nat} {o o₁ : AObj} {p : Obj} (hb : H.get b = some o) (hm : μ b = some (c, sh, k)) (hw : ∀ c', w'.heap[c']? = if c = c' then some p else w.heap[c']?) (hs : w'.heap.size = w.heap.size)
    (ht : w'.tape = w.tape) (hos : w'.os = w.os) (hpo : w'.output = w.output) (hnx : H.next < 2 ^ depthH)
    (ho : OR C (μ.ext H.next (c, sh', k')) sh' k' o₁ p) : HR C (μ.ext H.next (c, sh', k')) ((H.put b none).new o₁) w' ∧ Fwd μ H w (μ.ext H.next (c, sh', k')) ((H.put b none).new o₁) w' := by
  have hfree := h.free (Nat.le_refl H.next)
  have hne : b ≠ H.next := by intro hh; subst hh; rw [hfree] at hm; cases hm
  have hle := Mu.le_ext (c, sh', k') hfree
  have hget : ∀ b', ((H.put b none).new o₁).get b' = if H.next = b' then some o₁ else if b = b' then none else H.get b' := by
    intro b'
    rw [Hp.get_new _ _ _ (by simpa using hnx), Hp.next_put]
    by_cases h1 : H.next = b'
    · rw [if_pos h1, if_pos h1]
    · rw [if_neg h1, if_neg h1, Hp.get_put]
      by_cases h2 : b = b'
      · rw [if_pos h2, if_pos ⟨h2, Hp.get_lt hb⟩]
      · rw [if_neg h2, if_neg (fun hh => h2 hh.1)]
  have hc := h.blk b c sh k hm
  have keep : ∀ b' o', ((H.put b none).new o₁).get b' = some o' → b' ≠ H.next → H.get b' = some o' ∧ b' ≠ b := by
    intro b' o' hg hn
    rw [hget, if_neg (Ne.symm hn)] at hg
    by_cases h2 : b = b'
    · rw [if_pos h2] at hg; cases hg
    · rw [if_neg h2] at hg; exact ⟨hg, Ne.symm h2⟩
  refine ⟨⟨fun b' x e => ?_, fun b' c' s' k'' e => ?_, fun b1 b2 o1 o2 c' s1 k1 s2 k2 g1 g2 e1 e2 => ?_, fun b' o' hg => ?_, fun g hg => let ⟨k, e⟩ := h.glob g hg; ⟨k, hle _ _ e⟩⟩,
    ⟨hle, by simp, by rw [hs]; exact Nat.le_refl _, ht, hos, hpo, fun b' x e => ?_, fun b' o' c' s' k'' hg e hlt => ?_, fun c' _ hno => by rw [hw, if_neg]; intro hcc; subst hcc; exact hno b o sh k hb hm, fun b' o' hg => ?_⟩⟩
  · simp only [Hp.next_new, Hp.next_put]
    by_cases hbb : b' = H.next
    · omega
    · rw [Mu.ext_other _ _ hbb] at e; have := h.dom b' x e; omega
  · by_cases hbb : b' = H.next
    · subst hbb; rw [Mu.ext_self] at e; cases e; rw [hs]; exact hc
    · rw [Mu.ext_other _ _ hbb] at e; rw [hs]; exact h.blk b' c' s' k'' e
  · by_cases hb1 : b1 = H.next <;> by_cases hb2 : b2 = H.next
    · rw [hb1, hb2]
    · exfalso
      obtain ⟨q1, q2⟩ := keep b2 o2 g2 hb2
      subst hb1
      rw [Mu.ext_self] at e1; rw [Mu.ext_other _ _ hb2] at e2
      cases e1
      exact q2 (h.inj b b2 o o2 c sh k s2 k2 hb q1 hm e2).symm
    · exfalso
      obtain ⟨q1, q2⟩ := keep b1 o1 g1 hb1
      subst hb2
      rw [Mu.ext_self] at e2; rw [Mu.ext_other _ _ hb1] at e1
      cases e2
      exact q2 (h.inj b b1 o o1 c sh k s1 k1 hb q1 hm e1).symm
    · obtain ⟨q1, _⟩ := keep b1 o1 g1 hb1
      obtain ⟨q2, _⟩ := keep b2 o2 g2 hb2
      rw [Mu.ext_other _ _ hb1] at e1; rw [Mu.ext_other _ _ hb2] at e2
      exact h.inj b1 b2 o1 o2 c' s1 k1 s2 k2 q1 q2 e1 e2
  · by_cases hbb : b' = H.next
    · subst hbb
      rw [hget, if_pos rfl] at hg; cases hg
      exact ⟨c, sh', k', p, Mu.ext_self _ _ _, by rw [hw, if_pos rfl], ho⟩
    · obtain ⟨q1, q2⟩ := keep b' o' hg hbb
      obtain ⟨c', s', k'', p', e1, e2, e3⟩ := h.obj b' o' q1
      refine ⟨c', s', k'', p', hle _ _ e1, ?_, e3.mono hle⟩
      rw [hw, if_neg]; exact e2
      intro hcc; subst hcc
      exact q2 (h.inj b b' o o' c sh k s' k'' hb q1 hm e1).symm
  · by_cases hbb : b' = H.next
    · subst hbb; exact .inr (Nat.le_refl _)
    · rw [Mu.ext_other _ _ hbb] at e; exact .inl e
  · by_cases hbb : b' = H.next
    · subst hbb; rw [Mu.ext_self] at e; cases e; exact ⟨b, o, sh, k, hb, hm⟩
    · obtain ⟨q1, _⟩ := keep b' o' hg hbb
      rw [Mu.ext_other _ _ hbb] at e
      exact ⟨b', o', s', k'', q1, e⟩
  · by_cases hbb : b' = H.next
    · subst hbb; exact .inr (Nat.le_refl _)
    · exact .inl ⟨o', (keep b' o' hg hbb).1⟩

theorem Fwdg.fewer {μ μ' : Mu} {n n' n'' : Nat} {g g' g'' : Nat → Option AObj} {w w' : World} (h : Fwdg μ n g w μ' n' g' w') (hn : n'' = n') (hg : ∀ b o, g'' b = some o → g' b = some o) : Fwdg μ n g w μ' n'' g'' w' :=
  { h with next := by rw [hn]; exact h.next, img := fun b o c sh k e => h.img b o c sh k (hg b o e), live := fun b o e => h.live b o (hg b o e) }

theorem zeroCells_size (z : Array Value) (n : Nat) : (Builtin.zeroCells z n).size = n * z.size := by simp [Builtin.zeroCells]

def storeAtO (base : Option Addr) (k : Nat) (vs : List Value) : Sem Unit :=
  match base with
  | some a => storeCells (a.add k) vs
  | none => pure ()

/-- The steps of 'append_' that hang on nothing but types and lengths. -/
theorem append_pre {C : Ctx} (hC : C.Ok) {μ : Mu} {H : Hp} {w : World} (h : HR C μ H w) {t xt ty el : TypeId} {i : TypeInfo} {z x x' : Value} {base : Option Addr} {n m cap : Nat} {vs : List Value} (hu : C.und t = some (.slice el)) (hi : C.ty el = some i) (hz : i.zero = some z)
    (hs : srcL C H.get i.size x = some (m, vs)) (r : VR μ x x') (hxd : C.P.underlying xt = some .string ∨ ∃ e', C.P.underlying xt = some (.slice e')) (hlt : n + m < big) (hby : (2 * (n + m) + 1000) * i.bytes ≤ 2 ^ 48) :
    ∃ vs' : List Value, LR μ vs vs' ∧
      (n + m ≤ cap → (Builtin.append_ #[t, xt] ty #[.slice base n cap, x']).run C.P w = (do storeAtO base (n * i.size) vs'; pure (.slice base (n + m) cap) : Sem Value).run C.P w) ∧
      (cap < n + m → (Builtin.append_ #[t, xt] ty #[.slice base n cap, x']).run C.P w =
        ((do let old ← Builtin.firstCells i.size n (.slice base n cap)
             let new ← Builtin.firstCells i.size m x'
             pure (.slice (some (← newRow el (old ++ new ++ Builtin.zeroCells z.cells ((Question.appendCap (n + m) cap el).cut (w.tape w.drawn (.appendCap (n + m) cap el)) - (n + m))))) (n + m) ((Question.appendCap (n + m) cap el).cut (w.tape w.drawn (.appendCap (n + m) cap el)))) : Sem Value)).run C.P { w with drawn := w.drawn + 1 }) := by
  have hu' := run_underlying w (Ctx.und_ok hC hu)
  have hty := run_typeInfo w (hC.ty _ _ hi)
  have hty1 := run_typeInfo { w with drawn := w.drawn + 1 } (hC.ty _ _ hi)
  have hsz := run_sizeOf w (hC.ty _ _ hi)
  have hsz1 := run_sizeOf { w with drawn := w.drawn + 1 } (hC.ty _ _ hi)
  have hzr1 := run_zeroValue { w with drawn := w.drawn + 1 } (hC.ty _ _ hi) hz
  have hzr' : ∀ w', (zeroValue el).run C.P w' = .ok z w' := fun w' => run_zeroValue w' (hC.ty _ _ hi) hz
  obtain ⟨vs', h1, h2, h3⟩ := srcL_ok h hs r
  have e1 : (#[t, xt] : Array TypeId)[0]? = some t := rfl
  have e2 : (#[t, xt] : Array TypeId)[1]? = some xt := rfl
  have e3 : (#[Value.slice base n cap, x'] : Array Value)[0]? = some (.slice base n cap) := rfl
  have e4 : (#[Value.slice base n cap, x'] : Array Value)[1]? = some x' := rfl
  refine ⟨vs', h2, fun hle => ?_, fun hgt => ?_⟩
  · rcases hxd with hd | ⟨e', hd⟩ <;>
    · have hdu := run_underlying w hd
      simp only [Builtin.append_, e1, e2, e3, e4, Sem.run_bind, hu', hsz, hdu, h1, Result.andThen_ok, Sem.run_pure]
      cases base <;> simp [h1, hle, h3, storeAtO]
  · have hno : ¬ (n + m ≤ cap) := by omega
    have h63 : ¬ (9223372036854775807 < ((n : Int) + (m : Int))) := by unfold big at hlt; omega
    have hcap : ¬ (281474976710656 < Builtin.nextslicecap (n + m) cap * i.bytes) := by
      have h4 := nextcap_le hgt
      have h5 := Nat.mul_le_mul_right i.bytes h4
      omega
    rcases hxd with hd | ⟨e', hd⟩ <;>
    · have hdu := run_underlying w hd
      simp only [Builtin.append_, e1, e2, e3, e4, Sem.run_bind, hu', hsz, hdu, h1, Result.andThen_ok, Sem.run_pure]
      simp [h1, hno, h63, hty, hcap, Question.forced, hzr', run_typeInfo w.drew (hC.ty _ _ hi)]

theorem appendW_ok {C : Ctx} (hC : C.Ok) {μ : Mu} {H H' : Hp} {w : World} (h : HR C μ H w) {t xt ty : TypeId} {s s' x x' res : Value} (e : appendW C H t s x = some (res, H')) (r : VR μ s s') (rx : VR μ x x')
    (hxd : C.P.underlying xt = some .string ∨ ∃ e', C.P.underlying xt = some (.slice e')) :
    ∃ μ' v' w', (Builtin.append_ #[t, xt] ty #[s', x']).run C.P w = .ok v' w' ∧ VR μ' res v' ∧ HR C μ' H' w' ∧ Fwd μ H w μ' H' w' := by
  unfold appendW at e
  split at e
  · rename_i el base n cap hu
    cases hi : C.ty el with
    | none => rw [hi] at e; cases e
    | some i =>
      rw [hi] at e
      simp only at e
      split at e
      · rename_i z m vs hz hsrc
        cases hc : Nat.beq i.size 0 || !flat z || !Nat.blt (n + m) big || !Nat.ble ((2 * (n + m) + 1000) * i.bytes) (2 ^ 48) || !(vs.all oneCell) || !(Nat.beq vs.length (m * i.size)) || !(Nat.beq (cellsL z).length i.size) with
        | true => rw [hc] at e; cases e
        | false =>
          rw [hc] at e
          simp only [cond_false] at e
          simp only [Bool.or_eq_false_iff, Bool.not_eq_false'] at hc
          obtain ⟨⟨⟨⟨⟨⟨c1, c2⟩, c3⟩, c4⟩, c5⟩, c6⟩, c7⟩ := hc
          have hzc : z.cells.size = i.size := by rw [← Array.length_toList, cellsL_eq]; exact Nat.eq_of_beq_eq_true c7
          have c6 := Nat.eq_of_beq_eq_true c6
          have c1 := (beq_false_iff _ _).1 c1
          have c3 := (blt_iff _ _).1 c3
          have c4 := Nat.le_of_ble_eq_true c4
          have wz : ∀ q : Nat, (Builtin.zeroCells z.cells q).size = q * z.cells.size := zeroCells_size _
          -- a new row, behind the old one's cells
          have grow : ∀ (base' : Option Addr) (cap' : Nat) (olds : List Value), cap' < n + m → olds.length = n * i.size →
              (∃ olds' : List Value, LR μ olds olds' ∧ (Builtin.firstCells i.size n (.slice base' n cap')).run C.P { w with drawn := w.drawn + 1 } = .ok olds'.toArray { w with drawn := w.drawn + 1 }) → H.next < 2 ^ depthH →
              ∃ μ' v' w', (Builtin.append_ #[t, xt] ty #[.slice base' n cap', x']).run C.P w = .ok v' w' ∧ VR μ' (.slice (some ⟨H.next, 0, none⟩) (n + m) (big + 0)) v' ∧
                HR C μ' (H.new (.cells (olds ++ vs) el true)) w' ∧ Fwd μ H w μ' (H.new (.cells (olds ++ vs) el true)) w' := by
            intro base' cap' olds hlt hol hofe hnx
            obtain ⟨olds', ho, hof⟩ := hofe
            obtain ⟨vs', p1, _, p3⟩ := append_pre (base := base') (cap := cap') (ty := ty) hC h hu hi hz hsrc rx hxd c3 c4
            have hw1 : HR C μ H { w with drawn := w.drawn + 1 } := h.world rfl
            obtain ⟨vs2, q1, q2, q3⟩ := srcL_ok hw1 hsrc rx
            have hcut := cut_append (n + m) cap' el (w.tape w.drawn (.appendCap (n + m) cap' el)) c3
            generalize hcap : (Question.appendCap (n + m) cap' el).cut (w.tape w.drawn (.appendCap (n + m) cap' el)) = ncap at hcut
            obtain ⟨μ', g1, g2, g3⟩ := grow_new (w₁ := { w with drawn := w.drawn + 1 }) (cs := olds ++ vs) (c := olds'.toArray ++ vs2.toArray) (extra := Builtin.zeroCells z.cells (ncap - (n + m))) (n := n + m) (cap := ncap) h (hC.ty _ _ hi)
              (by simpa using ho.append q2) (by rw [List.length_append, hol, c6, Nat.add_mul]) hcut.1 hcut.2 (by rw [wz, hzc]) rfl rfl rfl rfl hnx
            refine ⟨μ', _, _, ?_, g3, g1, g2⟩
            rw [p3 hlt, hcap]
            simp only [Sem.run_bind, hof, Result.andThen_ok, q3, newRow, run_newObj, Sem.run_pure]
          -- room enough, and nothing or something stored
          have room : ∀ (base' : Option Addr) (cap' : Nat), n + m ≤ cap' → ∃ vs' : List Value, LR μ vs vs' ∧
              (Builtin.append_ #[t, xt] ty #[.slice base' n cap', x']).run C.P w = (do storeAtO base' (n * i.size) vs'; pure (.slice base' (n + m) cap') : Sem Value).run C.P w := by
            intro base' cap' hle
            obtain ⟨vs', p1, p2, _⟩ := append_pre (base := base') (cap := cap') (ty := ty) hC h hu hi hz hsrc rx hxd c3 c4
            exact ⟨vs', p1, p2 hle⟩
          split at e
          · -- nil
            cases hn : Nat.beq n 0 && Nat.beq cap 0 with
            | false => rw [hn] at e; cases e
            | true =>
              rw [hn] at e
              simp only [cond_true] at e
              simp only [Bool.and_eq_true] at hn
              have hn1 := Nat.eq_of_beq_eq_true hn.1
              have hn2 := Nat.eq_of_beq_eq_true hn.2
              subst hn1; subst hn2
              cases r
              cases hm : Nat.beq m 0 with
              | true =>
                rw [hm] at e; cases e
                have hm := Nat.eq_of_beq_eq_true hm
                subst hm
                obtain ⟨vs', _, p2⟩ := room none 0 (Nat.le_refl _)
                exact ⟨μ, _, w, by rw [p2]; rfl, .sliceNil 0 0, h, Fwd.refl _ _ _⟩
              | false =>
                rw [hm] at e
                simp only [cond_false] at e
                have hm := (beq_false_iff _ _).1 hm
                cases hnx : Nat.blt H.next (2 ^ depthH) with
                | false => rw [hnx] at e; cases e
                | true =>
                  rw [hnx] at e; cases e
                  have := grow none 0 [] (by omega) (by simp) ⟨[], LR.nil μ, rfl⟩ ((blt_iff _ _).1 hnx)
                  simpa using this
          · rename_i b o
            cases hcb : Nat.blt cap big with
            | true =>
              rw [hcb] at e
              simp only [cond_true] at e
              have hcb := (blt_iff _ _).1 hcb
              cases r with
              | sliceG => omega
              | sliceE => omega
              | @slice _ _ c sh k _ _ hm hk =>
                cases hroom : Nat.ble (n + m) cap with
                | true =>
                  rw [hroom] at e
                  simp only [cond_true] at e
                  have hroom := Nat.le_of_ble_eq_true hroom
                  split at e
                  · rename_i cs e' g hb
                    cases hle : Nat.ble (o + n * i.size + vs.length) cs.length with
                    | false => rw [hle] at e; cases e
                    | true =>
                      rw [hle] at e; cases e
                      obtain ⟨vs', p1, p2⟩ := room (some ⟨c, sh + o, none⟩) cap hroom
                      obtain ⟨w', a1, a2, a3⟩ := store_ok h hb hm p1 c5 (Nat.le_of_ble_eq_true hle)
                      refine ⟨μ, _, w', ?_, .slice hm hk, a2, a3⟩
                      rw [p2]
                      simp only [storeAtO, add_eq, Sem.run_bind, Nat.add_assoc] at a1 ⊢
                      rw [a1]; rfl
                  · cases e
                | false =>
                  rw [hroom] at e
                  simp only [cond_false] at e
                  have hroom : cap < n + m := by
                    cases hq : Nat.ble (n + m) cap with
                    | true => rw [hq] at hroom; cases hroom
                    | false =>
                      rcases Nat.lt_or_ge cap (n + m) with h1 | h1
                      · exact h1
                      · rw [Nat.ble_eq_true_of_le h1] at hq; cases hq
                  split at e
                  · rename_i cs e' g hb
                    cases hle : Nat.ble (o + n * i.size) cs.length && Nat.blt H.next (2 ^ depthH) with
                    | false => rw [hle] at e; cases e
                    | true =>
                      rw [hle] at e; cases e
                      simp only [Bool.and_eq_true] at hle
                      have hle1 := Nat.le_of_ble_eq_true hle.1
                      have hle2 := (blt_iff _ _).1 hle.2
                      obtain ⟨olds', q1, q2, q3⟩ := cells_of (h.world (w' := { w with drawn := w.drawn + 1 }) rfl : HR C μ H { w with drawn := w.drawn + 1 }) hb hm hle1
                      exact grow (some ⟨c, sh + o, none⟩) cap _ hroom (by simp; omega) ⟨olds', q2, q3⟩ hle2
                  · cases e
            | false =>
              rw [hcb] at e
              simp only [cond_false] at e
              have hcb := (blt_false _ _).1 hcb
              cases hm0 : Nat.beq m 0 with
              | true =>
                rw [hm0] at e; cases e
                have hm0 := Nat.eq_of_beq_eq_true hm0
                subst hm0
                have stay : ∀ (a : Addr) (cap' : Nat), n ≤ cap' → (Builtin.append_ #[t, xt] ty #[.slice (some a) n cap', x']).run C.P w = .ok (.slice (some a) n cap') w := by
                  intro a cap' hle
                  obtain ⟨vs', p1, p2⟩ := room (some a) cap' hle
                  have : vs' = [] := List.eq_nil_of_length_eq_zero (by rw [← p1.1, c6]; simp)
                  subst this
                  rw [p2]; rfl
                cases r with
                | slice hm hk => omega
                | sliceG hm hk hb => exact ⟨μ, _, w, stay _ _ (by omega), .sliceG hm hk hb, h, Fwd.refl _ _ _⟩
                | sliceE => exact ⟨μ, _, w, stay _ _ (by omega), .sliceE, h, Fwd.refl _ _ _⟩
              | false =>
                rw [hm0] at e
                simp only [cond_false] at e
                have hm0 := (beq_false_iff _ _).1 hm0
                split at e
                · rename_i cs e' hb
                  cases hcc : Nat.beq (o + n * i.size) cs.length && Nat.beq o ((cap - big) * i.size) && Nat.beq e' el && Nat.blt H.next (2 ^ depthH) with
                  | false => rw [hcc] at e; cases e
                  | true =>
                    rw [hcc] at e; cases e
                    simp only [Bool.and_eq_true] at hcc
                    obtain ⟨⟨⟨d1, d2⟩, d3⟩, d4⟩ := hcc
                    have d1 := Nat.eq_of_beq_eq_true d1
                    have d2 := Nat.eq_of_beq_eq_true d2
                    have d3 := Nat.eq_of_beq_eq_true d3
                    have d4 := (blt_iff _ _).1 d4
                    subst d3
                    have hgetk : ∀ b' o', ((H.put b none).new (.cells (cs.drop o ++ vs) e' true)).get b' = some o' → (H.new (.cells (cs.drop o ++ vs) e' true)).get b' = some o' := by
                      intro b' o' hg
                      rw [Hp.get_new _ _ _ (by simpa using d4), Hp.next_put] at hg
                      rw [Hp.get_new _ _ _ d4]
                      by_cases h1 : H.next = b'
                      · rw [if_pos h1] at hg ⊢; exact hg
                      · rw [if_neg h1] at hg ⊢
                        rw [Hp.get_put] at hg
                        by_cases h2 : b = b' ∧ b < 2 ^ depthH
                        · rw [if_pos h2] at hg; cases hg
                        · rw [if_neg h2] at hg; exact hg
                    have hdl : (cs.drop o).length = n * i.size := by simp; omega
                    -- a new row
                    have anew : ∀ (a : Addr) (cap' : Nat), cap' < n + m → (∃ olds' : List Value, LR μ (cs.drop o) olds' ∧ (Builtin.firstCells i.size n (.slice (some a) n cap')).run C.P { w with drawn := w.drawn + 1 } = .ok olds'.toArray { w with drawn := w.drawn + 1 }) →
                        ∃ μ' v' w', (Builtin.append_ #[t, xt] ty #[.slice (some a) n cap', x']).run C.P w = .ok v' w' ∧ VR μ' (.slice (some ⟨H.next, 0, none⟩) (n + m) (big + 0)) v' ∧
                          HR C μ' ((H.put b none).new (.cells (cs.drop o ++ vs) e' true)) w' ∧ Fwd μ H w μ' ((H.put b none).new (.cells (cs.drop o ++ vs) e' true)) w' := by
                      intro a cap' hlt hof
                      obtain ⟨μ', v', w', g1, g2, g3, g4⟩ := grow (some a) cap' (cs.drop o) hlt hdl hof d4
                      exact ⟨μ', v', w', g1, g2, g3.weaken (by simp) hgetk, g4.fewer (by simp) hgetk⟩
                    cases r with
                    | slice hm hk => omega
                    | @sliceE _ _ lo a =>
                      have hd0 : cs.drop o = [] := List.eq_nil_of_length_eq_zero (by rw [hdl]; simp)
                      exact anew a 0 (by omega) ⟨[], by rw [hd0]; exact LR.nil μ, by simp [Builtin.firstCells, loadCells, loadCellsFrom]⟩
                    | @sliceG _ _ c sh k _ lo hm hk hbk =>
                      have hlo : lo = (big + lo) - big := by omega
                      have d2' : o = lo * i.size := by rw [← hlo] at d2; exact d2
                      by_cases hroom : n + m ≤ k - lo
                      · -- in place
                        obtain ⟨vs', p1, p2⟩ := room (some ⟨c, sh + o, none⟩) (k - lo) hroom
                        obtain ⟨c', sh', k', o', e1, e2, e3⟩ := h.obj b _ hb
                        rw [hm] at e1; cases e1
                        cases o' with
                        | cells ca el' fz =>
                          obtain ⟨rfl, hlen, hrow, hex, hgr, hth⟩ := (e3 : CellsR C μ sh k cs e' true ca el' fz)
                          obtain ⟨i', i1, i2, i3, i4⟩ := hgr rfl
                          have i1' := hC.ty _ _ hi
                          rw [i1'] at i1; cases i1
                          have hfit : sh + o + n * i.size + vs'.length ≤ ca.size := by
                            rw [← p1.1, c6]
                            have h1 : (lo + n + m) * i.size ≤ k * i.size := Nat.mul_le_mul_right _ (by omega)
                            rw [Nat.add_mul, Nat.add_mul] at h1
                            omega
                          have hcell : ∀ j, j < vs'.length → (w.cell? ⟨c, sh + o + n * i.size + 0 + j, none⟩).isSome = true := by
                            intro j hj
                            have : sh + o + n * i.size + j < ca.size := by omega
                            simp [World.cell?, e2, Array.getElem?_eq_getElem this]
                          have hfz : ∀ j, j < vs'.length → w.frozen? ⟨c, sh + o + n * i.size + 0 + j, none⟩ = false := by
                            intro j hj
                            have h9 := hth (sh + o + n * i.size + j) (by omega)
                            obtain ⟨l1, l2⟩ := fz
                            simp only [World.frozen?, e2, Nat.add_zero]
                            simp only [not_and, Nat.not_lt] at h9
                            by_cases hl : l1 ≤ sh + o + n * i.size + j
                            · simp [hl, h9 hl]
                            · simp [hl]
                          have hrun := run_storeCells_cells (P := C.P) c (sh + o + n * i.size) vs' 0 w hcell hfz (oneCells_ok c5 p1)
                          rw [Nat.add_zero] at hrun
                          obtain ⟨ca', s1, s2, s3, s4, s5, s6, s7⟩ := setCells_heap c el' fz vs' (sh + o + n * i.size) w ca e2 hfit
                          have hle := Mu.le_ext (c, sh + o, k - lo) (h.free (Nat.le_refl H.next))
                          have hOR : OR C (μ.ext H.next (c, sh + o, k - lo)) (sh + o) (k - lo) (.cells (cs.drop o ++ vs) el' true) (.cells ca' el' fz) := by
                            refine ⟨rfl, ?_, fun j v hv => ?_, (fun hh => by cases hh), fun _ => ⟨i, i1', ?_, ?_, by omega⟩, fun j hj => hth j (by rw [← s2]; exact hj)⟩
                            · rw [List.length_append, hdl, s2, p1.1]; omega
                            · rw [s3]
                              by_cases hj : j < (cs.drop o).length
                              · rw [List.getElem?_append_left hj, List.getElem?_drop] at hv
                                rw [if_neg (by omega)]
                                obtain ⟨v', a1, a2⟩ := hrow _ v hv
                                exact ⟨v', by rw [← a1]; congr 1; omega, a2.mono hle⟩
                              · have hj2 : j - (cs.drop o).length < vs.length := by
                                  rw [List.getElem?_append_right (by omega)] at hv
                                  exact (List.getElem?_eq_some_iff.1 hv).1
                                rw [List.getElem?_append_right (by omega)] at hv
                                obtain ⟨v', a1, a2⟩ := p1.at hv
                                rw [if_pos (by rw [← p1.1]; omega)]
                                exact ⟨v', by rw [← a1]; congr 1; omega, a2.mono hle⟩
                            · rw [s2, Nat.sub_mul]; omega
                            · rw [List.length_append, hdl, c6, Nat.sub_mul, ← Nat.add_mul]
                              have h1 : (n + m) * i.size ≤ (k - lo) * i.size := Nat.mul_le_mul_right _ hroom
                              rw [Nat.sub_mul] at h1; exact h1
                          obtain ⟨f1, f2⟩ := h.move hb hm s1 s4 s5 s6 s7 d4 hOR
                          refine ⟨_, .slice (some ⟨c, sh + o, none⟩) (n + m) (k - lo), _, ?_, ?_, f1, f2⟩
                          · rw [p2]
                            simp only [storeAtO, add_eq, Sem.run_bind, hrun, Result.andThen_ok]; rfl
                          · have := VR.sliceG (μ := μ.ext H.next (c, sh + o, k - lo)) (o := 0) (n := n + m) (lo := 0) (Mu.ext_self _ _ _) (by omega) (by omega)
                            simpa using this
                        | _ => exact e3.elim
                      · obtain ⟨olds', q1, q2, q3⟩ := cells_of (h.world (w' := { w with drawn := w.drawn + 1 }) rfl : HR C μ H { w with drawn := w.drawn + 1 }) hb hm (o := o) (n := n * i.size) (by omega)
                        refine anew ⟨c, sh + o, none⟩ (k - lo) (by omega) ⟨olds', ?_, q3⟩
                        rw [List.take_of_length_le (by omega)] at q2
                        exact q2
                · cases e
          · cases e
      · cases e
  · cases e

end Go.Ai
