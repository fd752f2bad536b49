/-
  All operations that read memory, in one.
-/
import Derived.Test.YtnmmcpaoaepedaaGreatDoorAiI
import Derived.Laws.BytesString
import Derived.Laws.Cover4
noncomputable section
namespace Go.Ai

def intsOf (k : IntKind) : List Value → Option (List Int)
  | [] => some []
  | .int k' n :: l => if k' = k then (match intsOf k l with | some r => some (n :: r) | none => none) else none
  | _ => none

theorem intsOf_eq {μ : Mu} {k : IntKind} : ∀ {l l' : List Value} {ns : List Int}, intsOf k l = some ns → LR μ l l' → l' = ns.map (Value.int k)
  | [], l', ns, h, r => by
    cases h
    have := r.1; simp at this
    exact List.eq_nil_of_length_eq_zero this.symm
  | v :: l, l', ns, h, r => by
    cases l' with
    | nil => have := r.1; simp at this
    | cons v' l' =>
      unfold intsOf at h
      split at h
      · rename_i h1; cases h1
      · rename_i k' n l0 h1
        cases h1
        split at h
        · rename_i hk
          subst hk
          split at h
          · rename_i ns' hr
            cases h
            rw [intsOf_eq hr r.tail]
            have := r.head
            cases this; rfl
          · cases h
        · cases h
      · cases h

theorem foldl_push (ns : List Int) : ∀ s : ByteArray, ns.foldl (fun r n => r.push (UInt8.ofNat n.toNat)) s = ofBytes (bytesOf s ++ ns.map fun n => UInt8.ofNat n.toNat) := by
  induction ns with
  | nil => intro s; exact bytes_ext (by simp [bytesOf_ofBytes])
  | cons n ns ih =>
    intro s
    rw [List.foldl_cons, ih]
    exact bytes_ext (by
      rw [bytesOf_ofBytes, bytesOf_ofBytes]
      show (s.data.push _).toList ++ _ = _
      simp [bytesOf])

theorem foldl_enc (ns : List Int) : ∀ s : ByteArray, ns.foldl (fun r n => r ++ Utf8.encode n) s = ofBytes (bytesOf s ++ (ns.map fun n => bytesOf (Utf8.encode n)).flatten) := by
  induction ns with
  | nil => intro s; exact bytes_ext (by simp [bytesOf_ofBytes])
  | cons n ns ih =>
    intro s
    rw [List.foldl_cons, ih]
    exact bytes_ext (by
      rw [bytesOf_ofBytes, bytesOf_ofBytes, bytesOf_append, bytesOf_ofBytes]
      simp)

def textR (C : Ctx) (get : Nat → Option AObj) (sT dT : TypeId) (x : Value) : Option Value :=
  match C.und sT, C.und dT with
  | some (.slice el), some .string => match C.und el with
    | some (.int .u8) => match x with
      | .slice none _ _ => some (.string (ofBytes []))
      | .slice (some ⟨b, o, none⟩) n _ => bif Nat.beq n 0 then some (.string (ofBytes [])) else match get b with
        | some (.cells cs _ _) => bif Nat.ble (o + n) cs.length then (match intsOf .u8 ((cs.drop o).take n) with
          | some ns => some (.string (ofBytes (ns.map fun n => UInt8.ofNat n.toNat)))
          | none => none) else none
        | _ => none
      | _ => none
    | some (.int .i32) => match x with
      | .slice none _ _ => some (.string (ofBytes []))
      | .slice (some ⟨b, o, none⟩) n _ => bif Nat.beq n 0 then some (.string (ofBytes [])) else match get b with
        | some (.cells cs _ _) => bif Nat.ble (o + n) cs.length then (match intsOf .i32 ((cs.drop o).take n) with
          | some ns => some (.string (ofBytes ((ns.map fun n => bytesOf (Utf8.encode n)).flatten)))
          | none => none) else none
        | _ => none
      | _ => none
    | _ => none
  | _, _ => none

theorem text_shape {C : Ctx} {μ : Mu} {nx : Nat} {get : Nat → Option AObj} {w : World} (h : HRg C μ nx get w) {b o n cap : Nat} {cs : List Value} {el : TypeId} {g : Bool} {k : IntKind} {ns : List Int} {x' : Value} (r : VR μ (.slice (some ⟨b, o, none⟩) n cap) x')
    (hb : get b = some (.cells cs el g)) (hle : o + n ≤ cs.length) (hi : intsOf k ((cs.drop o).take n) = some ns) (hn : n ≠ 0) :
    ∃ a cap', x' = .slice (some a) n cap' ∧ (loadCells a n).run C.P w = .ok (ns.map (Value.int k)).toArray w := by
  have main : ∀ c sh kk, μ b = some (c, sh, kk) → (loadCells ⟨c, sh + o, none⟩ n).run C.P w = .ok (ns.map (Value.int k)).toArray w := by
    intro c sh kk hm
    obtain ⟨vs, h1, h2, h3⟩ := cells_of h hb hm hle
    rw [h3, intsOf_eq hi h2]
  cases r with
  | slice hm _ => exact ⟨_, _, rfl, main _ _ _ hm⟩
  | sliceG hm _ _ => exact ⟨_, _, rfl, main _ _ _ hm⟩
  | sliceE => exact absurd rfl hn

theorem text_zero {P : Program} (a : Addr) (cap : Nat) (w : World) : (Conv.bytesToString (.slice (some a) 0 cap)).run P w = .ok (.string (ofBytes [])) w ∧ (Conv.runesToString (.slice (some a) 0 cap)).run P w = .ok (.string (ofBytes [])) w := by
  constructor
  · exact run_bytesToString (P := P) w a 0 cap [] (by simp [loadCells, loadCellsFrom])
  · exact run_runesToString (P := P) w a 0 cap [] (by simp [loadCells, loadCellsFrom])

theorem slice_zero {μ : Mu} {b o cap : Nat} {x' : Value} (r : VR μ (.slice (some ⟨b, o, none⟩) 0 cap) x') : ∃ a cap', x' = .slice (some a) 0 cap' := by
  cases r with
  | slice hm _ => exact ⟨_, _, rfl⟩
  | sliceG hm _ _ => exact ⟨_, _, rfl⟩
  | sliceE => exact ⟨_, _, rfl⟩

theorem textR_ok {C : Ctx} (hC : C.Ok) {μ : Mu} {nx : Nat} {get : Nat → Option AObj} {w : World} (h : HRg C μ nx get w) {sT dT : TypeId} {x x' v : Value} (e : textR C get sT dT x = some v) (r : VR μ x x') :
    ∃ v', (convert sT dT x').run C.P w = .ok v' w ∧ VR μ v v' := by
  unfold textR at e
  split at e
  · rename_i el hs hd
    have hs := run_underlying w (Ctx.und_ok hC hs)
    have hd := run_underlying w (Ctx.und_ok hC hd)
    split at e
    · rename_i hel
      have hel := run_underlying w (Ctx.und_ok hC hel)
      have pre : ∀ a n cap, (convert sT dT (.slice a n cap)).run C.P w = (Conv.bytesToString (.slice a n cap)).run C.P w := by
        intro a n cap
        simp only [convert, Sem.run_bind, hs, hd, Result.andThen_ok, hel]
      split at e
      · cases e; cases r
        exact ⟨_, by rw [pre]; rfl, .str _⟩
      · rename_i b o n cap
        cases hn : Nat.beq n 0 with
        | true =>
          rw [hn] at e; cases e
          have hn := Nat.eq_of_beq_eq_true hn
          subst hn
          obtain ⟨a, cap', rfl⟩ := slice_zero r
          exact ⟨_, by rw [pre]; exact (text_zero a cap' w).1, .str _⟩
        | false =>
          rw [hn] at e
          simp only [cond_false] at e
          have hn := (beq_false_iff _ _).1 hn
          split at e
          · rename_i cs el' g hb
            cases hle : Nat.ble (o + n) cs.length with
            | false => rw [hle] at e; cases e
            | true =>
              rw [hle] at e
              simp only [cond_true] at e
              split at e
              · rename_i ns hi
                cases e
                obtain ⟨a, cap', rfl, h1⟩ := text_shape h r hb (Nat.le_of_ble_eq_true hle) hi hn
                refine ⟨_, by rw [pre]; exact run_bytesToString w a n cap' ns h1, ?_⟩
                rw [foldl_push]
                exact .str _
              · cases e
          · cases e
      · cases e
    · rename_i hel
      have hel := run_underlying w (Ctx.und_ok hC hel)
      have pre : ∀ a n cap, (convert sT dT (.slice a n cap)).run C.P w = (Conv.runesToString (.slice a n cap)).run C.P w := by
        intro a n cap
        simp only [convert, Sem.run_bind, hs, hd, Result.andThen_ok, hel]
      split at e
      · cases e; cases r
        exact ⟨_, by rw [pre]; rfl, .str _⟩
      · rename_i b o n cap
        cases hn : Nat.beq n 0 with
        | true =>
          rw [hn] at e; cases e
          have hn := Nat.eq_of_beq_eq_true hn
          subst hn
          obtain ⟨a, cap', rfl⟩ := slice_zero r
          exact ⟨_, by rw [pre]; exact (text_zero a cap' w).2, .str _⟩
        | false =>
          rw [hn] at e
          simp only [cond_false] at e
          have hn := (beq_false_iff _ _).1 hn
          split at e
          · rename_i cs el' g hb
            cases hle : Nat.ble (o + n) cs.length with
            | false => rw [hle] at e; cases e
            | true =>
              rw [hle] at e
              simp only [cond_true] at e
              split at e
              · rename_i ns hi
                cases e
                obtain ⟨a, cap', rfl, h1⟩ := text_shape h r hb (Nat.le_of_ble_eq_true hle) hi hn
                refine ⟨_, by rw [pre]; exact run_runesToString w a n cap' ns h1, ?_⟩
                unfold runesBytes
                rw [foldl_enc]
                exact .str _
              · cases e
          · cases e
      · cases e
    · cases e
  · cases e

/-! ### Pointers held against each other -/

def ptrEq (C : Ctx) (get : Nat → Option AObj) (t : TypeId) (a b : Value) : Option Bool :=
  match C.und t, a, b with
  | some (.pointer el), .pointer (some ⟨p, o, none⟩), .pointer (some ⟨q, o', none⟩) => match C.ty el with
    | some i => bif Nat.beq i.size 0 then none else
        match get p, get q with
        | some (.cells _ _ false), some (.cells _ _ false) => some (Nat.beq p q && Nat.beq o o')
        | _, _ => none
    | none => none
  | _, _, _ => none

theorem block_of {C : Ctx} {μ : Mu} {nx : Nat} {get : Nat → Option AObj} {w : World} (h : HRg C μ nx get w) {b c sh k : Nat} {cs : List Value} {e : TypeId} (hb : get b = some (.cells cs e false)) (hm : μ b = some (c, sh, k)) :
    sh = 0 ∧ ∃ ca, w.heap[c]? = some (.cells ca e (0, 0)) ∧ ca.size = cs.length := by
  obtain ⟨c', sh', k', o', h1, h2, h3⟩ := h.obj b _ hb
  rw [hm] at h1; cases h1
  cases o' with
  | cells ca e' fz =>
    obtain ⟨a1, a2, a3⟩ := CellsR.exact_ h3 rfl
    have := CellsR.elem h3
    subst this; subst a3
    exact ⟨a1, ca, h2, a2⟩
  | _ => exact h3.elim

theorem ptrEq_ok {C : Ctx} (hC : C.Ok) {μ : Mu} {nx : Nat} {get : Nat → Option AObj} {w : World} (h : HRg C μ nx get w) {t : TypeId} {a b a' b' : Value} {r : Bool} (e : ptrEq C get t a b = some r) (ra : VR μ a a') (rb : VR μ b b') (x y : Operand) (op : BinOp) :
    (eqGuard op t x y a' b').run C.P w = .ok () w ∧ (Op.equal t a' b').run C.P w = .ok r w ∧
      (binOp .eql t a' b' = do pure (.bool (← Op.equal t a' b'))) ∧ (binOp .neq t a' b' = do pure (.bool (!(← Op.equal t a' b')))) := by
  unfold ptrEq at e
  split at e
  · rename_i el p o q o' hu
    have hu := run_underlying w (Ctx.und_ok hC hu)
    split at e
    · rename_i i hi
      have hsz := run_sizeOf w (hC.ty _ _ hi)
      cases hz : Nat.beq i.size 0 with
      | true => rw [hz] at e; cases e
      | false =>
        rw [hz] at e
        simp only [cond_false] at e
        have hz := (beq_false_iff _ _).1 hz
        split at e
        · rename_i cs1 e1 cs2 e2 g1 g2
          cases e
          cases ra with
          | @ptr _ _ c1 s1 k1 m1 =>
            cases rb with
            | @ptr _ _ c2 s2 k2 m2 =>
              obtain ⟨z1, ca1, b1, _⟩ := block_of h g1 m1
              obtain ⟨z2, ca2, b2, _⟩ := block_of h g2 m2
              subst z1; subst z2
              simp only [Nat.zero_add]
              refine ⟨?_, ?_, rfl, rfl⟩
              · unfold eqGuard; cases op <;> simp
              · rw [equal_succ]; unfold Op.equalIn
                simp only [Sem.run_bind, hu, Result.andThen_ok, hsz]
                rw [if_pos (by simpa using hz)]
                by_cases hpq : p = q
                · subst hpq
                  rw [m1] at m2; cases m2
                  have hpp : Nat.beq p p = true := (beq_true_iff p p).2 rfl
                  have ho : Nat.beq o o' = (o == o') := by
                    cases hq : Nat.beq o o' with
                    | true => have := (beq_true_iff _ _).1 hq; subst this; simp
                    | false => have := (beq_false_iff _ _).1 hq; simp [this]
                  have hab : ((⟨c1, o, none⟩ : Addr) == ⟨c1, o', none⟩) = (o == o') := by
                    rw [Bool.eq_iff_iff, beq_iff_eq, beq_iff_eq]
                    exact ⟨fun hh => (by cases hh; rfl), fun hh => (by rw [hh])⟩
                  simp [sameAddr, hpp, ho, hab]
                · have hpq' : Nat.beq p q = false := (beq_false_iff _ _).2 hpq
                  have hcc : c1 ≠ c2 := by
                    intro hh; subst hh
                    exact hpq (h.inj p q _ _ c1 _ _ _ _ g1 g2 m1 m2)
                  have f1 : ∀ i, w.frozen? ⟨c1, i, none⟩ = false := by intro i; simp [World.frozen?, b1]
                  have f2 : ∀ i, w.frozen? ⟨c2, i, none⟩ = false := by intro i; simp [World.frozen?, b2]
                  have sp1 : w.shape? c1 = some (e1, ca1.size) := by simp [World.shape?, b1]
                  have sp2 : w.shape? c2 = some (e2, ca2.size) := by simp [World.shape?, b2]
                  simp [sameAddr, hcc, f1, f2, noView, viewAt, sp1, sp2, mayBeOne, stringish, hpq']
        · cases e
    · cases e
  · cases e

def opR (C : Ctx) (e : Operand → Option Value) (o : Oper) (get : Nat → Option AObj) : Option Value :=
  match o.op with
  | .load t x => match e x with
    | some v => loadR C get t v
    | none => none
  | .lookup t m k ok => match e m, e k with
    | some a, some b => lookupR C get t a b ok
    | _, _ => none
  | .convert s d x => match e x with
    | some v => textR C get s d v
    | none => none
  | .binOp op t x y _ => match e x, e y with
    | some a, some b => match ptrEq C get t a b, op with
      | some r, .eql => some (.bool r)
      | some r, .neq => some (.bool (!r))
      | _, _ => none
    | _, _ => none
  | .call c => match c.callee, c.args.toList, c.argTypes.toList with
    | .builtin .len, [x], [t] => match C.und t, e x with
      | some (.map _ _), some (.map (some r)) => match get r with
        | some (.map es _) => some (.int .i64 es.length)
        | _ => none
      | _, _ => none
    | _, _, _ => none
  | _ => none

theorem run_value {P : Program} {w w' : World} {s : Sem Value} {v : Value} (h : s.run P w = .ok v w') : (do pure (Next.value (← s)) : Sem Next).run P w = .ok (.value v) w' := by simp [h]

theorem opR_ok {C : Ctx} (hC : C.Ok) {μ : Mu} {nx : Nat} {get : Nat → Option AObj} {w : World} (h : HRg C μ nx get w) {e : Operand → Option Value} {ρ : Operand → Value} {o : Oper} {v : Value} (he : OpR μ e ρ) (hv : opR C e o get = some v) :
    ∃ v', (execOp ρ o).run C.P w = .ok (.value v') w ∧ VR μ v v' := by
  unfold opR at hv
  split at hv
  · rename_i t x hop
    split at hv
    · rename_i u hx
      obtain ⟨v', h1, h2⟩ := loadR_ok hC h hv (he _ _ hx)
      exact ⟨v', by simp only [execOp, hop]; exact run_value h1, h2⟩
    · cases hv
  · rename_i t m k ok hop
    split at hv
    · rename_i a b ha hb
      obtain ⟨v', h1, h2⟩ := lookupR_ok hC h hv (he _ _ ha) (he _ _ hb)
      exact ⟨v', by simp only [execOp, hop]; exact run_value h1, h2⟩
    · cases hv
  · rename_i s d x hop
    split at hv
    · rename_i u hx
      obtain ⟨v', h1, h2⟩ := textR_ok hC h hv (he _ _ hx)
      exact ⟨v', by simp only [execOp, hop]; exact run_value h1, h2⟩
    · cases hv
  · rename_i op t x y yt hop
    split at hv
    · rename_i a b ha hb
      cases hp : ptrEq C get t a b with
      | none => rw [hp] at hv; cases hv
      | some r =>
        rw [hp] at hv
        obtain ⟨h1, h2, h3, h4⟩ := ptrEq_ok hC h hp (he _ _ ha) (he _ _ hb) x y op
        cases op <;> simp only at hv
        case eql =>
          cases hv
          exact ⟨.bool r, by simp only [execOp, hop]; exact run_value (by simp [h1, h3, h2]), .bool r⟩
        case neq =>
          cases hv
          exact ⟨.bool (!r), by simp only [execOp, hop]; exact run_value (by simp [h1, h4, h2]), .bool _⟩
        all_goals cases hv
    · cases hv
  · rename_i c hop
    split at hv
    · rename_i x t hcal hx ht
      split at hv
      · rename_i a b r hu hm
        have hu := run_underlying w (Ctx.und_ok hC hu)
        split at hv
        · rename_i es n hb
          cases hv
          have hr := he _ _ hm
          generalize hq : ρ x = q at hr
          cases hr with
          | @map _ cc sh k hmu =>
            obtain ⟨c', sh', k', o', h1, h2, h3⟩ := h.obj r _ hb
            rw [hmu] at h1; cases h1
            cases o' with
            | map es' n' =>
              have hl := h3.1.1
              have ea : c.args = #[x] := by rw [← Array.toArray_toList (xs := c.args), hx]
              have et : c.argTypes = #[t] := by rw [← Array.toArray_toList (xs := c.argTypes), ht]
              refine ⟨.int .i64 es.length, ?_, .int _ _⟩
              have hg : (getObj cc).run C.P w = .ok (.map es' n') w := by simp only [getObj, Sem.run, h2]
              simp only [execOp, hop, resolve, hcal, Sem.run_bind, Sem.run_pure, Result.andThen_ok, invoke, builtin, ea, et]
              have e2 : (#[x].map ρ : Array Value) = #[.map (some cc)] := by simp [hq]
              rw [e2]
              have : (Builtin.len_ #[t] o.type #[.map (some cc)]).run C.P w = .ok (.int .i64 es.length) w := by
                simp [Builtin.len_, hu, hg, goInt]
                rw [hl]; simp
              rw [this]; rfl
            | _ => exact h3.elim
        · cases hv
      · cases hv
    · cases hv
  · cases hv

end Go.Ai
