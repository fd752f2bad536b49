/-
  copy, delete; all operations that turn memory, in one.
-/
import Derived.Test.YtnmmcpaoaepedaaGreatDoorAiL
noncomputable section
namespace Go.Ai

def lenV : Value → Option Nat
  | .slice _ n _ => some n
  | .string s => some (bytesOf s).length
  | _ => none

theorem lenV_ok {P : Program} {μ : Mu} {x x' : Value} {n : Nat} (h : lenV x = some n) (r : VR μ x x') (w : World) : (Builtin.lenOf x').run P w = .ok n w := by
  unfold lenV at h
  split at h
  · cases h; cases r <;> rfl
  · cases h; cases r; simp [Builtin.lenOf, size_bytes]
  · cases h

def srcN (get : Nat → Option AObj) (size n : Nat) (x : Value) : Option (List Value) :=
  match x with
  | .slice (some ⟨b, o, none⟩) m _ => bif Nat.beq n 0 then some [] else match get b with
    | some (.cells cs _ _) => bif Nat.ble n m && Nat.ble (o + n * size) cs.length then some ((cs.drop o).take (n * size)) else none
    | _ => none
  | .slice none _ _ => bif Nat.beq n 0 then some [] else none
  | .string s => some (((bytesOf s).take n).map fun b => .int .u8 b.toNat)
  | _ => none

theorem srcN_ok {C : Ctx} {μ : Mu} {H : Hp} {w : World} (h : HR C μ H w) {size n : Nat} {x x' : Value} {vs : List Value} (e : srcN H.get size n x = some vs) (r : VR μ x x') :
    ∃ vs' : List Value, LR μ vs vs' ∧ (Builtin.firstCells size n x').run C.P w = .ok vs'.toArray w := by
  unfold srcN at e
  split at e
  · rename_i b o m cap
    cases hn : Nat.beq n 0 with
    | true =>
      rw [hn] at e; cases e
      have hn := Nat.eq_of_beq_eq_true hn
      subst hn
      refine ⟨[], LR.nil μ, ?_⟩
      cases r <;> simp [Builtin.firstCells, loadCells, loadCellsFrom]
    | false =>
      rw [hn] at e
      simp only [cond_false] at e
      have hn := (beq_false_iff _ _).1 hn
      split at e
      · rename_i cs el g hb
        cases hle : Nat.ble n m && Nat.ble (o + n * size) cs.length with
        | false => rw [hle] at e; cases e
        | true =>
          rw [hle] at e; cases e
          simp only [Bool.and_eq_true] at hle
          have h1 := Nat.le_of_ble_eq_true hle.1
          have h2 := Nat.le_of_ble_eq_true hle.2
          have main : ∀ c sh kk cap', μ b = some (c, sh, kk) → ∃ vs' : List Value, LR μ ((cs.drop o).take (n * size)) vs' ∧ (Builtin.firstCells size n (.slice (some ⟨c, sh + o, none⟩) m cap')).run C.P w = .ok vs'.toArray w := by
            intro c sh kk cap' hm
            obtain ⟨vs', _, p2, p3⟩ := cells_of h hb hm h2
            exact ⟨vs', p2, p3⟩
          cases r with
          | slice hm _ => exact main _ _ _ _ hm
          | sliceG hm _ _ => exact main _ _ _ _ hm
          | sliceE => omega
      · cases e
  · cases hn : Nat.beq n 0 with
    | false => rw [hn] at e; cases e
    | true =>
      rw [hn] at e; cases e
      cases r
      exact ⟨[], LR.nil μ, by simp [Builtin.firstCells]⟩
  · rename_i s
    cases e
    cases r
    refine ⟨((bytesOf s).take n).map fun b => .int .u8 b.toNat, ints_refl _ ?_, ?_⟩
    · intro v hv
      simp only [List.mem_map] at hv
      obtain ⟨b, _, rfl⟩ := hv
      rfl
    · have h2 : ((s.extract 0 n).data.map fun (b : UInt8) => Value.int .u8 b.toNat) = (((bytesOf s).take n).map fun b => Value.int .u8 b.toNat).toArray := by
        apply Array.ext'
        rw [Array.toList_map]
        have : (s.extract 0 n).data.toList = (bytesOf s).take n := by
          have h3 := congrArg bytesOf (bytesOf_extract s 0 n)
          rw [bytesOf_ofBytes, List.drop_zero, Nat.sub_zero] at h3
          exact h3
        rw [this]
      simp only [Builtin.firstCells, h2]; rfl
  · cases e

def copyW (C : Ctx) (H : Hp) (t : TypeId) (d x : Value) : Option (Value × Hp) :=
  match C.und t, d, lenV x with
  | some (.slice el), .slice base dn _, some m => match C.ty el, srcN H.get (match C.ty el with | some i => i.size | none => 0) (Nat.min m dn) x with
    | some _, some vs => match base with
      | none => bif Nat.beq (Nat.min m dn) 0 then some (.int .i64 (Nat.min m dn : Nat), H) else none
      | some ⟨b, o, none⟩ => bif Nat.beq (Nat.min m dn) 0 && vs.isEmpty then some (.int .i64 (Nat.min m dn : Nat), H) else
          bif Nat.beq dn 0 then none else
          match H.get b with
          | some (.cells cs e' g) => bif vs.all oneCell && Nat.ble (o + vs.length) cs.length then
              some (.int .i64 (Nat.min m dn : Nat), H.put b (some (.cells (splice cs o vs) e' g))) else none
          | _ => none
      | _ => none
    | _, _ => none
  | _, _, _ => none

theorem copyW_ok {C : Ctx} (hC : C.Ok) {μ : Mu} {H H' : Hp} {w : World} (h : HR C μ H w) {t xt ty : TypeId} {d d' x x' res : Value} (e : copyW C H t d x = some (res, H')) (r : VR μ d d') (rx : VR μ x x') :
    ∃ v' w', (Builtin.copy_ #[t, xt] ty #[d', x']).run C.P w = .ok v' w' ∧ VR μ res v' ∧ HR C μ H' w' ∧ Fwd μ H w μ H' w' := by
  unfold copyW at e
  split at e
  · rename_i el base dn dcap m hu hl
    have hu' := run_underlying w (Ctx.und_ok hC hu)
    have hlen := lenV_ok (P := C.P) hl rx w
    cases hi : C.ty el with
    | none => rw [hi] at e; cases e
    | some i =>
      rw [hi] at e
      simp only at e
      have hsz := run_sizeOf w (hC.ty _ _ hi)
      split at e
      · rename_i i' vs hii hsrc
        obtain ⟨vs', p1, p2⟩ := srcN_ok h hsrc rx
        have pre : ∀ (base' : Option Addr) (cap' : Nat), (Builtin.copy_ #[t, xt] ty #[.slice base' dn cap', x']).run C.P w = (do (match base' with | some a => storeCells a vs' | none => pure ()); pure (goInt (Nat.min m dn : Nat)) : Sem Value).run C.P w := by
          intro base' cap'
          have e1 : (#[t, xt] : Array TypeId)[0]? = some t := rfl
          have e3 : (#[Value.slice base' dn cap', x'] : Array Value)[0]? = some (.slice base' dn cap') := rfl
          have e4 : (#[Value.slice base' dn cap', x'] : Array Value)[1]? = some x' := rfl
          simp only [Builtin.copy_, e1, e3, e4, Sem.run_bind, hu', hsz, hlen, p2, Result.andThen_ok]
          cases base' <;> simp
        split at e
        · cases hz : Nat.beq (Nat.min m dn) 0 with
          | false => rw [hz] at e; cases e
          | true =>
            rw [hz] at e; cases e
            cases r
            exact ⟨_, w, by rw [pre]; rfl, .int _ _, h, Fwd.refl _ _ _⟩
        · rename_i b o
          cases hz : Nat.beq (Nat.min m dn) 0 && vs.isEmpty with
          | true =>
            rw [hz] at e; cases e
            simp only [Bool.and_eq_true, List.isEmpty_iff] at hz
            have hv0 : vs' = [] := List.eq_nil_of_length_eq_zero (by rw [← p1.1, hz.2]; rfl)
            subst hv0
            cases r with
            | slice => exact ⟨_, w, by rw [pre]; rfl, .int _ _, h, Fwd.refl _ _ _⟩
            | sliceG => exact ⟨_, w, by rw [pre]; rfl, .int _ _, h, Fwd.refl _ _ _⟩
            | sliceE => exact ⟨_, w, by rw [pre]; rfl, .int _ _, h, Fwd.refl _ _ _⟩
          | false =>
            rw [hz] at e
            simp only [cond_false] at e
            cases hdn : Nat.beq dn 0 with
            | true => rw [hdn] at e; cases e
            | false =>
              rw [hdn] at e
              simp only [cond_false] at e
              have hdn := (beq_false_iff _ _).1 hdn
              split at e
              · rename_i cs e' g hb
                cases hcc : vs.all oneCell && Nat.ble (o + vs.length) cs.length with
                | false => rw [hcc] at e; cases e
                | true =>
                  rw [hcc] at e; cases e
                  simp only [Bool.and_eq_true] at hcc
                  have main : ∀ c sh kk cap', μ b = some (c, sh, kk) → ∃ v' w', (Builtin.copy_ #[t, xt] ty #[.slice (some ⟨c, sh + o, none⟩) dn cap', x']).run C.P w = .ok v' w' ∧ VR μ (.int .i64 (Nat.min m dn : Nat)) v' ∧
                      HR C μ (H.put b (some (.cells (splice cs o vs) e' g))) w' ∧ Fwd μ H w μ (H.put b (some (.cells (splice cs o vs) e' g))) w' := by
                    intro c sh kk cap' hm
                    obtain ⟨w', a1, a2, a3⟩ := store_ok h hb hm p1 hcc.1 (Nat.le_of_ble_eq_true hcc.2)
                    exact ⟨_, w', by rw [pre]; simp only [Sem.run_bind, a1, Result.andThen_ok]; rfl, .int _ _, a2, a3⟩
                  cases r with
                  | slice hm _ => exact main _ _ _ _ hm
                  | sliceG hm _ _ => exact main _ _ _ _ hm
                  | sliceE => omega
              · cases e
        · cases e
      · cases e
  · cases e

def deleteW (C : Ctx) (H : Hp) (t : TypeId) (m k : Value) : Option (Value × Hp) :=
  match C.und t, m with
  | some (.map kt _), .map (some r) => match H.get r with
    | some (.map es n) => bif flat k && keyOk C es.isEmpty kt k then
        (match findI C kt k es with
        | some (some j) => some (.tuple #[], H.put r (some (.map (es.eraseIdx j) n)))
        | some none => some (.tuple #[], H.put r (some (.map es n)))
        | none => none) else none
    | _ => none
  | _, _ => none

theorem ER.erase {μ : Mu} {es es' : List MapEntry} {j : Nat} (h : ER μ es es') : ER μ (es.eraseIdx j) (es'.eraseIdx j) := by
  refine ⟨by rw [List.length_eraseIdx, List.length_eraseIdx, h.1], fun i e e' h1 h2 => ?_⟩
  rw [List.getElem?_eraseIdx] at h1 h2
  split at h1
  · rename_i hi; rw [if_pos hi] at h2; exact h.2 i e e' h1 h2
  · rename_i hi; rw [if_neg hi] at h2; exact h.2 _ e e' h1 h2

theorem deleteW_ok {C : Ctx} (hC : C.Ok) {μ : Mu} {H H' : Hp} {w : World} (h : HR C μ H w) {t kt' ty : TypeId} {m m' k k' res : Value} (e : deleteW C H t m k = some (res, H')) (r : VR μ m m') (rk : VR μ k k') :
    ∃ w', (Builtin.delete_ #[t, kt'] ty #[m', k']).run C.P w = .ok (.tuple #[]) w' ∧ res = .tuple #[] ∧ HR C μ H' w' ∧ Fwd μ H w μ H' w' := by
  unfold deleteW at e
  split at e
  · rename_i kt et b hu
    have hu := run_underlying w (Ctx.und_ok hC hu)
    split at e
    · rename_i es n hb
      cases hc : flat k && keyOk C es.isEmpty kt k with
      | false => rw [hc] at e; cases e
      | true =>
        rw [hc] at e
        simp only [cond_true] at e
        simp only [Bool.and_eq_true] at hc
        have hk := flat_eq hc.1 rk
        subst hk
        have hck := keyOk_ok hC hc.2 w
        have e1 : (#[t, kt'] : Array TypeId)[0]? = some t := rfl
        have e3 : (#[m', k'] : Array Value)[0]? = some m' := rfl
        have e4 : (#[m', k'] : Array Value)[1]? = some k' := rfl
        cases r with
        | @map _ c sh kk hm =>
          obtain ⟨es', h1, h2⟩ := map_obj h hb hm
          have hg := getObj_map (P := C.P) h1
          have hemp : es'.isEmpty = es.isEmpty := by
            have := h2.1; simp at this
            cases es with
            | nil => simp at this ⊢; exact Array.eq_empty_of_size_eq_zero this.symm
            | cons a l => simp at this; rw [List.isEmpty_cons, Array.isEmpty_eq_false_iff]; intro hh; rw [hh] at this; simp at this
          rw [← hemp] at hck
          split at e
          · rename_i j hf
            cases e
            obtain ⟨f1, f2⟩ := findI_ok hC w h2 hf
            have her : ER μ (es.eraseIdx j) (es'.eraseIdxIfInBounds j).toList := by
              have : (es'.eraseIdxIfInBounds j).toList = es'.toList.eraseIdx j := by
                unfold Array.eraseIdxIfInBounds
                split
                · simp
                · rename_i hj; rw [List.eraseIdx_of_length_le (by simpa using hj)]
              rw [this]; exact h2.erase
            obtain ⟨s1, s2, s3⟩ := setObj_ok (o₁ := .map (es.eraseIdx j) n) (p₁ := .map (es'.eraseIdxIfInBounds j) n) h hb hm h1 (by simp) ⟨her, rfl⟩
            refine ⟨_, ?_, rfl, s2, s3⟩
            simp only [Builtin.delete_, e1, e3, e4, Sem.run_bind, hu, Result.andThen_ok, hg, hck, f1, Option.map_some, s1]
            rfl
          · rename_i hf
            cases e
            obtain ⟨f1, f2⟩ := findI_ok hC w h2 hf
            obtain ⟨s1, s2, s3⟩ := setObj_ok (o₁ := .map es n) (p₁ := .map es' n) h hb hm h1 (by simp) ⟨h2, rfl⟩
            refine ⟨_, ?_, rfl, s2, s3⟩
            simp only [Builtin.delete_, e1, e3, e4, Sem.run_bind, hu, Result.andThen_ok, hg, hck, f1, Option.map_none, s1]
            rfl
          · cases e
    · cases e
  · cases e

/-- All operations that turn memory (but calls). -/
def opW (C : Ctx) (e : Operand → Option Value) (o : Oper) (H : Hp) : Option (Value × Hp) :=
  match o.op with
  | .store t x y => match e x, e y with
    | some a, some b => match storeW C H t a b with
      | some H' => some (undef, H')
      | none => none
    | _, _ => none
  | .mapUpdate t m k x | .insert t m k x => match e m, e k, e x with
    | some a, some b, some c => match updateW C H t a b c with
      | some H' => some (undef, H')
      | none => none
    | _, _, _ => none
  | .mapEntry t m k => match e m, e k with
    | some a, some b => entryW C H t a b
    | _, _ => none
  | .entryStore _ m s x => match e m, e s, e x with
    | some a, some b, some c => match entryStoreW H a b c with
      | some H' => some (undef, H')
      | none => none
    | _, _, _ => none
  | .next it isS => match e it with
    | some a => nextW H a isS
    | none => none
  | .call c => match c.callee, c.args.toList, c.argTypes.toList with
    | .builtin .append, [s, x], [t, xt] => match e s, e x, C.und xt with
      | some a, some b, some .string => appendW C H t a b
      | some a, some b, some (.slice _) => appendW C H t a b
      | _, _, _ => none
    | .builtin .copy, [d, x], [t, _] => match e d, e x with
      | some a, some b => copyW C H t a b
      | _, _ => none
    | .builtin .delete, [m, k], [t, _] => match e m, e k with
      | some a, some b => deleteW C H t a b
      | _, _ => none
    | _, _, _ => none
  | _ => none

theorem run_skip {P : Program} {w w' : World} {s : Sem Unit} (h : s.run P w = .ok () w') : (do s; pure Next.skip : Sem Next).run P w = .ok .skip w' := by simp [h]

theorem args2 {c : Call} {x y : Operand} {t u : TypeId} (hx : c.args.toList = [x, y]) (ht : c.argTypes.toList = [t, u]) (ρ : Operand → Value) : c.args.map ρ = #[ρ x, ρ y] ∧ c.argTypes = #[t, u] := by
  have ea : c.args = #[x, y] := by rw [← Array.toArray_toList (xs := c.args), hx]
  have et : c.argTypes = #[t, u] := by rw [← Array.toArray_toList (xs := c.argTypes), ht]
  exact ⟨by rw [ea]; simp, et⟩

theorem opW_ok {C : Ctx} (hC : C.Ok) {μ : Mu} {H H' : Hp} {w : World} (h : HR C μ H w) {e : Operand → Option Value} {ρ : Operand → Value} {o : Oper} {res : Value} (he : OpR μ e ρ) (hv : opW C e o H = some (res, H')) :
    Turns C μ H w (execOp ρ o) res H' := by
  unfold opW at hv
  split at hv
  · rename_i t x y hop
    split at hv
    · rename_i a b ha hb
      split at hv
      · rename_i H₁ hs
        cases hv
        obtain ⟨w', p1, p2, p3⟩ := storeW_ok hC h hs (he _ _ ha) (he _ _ hb)
        exact ⟨μ, .skip, w', by simp only [execOp, hop]; exact run_skip p1, .inl ⟨rfl, rfl⟩, p2, p3⟩
      · cases hv
    · cases hv
  · rename_i t m k x hop
    split at hv
    · rename_i a b c ha hb hc
      split at hv
      · rename_i H₁ hs
        cases hv
        obtain ⟨w', p1, p2, p3⟩ := updateW_ok hC h hs (he _ _ ha) (he _ _ hb) (he _ _ hc)
        exact ⟨μ, .skip, w', by simp only [execOp, hop]; exact run_skip p1, .inl ⟨rfl, rfl⟩, p2, p3⟩
      · cases hv
    · cases hv
  · rename_i t m k x hop
    split at hv
    · rename_i a b c ha hb hc
      split at hv
      · rename_i H₁ hs
        cases hv
        obtain ⟨w', p1, p2, p3⟩ := updateW_ok hC h hs (he _ _ ha) (he _ _ hb) (he _ _ hc)
        exact ⟨μ, .skip, w', by simp only [execOp, hop]; exact run_skip p1, .inl ⟨rfl, rfl⟩, p2, p3⟩
      · cases hv
    · cases hv
  · rename_i t m k hop
    split at hv
    · rename_i a b ha hb
      obtain ⟨v', w', p1, p2, p3, p4⟩ := entryW_ok hC h hv (he _ _ ha) (he _ _ hb)
      exact ⟨μ, .value v', w', by simp only [execOp, hop]; exact run_value p1, .inr ⟨v', rfl, p2⟩, p3, p4⟩
    · cases hv
  · rename_i t m s x hop
    split at hv
    · rename_i a b c ha hb hc
      split at hv
      · rename_i H₁ hs
        cases hv
        obtain ⟨w', p1, p2, p3⟩ := entryStoreW_ok (t := t) h hs (he _ _ ha) (he _ _ hb) (he _ _ hc)
        exact ⟨μ, .skip, w', by simp only [execOp, hop]; exact run_skip p1, .inl ⟨rfl, rfl⟩, p2, p3⟩
      · cases hv
    · cases hv
  · rename_i it isS hop
    split at hv
    · rename_i a ha
      obtain ⟨v', w', p1, p2, p3, p4⟩ := nextW_ok (t := o.type) h hv (he _ _ ha)
      exact ⟨μ, .value v', w', by simp only [execOp, hop]; exact run_value p1, .inr ⟨v', rfl, p2⟩, p3, p4⟩
    · cases hv
  · rename_i c hop
    split at hv
    · rename_i s x t xt hcal hx ht
      obtain ⟨ea, et⟩ := args2 hx ht ρ
      have go : ∀ a b, e s = some a → e x = some b → (C.P.underlying xt = some .string ∨ ∃ e', C.P.underlying xt = some (.slice e')) → appendW C H t a b = some (res, H') → Turns C μ H w (execOp ρ o) res H' := by
        intro a b ha hb hd hw
        obtain ⟨μ', v', w', p1, p2, p3, p4⟩ := appendW_ok (ty := o.type) hC h hw (he _ _ ha) (he _ _ hb) hd
        refine ⟨μ', .value v', w', ?_, .inr ⟨v', rfl, p2⟩, p3, p4⟩
        simp only [execOp, hop, resolve, hcal, Sem.run_bind, Sem.run_pure, Result.andThen_ok, invoke, builtin, ea, et, p1]
      split at hv
      · rename_i a b ha hb hd
        exact go a b ha hb (.inl (Ctx.und_ok hC hd)) hv
      · rename_i a b e' ha hb hd
        exact go a b ha hb (.inr ⟨e', Ctx.und_ok hC hd⟩) hv
      · cases hv
    · rename_i d x t xt hcal hx ht
      obtain ⟨ea, et⟩ := args2 hx ht ρ
      split at hv
      · rename_i a b ha hb
        obtain ⟨v', w', p1, p2, p3, p4⟩ := copyW_ok (xt := xt) (ty := o.type) hC h hv (he _ _ ha) (he _ _ hb)
        refine ⟨μ, .value v', w', ?_, .inr ⟨v', rfl, p2⟩, p3, p4⟩
        simp only [execOp, hop, resolve, hcal, Sem.run_bind, Sem.run_pure, Result.andThen_ok, invoke, builtin, ea, et, p1]
      · cases hv
    · rename_i m k t xt hcal hx ht
      obtain ⟨ea, et⟩ := args2 hx ht ρ
      split at hv
      · rename_i a b ha hb
        obtain ⟨w', p1, p2, p3, p4⟩ := deleteW_ok (kt' := xt) (ty := o.type) hC h hv (he _ _ ha) (he _ _ hb)
        refine ⟨μ, .value (.tuple #[]), w', ?_, .inr ⟨.tuple #[], rfl, by rw [p2]; exact flat_refl rfl⟩, p3, p4⟩
        simp only [execOp, hop, resolve, hcal, Sem.run_bind, Sem.run_pure, Result.andThen_ok, invoke, builtin, ea, et, p1]
      · cases hv
    · cases hv
  · cases hv

end Go.Ai
