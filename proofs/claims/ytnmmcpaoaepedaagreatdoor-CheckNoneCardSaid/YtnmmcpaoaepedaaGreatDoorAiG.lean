/-
  All operations that hang on no memory, in one.
-/
import Derived.Test.YtnmmcpaoaepedaaGreatDoorAiF
noncomputable section
namespace Go.Ai

def evalL (e : Operand → Option Value) : List Operand → Option (List Value)
  | [] => some []
  | x :: l => match e x with
    | some v => match evalL e l with
      | some r => some (v :: r)
      | none => none
    | none => none

def evalPs (e : Operand → Option Value) : List (Nat × Operand) → Option (List (Nat × Value))
  | [] => some []
  | (i, x) :: l => match e x with
    | some v => match evalPs e l with
      | some r => some ((i, v) :: r)
      | none => none
    | none => none

def evalO (e : Operand → Option Value) : Option Operand → Option (Option Value)
  | none => some none
  | some x => match e x with
    | some v => some (some v)
    | none => none

theorem evalL_ok {μ : Mu} {e : Operand → Option Value} {ρ : Operand → Value} (h : OpR μ e ρ) : ∀ {l : List Operand} {r : List Value}, evalL e l = some r → LR μ r (l.map ρ)
  | [], r, hr => by cases hr; exact LR.nil μ
  | x :: l, r, hr => by
    simp only [evalL] at hr
    cases hx : e x with
    | none => rw [hx] at hr; cases hr
    | some v =>
      rw [hx] at hr
      simp only at hr
      cases hl : evalL e l with
      | none => rw [hl] at hr; cases hr
      | some r' =>
        rw [hl] at hr; cases hr
        exact LR.cons (h _ _ hx) (evalL_ok h hl)

theorem evalPs_ok {μ : Mu} {e : Operand → Option Value} {ρ : Operand → Value} (h : OpR μ e ρ) : ∀ {l : List (Nat × Operand)} {r : List (Nat × Value)}, evalPs e l = some r →
    r.length = (l.map fun p => (p.1, ρ p.2)).length ∧ ∀ (i : Nat) (p p' : Nat × Value), r[i]? = some p → (l.map fun p => (p.1, ρ p.2))[i]? = some p' → p'.1 = p.1 ∧ VR μ p.2 p'.2
  | [], r, hr => by cases hr; simp
  | (j, x) :: l, r, hr => by
    simp only [evalPs] at hr
    cases hx : e x with
    | none => rw [hx] at hr; cases hr
    | some v =>
      rw [hx] at hr
      simp only at hr
      cases hl : evalPs e l with
      | none => rw [hl] at hr; cases hr
      | some r' =>
        rw [hl] at hr; cases hr
        obtain ⟨h1, h2⟩ := evalPs_ok h hl
        refine ⟨by simp [h1], fun i p p' a b => ?_⟩
        cases i with
        | zero => simp at a b; subst a; subst b; exact ⟨rfl, h _ _ hx⟩
        | succ i => exact h2 i p p' (by simpa using a) (by simpa using b)

theorem evalO_ok {μ : Mu} {e : Operand → Option Value} {ρ : Operand → Value} (h : OpR μ e ρ) {x : Option Operand} {r : Option Value} (hr : evalO e x = some r) : OpV μ r (x.map ρ) := by
  unfold evalO at hr
  cases x with
  | none => cases hr; trivial
  | some y =>
    simp only at hr
    cases hy : e y with
    | none => rw [hy] at hr; cases hr
    | some v => rw [hy] at hr; cases hr; exact h _ _ hy

def placesL (C : Ctx) : List Field → Option (List (Nat × Nat))
  | [] => some []
  | f :: l => match C.ty f.type with
    | some i => match placesL C l with
      | some r => some ((f.offset, i.size) :: r)
      | none => none
    | none => none

theorem placesL_ok {C : Ctx} (hC : C.Ok) (w : World) : ∀ {l : List Field} {r : List (Nat × Nat)}, placesL C l = some r →
    (l.mapM fun f => do pure (f.offset, ← sizeOf f.type) : Sem (List (Nat × Nat))).run C.P w = .ok r w
  | [], r, h => by cases h; rfl
  | f :: l, r, h => by
    simp only [placesL] at h
    cases hf : C.ty f.type with
    | none => rw [hf] at h; cases h
    | some i =>
      rw [hf] at h
      simp only at h
      cases hl : placesL C l with
      | none => rw [hl] at h; cases h
      | some r' =>
        rw [hl] at h; cases h
        have hsz := run_sizeOf w (hC.ty _ _ hf)
        have ih := placesL_ok hC w hl
        rw [List.mapM_cons]
        simp only [Sem.run_bind, hsz, Result.andThen_ok, Sem.run_pure, ih]

def buildP (C : Ctx) (t : TypeId) (parts : List (Nat × Value)) : Option Value :=
  match C.ty t, C.und t with
  | some i, some (.struct fs) => match i.zero, placesL C fs.toList with
    | some z, some ps => bif flat z then (match fillL (fun k => ps[k]?) (cellsL z) parts with
      | some cs => some (.agg cs.toArray)
      | none => none) else none
    | _, _ => none
  | some i, some (.array _ el) => match i.zero, C.ty el with
    | some z, some j => bif flat z then (match fillL (fun k => some (k * j.size, j.size)) (cellsL z) parts with
      | some cs => some (.agg cs.toArray)
      | none => none) else none
    | _, _ => none
  | _, _ => none

theorem buildP_ok {C : Ctx} (hC : C.Ok) {μ : Mu} {t : TypeId} {parts : List (Nat × Value)} {parts' : Array (Nat × Value)} {v : Value} (e : buildP C t parts = some v) (hl : parts.length = parts'.toList.length)
    (hp : ∀ (i : Nat) (p p' : Nat × Value), parts[i]? = some p → parts'.toList[i]? = some p' → p'.1 = p.1 ∧ VR μ p.2 p'.2) (w : World) : ∃ v', (Instr.build t parts').run C.P w = .ok v' w ∧ VR μ v v' := by
  unfold buildP at e
  split at e
  · rename_i i fs hi hu
    have hu := run_underlying w (Ctx.und_ok hC hu)
    split at e
    · rename_i z ps hz hps
      have hzr := run_zeroValue w (hC.ty _ _ hi) hz
      cases hf : flat z with
      | false => rw [hf] at e; cases e
      | true =>
        rw [hf] at e
        simp only [cond_true] at e
        split at e
        · rename_i cs hcs
          cases e
          have hzc : LR μ (cellsL z) z.cells.toList := by rw [cellsL_eq]; exact (flat_refl hf).cells
          obtain ⟨r', e1, e2⟩ := fillL_ok hcs hzc hl hp
          have hpl := placesL_ok hC w hps
          have hplA : (fs.mapM fun f => do pure (f.offset, ← sizeOf f.type) : Sem (Array (Nat × Nat))).run C.P w = .ok ps.toArray w := by
            rw [Array.mapM_eq_mapM_toList]
            simp only [Sem.run_map, hpl, Result.andThen_ok]
          have e1' : Instr.fill (fun k => ps.toArray[k]?) z.cells parts'.toList = some r' := by simpa using e1
          refine ⟨.agg r', ?_, ?_⟩
          · simp only [Instr.build, Sem.run_bind, hzr, Result.andThen_ok, hu, hplA, e1']; rfl
          · have h2 := e2.toArray
            simp only [Array.toArray_toList] at h2
            exact .agg h2.1 h2.2
        · cases e
    · cases e
  · rename_i i n el hi hu
    have hu := run_underlying w (Ctx.und_ok hC hu)
    split at e
    · rename_i z j hz hj
      have hzr := run_zeroValue w (hC.ty _ _ hi) hz
      have hsz := run_sizeOf w (hC.ty _ _ hj)
      cases hf : flat z with
      | false => rw [hf] at e; cases e
      | true =>
        rw [hf] at e
        simp only [cond_true] at e
        split at e
        · rename_i cs hcs
          cases e
          have hzc : LR μ (cellsL z) z.cells.toList := by rw [cellsL_eq]; exact (flat_refl hf).cells
          obtain ⟨r', e1, e2⟩ := fillL_ok hcs hzc hl hp
          refine ⟨.agg r', ?_, ?_⟩
          · simp only [Instr.build, Sem.run_bind, hzr, Result.andThen_ok, hu, hsz, e1]; rfl
          · have h2 := e2.toArray
            simp only [Array.toArray_toList] at h2
            exact .agg h2.1 h2.2
        · cases e
    · cases e
  · cases e

/-! ### What hangs on flat values alone -/

def allFlat (e : Operand → Option Value) : List Operand → Bool
  | [] => true
  | x :: l => match e x with
    | some v => bif flat v then allFlat e l else false
    | none => false

def valOf (e : Operand → Option Value) (x : Operand) : Value := match e x with | some v => v | none => undef

def noSelect (o : Oper) : Bool := match o.op with | .select _ _ => false | _ => true

def flatP (C : Ctx) (e : Operand → Option Value) (o : Oper) : Option Value :=
  bif allFlat e o.op.operands.toList && noSelect o then (match pureRun C.P (execOp (valOf e) o) with
    | some (.value v) => bif flat v then some v else none
    | _ => none) else none

theorem allFlat_ok {μ : Mu} {e : Operand → Option Value} {ρ : Operand → Value} (h : OpR μ e ρ) : ∀ {l : List Operand}, allFlat e l = true → ∀ x ∈ l, valOf e x = ρ x
  | [], _, x, hx => by cases hx
  | y :: l, hf, x, hx => by
    simp only [allFlat] at hf
    cases hy : e y with
    | none => rw [hy] at hf; cases hf
    | some v =>
      rw [hy] at hf
      simp only at hf
      cases hv : flat v with
      | false => rw [hv] at hf; cases hf
      | true =>
        rw [hv] at hf
        simp only [cond_true] at hf
        cases hx with
        | head => unfold valOf; rw [hy]; exact (flat_eq hv (h _ _ hy)).symm
        | tail _ hx => exact allFlat_ok h hf x hx

theorem flatP_ok {C : Ctx} {μ : Mu} {e : Operand → Option Value} {ρ : Operand → Value} {o : Oper} {v : Value} (he : OpR μ e ρ) (h : flatP C e o = some v) (w : World) :
    ∃ v', (execOp ρ o).run C.P w = .ok (.value v') w ∧ VR μ v v' := by
  unfold flatP at h
  cases hb : allFlat e o.op.operands.toList && noSelect o with
  | false => rw [hb] at h; cases h
  | true =>
    rw [hb] at h
    simp only [Bool.and_eq_true] at hb
    simp only [cond_true] at h
    have hs : ∀ cs b, o.op ≠ .select cs b := by
      intro cs b hh; have := hb.2; unfold noSelect at this; rw [hh] at this; cases this
    have hc : execOp (valOf e) o = execOp ρ o := execOp_congr o hs (fun x hx => allFlat_ok he hb.1 x (by simpa using hx))
    cases hp : pureRun C.P (execOp (valOf e) o) with
    | none => rw [hp] at h; cases h
    | some nx =>
      rw [hp] at h
      cases nx with
      | value u =>
        simp only at h
        cases hu : flat u with
        | false => rw [hu] at h; cases h
        | true =>
          rw [hu] at h; cases h
          rw [hc] at hp
          exact ⟨v, pureRun_ok hp w, flat_refl hu⟩
      | _ => simp at h

/-! ### All of them -/

def lenP (C : Ctx) (t : TypeId) (x : Value) : Option Value :=
  match C.und t, x with
  | some .string, .string s => some (.int .i64 (bytesOf s).length)
  | some (.slice _), .slice _ n _ => some (.int .i64 n)
  | some (.map _ _), .map none => some (.int .i64 0)
  | some (.array n _), _ => some (.int .i64 n)
  | _, _ => none

theorem lenP_ok {C : Ctx} (hC : C.Ok) {μ : Mu} {t ty : TypeId} {x x' v : Value} (e : lenP C t x = some v) (r : VR μ x x') (w : World) :
    (Builtin.len_ #[t] ty #[x']).run C.P w = .ok v w ∧ VR μ v v := by
  unfold lenP at e
  split at e
  · rename_i s hu
    have hu := run_underlying w (Ctx.und_ok hC hu)
    cases r; cases e
    refine ⟨?_, .int _ _⟩
    simp [Builtin.len_, hu, goInt, size_bytes]
  · rename_i n cap hu
    have hu := run_underlying w (Ctx.und_ok hC hu)
    cases e
    refine ⟨?_, .int _ _⟩
    cases r <;> simp [Builtin.len_, hu, goInt]
  · rename_i hu
    have hu := run_underlying w (Ctx.und_ok hC hu)
    cases r; cases e
    refine ⟨?_, .int _ _⟩
    simp [Builtin.len_, hu, goInt]
  · rename_i n hu
    have hu := run_underlying w (Ctx.und_ok hC hu)
    cases e
    refine ⟨?_, .int _ _⟩
    simp [Builtin.len_, hu, goInt]
  · cases e

def opP (C : Ctx) (e : Operand → Option Value) (o : Oper) : Option Value :=
  match o.op with
  | .move x | .assign x => e x
  | .pick c a b => match e c with
    | some (.bool true) => e a
    | some (.bool false) => e b
    | _ => none
  | .nilCheck x => match e x with
    | some (.pointer (some a)) => some (.pointer (some a))
    | some (.func (.func f) a b) => some (.func (.func f) a b)
    | _ => none
  | .binOp op t x y _ => match e x, e y with
    | some a, some b => match binP C op t x y a b with
      | some v => some v
      | none => flatP C e o
    | _, _ => none
  | .makeInterface t x => match e x, C.und t with
    | some _, some (.interface _) => none
    | some v, some _ => some (.iface t v)
    | _, _ => none
  | .makeFunc (.func f) a b => match evalL e a.toList, evalL e b.toList with
    | some l, some r => some (.func (.func f) l.toArray r.toArray)
    | _, _ => none
  | .slice t x lo hi none => match e x, evalO e lo, evalO e hi with
    | some v, some l, some h => sliceP C t v l h
    | _, _, _ => none
  | .fieldAddr t x f => match e x with
    | some v => fieldAddrP C t v f
    | none => none
  | .indexAddr t x i => match e x, e i with
    | some v, some n => indexAddrP C t v n
    | _, _ => none
  | .index t x i => match e x, e i with
    | some v, some n => indexP C t v n
    | _, _ => none
  | .field t x f => match e x with
    | some v => fieldP C t v f
    | none => none
  | .extract x i => match e x with
    | some v => extractP v i
    | none => none
  | .build t ps => match evalPs e ps.toList with
    | some l => buildP C t l
    | none => none
  | .convert s d x => match e x, C.und s, C.und d with
    | some (.int _ n), some _, some (.int k) => some (.int k (k.wrap n))
    | some (.int _ n), some _, some .string => some (.string (Utf8.encode n))
    | some (.string u), some _, some .string => some (.string u)
    | _, _, _ => none
  | .unOp _ _ _ => flatP C e o
  | .call c => match c.callee with
    | .builtin .len => bif Nat.beq c.args.size 1 && Nat.beq c.argTypes.size 1 then (match c.args.toList, c.argTypes.toList with
      | [x], [t] => match e x with
        | some v => lenP C t v
        | none => none
      | _, _ => none) else none
    | .builtin .min | .builtin .max => flatP C e o
    | _ => none
  | _ => none

theorem opP_ok {C : Ctx} (hC : C.Ok) {μ : Mu} {e : Operand → Option Value} {ρ : Operand → Value} {o : Oper} {v : Value} (he : OpR μ e ρ) (h : opP C e o = some v) (w : World) :
    ∃ v', (execOp ρ o).run C.P w = .ok (.value v') w ∧ VR μ v v' := by
  unfold opP at h
  split at h
  · rename_i x hop
    exact ⟨_, by simp [execOp, hop], he _ _ h⟩
  · rename_i x hop
    exact ⟨_, by simp [execOp, hop], he _ _ h⟩
  · rename_i c a b hop
    split at h
    · rename_i hc
      have hr := he _ _ hc
      generalize hq : ρ c = q at hr
      cases hr
      exact ⟨_, by simp [execOp, hop, hq, asBool], he _ _ h⟩
    · rename_i hc
      have hr := he _ _ hc
      generalize hq : ρ c = q at hr
      cases hr
      exact ⟨_, by simp [execOp, hop, hq, asBool], he _ _ h⟩
    · cases h
  · rename_i x hop
    split at h
    · rename_i a hx
      have hr := he _ _ hx
      cases h
      refine ⟨ρ x, ?_, hr⟩
      generalize hq : ρ x = q at hr ⊢
      cases hr
      simp only [execOp, hop, hq]; rfl
    · rename_i f a b hx
      have hr := he _ _ hx
      cases h
      refine ⟨ρ x, ?_, hr⟩
      generalize hq : ρ x = q at hr ⊢
      cases hr
      simp only [execOp, hop, hq]; rfl
    · cases h
  · rename_i op t x y yt hop
    split at h
    · rename_i a b hx hy
      cases hb : binP C op t x y a b with
      | some u =>
        rw [hb] at h; cases h
        obtain ⟨v', h1, h2⟩ := binP_ok (x := x) (y := y) hC hb (he _ _ hx) (he _ _ hy) w
        refine ⟨v', ?_, h2⟩
        simp only [execOp, hop]
        have : ∀ s : Sem Value, s.run C.P w = .ok v' w → (do pure (Next.value (← s)) : Sem Next).run C.P w = .ok (.value v') w := fun s hs => by simp [hs]
        exact this _ h1
      | none => rw [hb] at h; exact flatP_ok he h w
    · cases h
  · rename_i t x hop
    split at h
    · cases h
    · rename_i u d hn hx hu
      have hu := run_underlying w (Ctx.und_ok hC hu)
      cases h
      refine ⟨.iface t (ρ x), ?_, .iface (he _ _ hx)⟩
      simp only [execOp, hop, Sem.run_bind, Instr.makeInterface, hu, Result.andThen_ok]
      cases d <;> first | rfl | (exfalso; exact hn _ _ hx rfl)
    · cases h
  · rename_i f a b hop
    split at h
    · rename_i l r hl hr
      cases h
      have h1 : ArR μ l.toArray (a.map ρ) := by
        have := (evalL_ok he hl).toArray; rwa [show (a.toList.map ρ).toArray = a.map ρ from (by rw [← Array.toList_map])] at this
      have h2 : ArR μ r.toArray (b.map ρ) := by
        have := (evalL_ok he hr).toArray; rwa [show (b.toList.map ρ).toArray = b.map ρ from (by rw [← Array.toList_map])] at this
      exact ⟨.func (.func f) (a.map ρ) (b.map ρ), by simp [execOp, hop, Instr.makeFunc], .func (by simp) h1.1 h1.2 h2.1 h2.2⟩
    · cases h
  · rename_i t x lo hi hop
    split at h
    · rename_i u l k hx hl hk
      obtain ⟨v', h1, h2⟩ := sliceP_ok hC h (he _ _ hx) (evalO_ok he hl) (evalO_ok he hk) w
      exact ⟨v', by simp [execOp, hop, h1], h2⟩
    · cases h
  · rename_i t x f hop
    split at h
    · rename_i u hx
      obtain ⟨v', h1, h2⟩ := fieldAddrP_ok hC h (he _ _ hx) w
      exact ⟨v', by simp [execOp, hop, h1], h2⟩
    · cases h
  · rename_i t x i hop
    split at h
    · rename_i u n hx hi
      obtain ⟨v', h1, h2⟩ := indexAddrP_ok hC h (he _ _ hx) (he _ _ hi) w
      exact ⟨v', by simp [execOp, hop, h1], h2⟩
    · cases h
  · rename_i t x i hop
    split at h
    · rename_i u n hx hi
      obtain ⟨v', h1, h2⟩ := indexP_ok hC h (he _ _ hx) (he _ _ hi) w
      exact ⟨v', by simp [execOp, hop, h1], h2⟩
    · cases h
  · rename_i t x f hop
    split at h
    · rename_i u hx
      obtain ⟨v', h1, h2⟩ := fieldP_ok hC h (he _ _ hx) w
      exact ⟨v', by simp [execOp, hop, h1], h2⟩
    · cases h
  · rename_i x i hop
    split at h
    · rename_i u hx
      obtain ⟨v', h1, h2⟩ := extractP_ok (P := C.P) h (he _ _ hx) w
      exact ⟨v', by simp [execOp, hop, h1], h2⟩
    · cases h
  · rename_i t ps hop
    split at h
    · rename_i l hl
      obtain ⟨h1, h2⟩ := evalPs_ok he hl
      have e3 : (ps.map fun (p : Nat × Operand) => (p.1, ρ p.2)).toList = ps.toList.map fun p => (p.1, ρ p.2) := by simp
      obtain ⟨v', h3, h4⟩ := buildP_ok (parts' := ps.map fun (p : Nat × Operand) => (p.1, ρ p.2)) hC h (by rw [e3]; exact h1) (by rw [e3]; exact h2) w
      refine ⟨v', ?_, h4⟩
      simp only [execOp, hop]
      have e4 : (ps.map fun x => match x with | (i, x) => (i, ρ x)) = ps.map fun (p : Nat × Operand) => (p.1, ρ p.2) := rfl
      rw [e4]
      simp [h3]
    · cases h
  · rename_i s d x hop
    split at h
    · rename_i k' n sd k hx hs hd
      have hs := run_underlying w (Ctx.und_ok hC hs)
      have hd := run_underlying w (Ctx.und_ok hC hd)
      have hr := he _ _ hx
      generalize hq : ρ x = q at hr
      cases hr; cases h
      exact ⟨_, by simp [execOp, hop, hq, convert, hs, hd, Conv.intToInt], .int _ _⟩
    · rename_i k' n sd hx hs hd
      have hs := run_underlying w (Ctx.und_ok hC hs)
      have hd := run_underlying w (Ctx.und_ok hC hd)
      have hr := he _ _ hx
      generalize hq : ρ x = q at hr
      cases hr; cases h
      exact ⟨_, by simp [execOp, hop, hq, convert, hs, hd, Conv.intToString], .str _⟩
    · rename_i u sd hx hs hd
      have hs := run_underlying w (Ctx.und_ok hC hs)
      have hd := run_underlying w (Ctx.und_ok hC hd)
      have hr := he _ _ hx
      generalize hq : ρ x = q at hr
      cases hr; cases h
      exact ⟨_, by simp [execOp, hop, hq, convert, hs, hd], .str _⟩
    · cases h
  · exact flatP_ok he h w
  · rename_i c hop
    split at h
    · rename_i hcal
      cases hb : Nat.beq c.args.size 1 && Nat.beq c.argTypes.size 1 with
      | false => rw [hb] at h; cases h
      | true =>
        rw [hb] at h
        simp only [cond_true] at h
        split at h
        · rename_i x t hx ht
          split at h
          · rename_i u hu
            obtain ⟨h1, h2⟩ := lenP_ok (ty := o.type) hC h (he _ _ hu) w
            have ea : c.args = #[x] := by rw [← Array.toArray_toList (xs := c.args), hx]
            have et : c.argTypes = #[t] := by rw [← Array.toArray_toList (xs := c.argTypes), ht]
            refine ⟨v, ?_, h2⟩
            simp only [execOp, hop, resolve, hcal, Sem.run_bind, Sem.run_pure, Result.andThen_ok, invoke, builtin, ea, et]
            have : (#[x].map ρ : Array Value) = #[ρ x] := by simp
            rw [this, h1]; rfl
          · cases h
        · cases h
    · exact flatP_ok he h w
    · exact flatP_ok he h w
    · cases h
  · cases h

end Go.Ai
