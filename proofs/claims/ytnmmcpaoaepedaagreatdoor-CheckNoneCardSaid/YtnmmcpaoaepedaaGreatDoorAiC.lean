/-
  The operations that hang on no memory: what the interpreter makes of them is what the model makes of them.
-/
import Derived.Test.YtnmmcpaoaepedaaGreatDoorAiB
import Derived.Laws.Strings
noncomputable section
namespace Go.Ai

/-- The operands' values are related. -/
def OpR (μ : Mu) (e : Operand → Option Value) (ρ : Operand → Value) : Prop := ∀ x v, e x = some v → VR μ v (ρ x)

/-! ### Pure computations -/

def pureRun {α : Type} (P : Program) : Sem α → Option α
  | .pure a => some a
  | .program k => pureRun P (k P)
  | .mark _ k => pureRun P k
  | .choose q k => if q.forced then pureRun P (k 0) else none
  | _ => none

theorem pureRun_ok {α : Type} {P : Program} {s : Sem α} {a : α} (h : pureRun P s = some a) (w : World) : s.run P w = .ok a w := by
  induction s with
  | pure b => simp [pureRun] at h; simp [Sem.run, h]
  | program k ih => simp only [pureRun] at h; simp only [Sem.run]; exact ih _ h
  | mark m k ih => simp only [pureRun] at h; simp only [Sem.run]; exact ih h
  | choose q k ih =>
    simp only [pureRun] at h
    split at h
    · rename_i hq; simp only [Sem.run, hq, if_true]; exact ih _ h
    · cases h
  | _ => simp [pureRun] at h

/-! ### Integers, strings -/

def bitsOf (k : IntKind) (f : BitVec k.bits → BitVec k.bits → BitVec k.bits) (x y : Int) : Value :=
  .int k (k.wrap (f (BitVec.ofInt k.bits x) (BitVec.ofInt k.bits y)).toNat)

def binInt (op : BinOp) (k : IntKind) (x : Int) (k' : IntKind) (y : Int) : Option Value :=
  match op with
  | .shl => if y < 0 then none else some (.int k (k.wrap (x * 2 ^ (min y.toNat k.bits))))
  | .shr => if y < 0 then none else some (.int k (x.fdiv (2 ^ (min y.toNat k.bits))))
  | op => if k = k' then
      match op with
      | .add => some (.int k (k.wrap (x + y)))
      | .sub => some (.int k (k.wrap (x - y)))
      | .mul => some (.int k (k.wrap (x * y)))
      | .quo => if y = 0 then none else some (.int k (k.wrap (x.tdiv y)))
      | .rem => if y = 0 then none else some (.int k (x.tmod y))
      | .and => some (bitsOf k (· &&& ·) x y)
      | .or => some (bitsOf k (· ||| ·) x y)
      | .xor => some (bitsOf k (· ^^^ ·) x y)
      | .andNot => some (bitsOf k (fun a b => a &&& ~~~b) x y)
      | .eql => some (.bool (x == y))
      | .neq => some (.bool (x != y))
      | .lss => some (.bool (decide (x < y)))
      | .leq => some (.bool (decide (x ≤ y)))
      | .gtr => some (.bool (decide (x > y)))
      | .geq => some (.bool (decide (x ≥ y)))
      | _ => none
    else none

theorem binInt_ok {P : Program} {op : BinOp} {t : TypeId} {x y : Operand} {k k' : IntKind} {a b : Int} {v : Value} (w : World) (h : binInt op k a k' b = some v) :
    (do eqGuard op t x y (.int k a) (.int k' b); binOp op t (.int k a) (.int k' b) : Sem Value).run P w = .ok v w := by
  have hg : (eqGuard op t x y (.int k a) (.int k' b)).run P w = .ok () w := by
    unfold eqGuard; cases op <;> simp
  simp only [Sem.run_bind, hg, Result.andThen_ok]
  unfold binInt at h
  cases op
  case shl =>
    simp only at h; split at h
    · cases h
    · rename_i hb; cases h; simp [hg, binOp, Op.shift, if_neg hb]
  case shr =>
    simp only at h; split at h
    · cases h
    · rename_i hb; cases h; simp [hg, binOp, Op.shift, if_neg hb]
  all_goals
    simp only at h
    by_cases hk : k = k'
    · subst hk
      simp only [if_true] at h
      first
        | (simp_all [binOp, Op.intArith, Op.intBits, Op.intCmp, bitsOf]; done)
        | (by_cases hb : b = 0
           · simp_all
           · simp_all [binOp, Op.intDiv])
    · simp_all

def bytesOf (s : ByteArray) : List UInt8 := s.data.toList
def ofBytes (l : List UInt8) : ByteArray := ⟨⟨l⟩⟩

theorem bytesOf_ofBytes (l : List UInt8) : bytesOf (ofBytes l) = l := rfl
theorem ofBytes_bytesOf (s : ByteArray) : ofBytes (bytesOf s) = s := rfl

theorem toList_eq (s : ByteArray) : s.toList = bytesOf s := ByteArray.toList_eq s
theorem bytes_ext {a b : ByteArray} (h : bytesOf a = bytesOf b) : a = b := by rw [← ofBytes_bytesOf a, ← ofBytes_bytesOf b, h]
theorem bytesOf_append (a b : ByteArray) : a ++ b = ofBytes (bytesOf a ++ bytesOf b) := bytes_ext (ByteArray.toList_data_append)
theorem size_bytes (s : ByteArray) : s.size = (bytesOf s).length := by unfold bytesOf; rw [Array.length_toList]; rfl
theorem bytesOf_extract (s : ByteArray) (a b : Nat) : s.extract a b = ofBytes (((bytesOf s).drop a).take (b - a)) := bytes_ext (by
  show (s.extract a b).data.toList = _
  rw [ByteArray.data_extract, Array.toList_extract]; rfl)

def eqBytes : List UInt8 → List UInt8 → Bool
  | [], [] => true
  | a :: x, b :: y => bif Nat.beq a.toNat b.toNat then eqBytes x y else false
  | _, _ => false
theorem eqBytes_eq : ∀ x y : List UInt8, eqBytes x y = (x == y)
  | [], [] => rfl
  | [], _ :: _ => rfl
  | _ :: _, [] => rfl
  | a :: x, b :: y => by
    unfold eqBytes
    rw [eqBytes_eq x y]
    by_cases h : a = b
    · subst h; simp
    · have h1 : Nat.beq a.toNat b.toNat = false := by
        cases e : Nat.beq a.toNat b.toNat with
        | false => rfl
        | true => exact absurd (UInt8.toNat_inj.1 (Nat.eq_of_beq_eq_true e)) h
      simp [h1, h]

def binStr (op : BinOp) (x y : ByteArray) : Option Value :=
  match op with
  | .add => bif Nat.blt ((bytesOf x).length + (bytesOf y).length) 9223372036854775808 then some (.string (ofBytes (bytesOf x ++ bytesOf y))) else none
  | .eql => some (.bool (eqBytes (bytesOf x) (bytesOf y)))
  | .neq => some (.bool (!eqBytes (bytesOf x) (bytesOf y)))
  | .lss => some (.bool (Op.bytesLess (bytesOf x) (bytesOf y)))
  | .leq => some (.bool (Op.bytesLess (bytesOf x) (bytesOf y) || eqBytes (bytesOf x) (bytesOf y)))
  | .gtr => some (.bool !(Op.bytesLess (bytesOf x) (bytesOf y) || eqBytes (bytesOf x) (bytesOf y)))
  | .geq => some (.bool !(Op.bytesLess (bytesOf x) (bytesOf y)))
  | _ => none

theorem binStr_ok {P : Program} {op : BinOp} {t : TypeId} {x y : Operand} {a b : ByteArray} {v : Value} (w : World) (h : binStr op a b = some v) :
    (do eqGuard op t x y (.string a) (.string b); binOp op t (.string a) (.string b) : Sem Value).run P w = .ok v w := by
  have hg : (eqGuard op t x y (.string a) (.string b)).run P w = .ok () w := by
    unfold eqGuard; cases op <;> simp
  simp only [Sem.run_bind, hg, Result.andThen_ok]
  unfold binStr at h
  cases op
  case add =>
    simp only at h
    cases hs : Nat.blt ((bytesOf a).length + (bytesOf b).length) 9223372036854775808 with
    | false => rw [hs] at h; cases h
    | true =>
      rw [hs] at h
      simp only [cond_true, Option.some.injEq] at h
      have h2 := (blt_iff _ _).1 hs
      have h3 : ¬ (((a.size + b.size : Nat) : Int) > IntKind.i64.max) := by
        rw [size_bytes, size_bytes]
        have : IntKind.i64.max = 9223372036854775807 := by rfl
        rw [this]; omega
      simp only [binOp, Op.stringOp]
      rw [if_neg h3, ← h, bytesOf_append]; rfl
  all_goals (simp only at h; first | (cases h; done) | (simp only [Option.some.injEq] at h; simp only [binOp, Op.stringOp, eqBytes_eq, toList_eq, ← h]; rfl))

end Go.Ai
