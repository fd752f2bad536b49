/-
  The interpreter: regions, code, calls.
-/
import Derived.Test.YtnmmcpaoaepedaaGreatDoorAiM
noncomputable section
namespace Go.Ai

/-! ### Frames -/

/-- A leaf that is there is turned; elsewhere nothing. -/
def T.putC {α : Type} : T α → Nat → α → T α
  | .nil, _, _ => .nil
  | .tip a, i, v => match i with
    | 0 => .tip v
    | _ + 1 => .tip a
  | .bin l r, i, v => match Nat.mod i 2 with
    | 0 => .bin (T.putC l (Nat.div i 2) v) r
    | _ + 1 => .bin l (T.putC r (Nat.div i 2) v)

def T.put {α : Type} (t : T α) : Nat → α → T α :=
  T.rec (motive := fun _ => Nat → α → T α) (fun _ _ => .nil) (fun a i v => Nat.rec (motive := fun _ => T α) (.tip v) (fun _ _ => .tip a) i)
    (fun l r gl gr i v => Nat.rec (motive := fun _ => T α) (.bin (gl (Nat.div i 2) v) r) (fun _ _ => .bin l (gr (Nat.div i 2) v)) (Nat.mod i 2)) t

def T.lookC : T Value → Nat → Value
  | .nil, _ => undef
  | .tip a, i => match i with
    | 0 => a
    | _ + 1 => undef
  | .bin l r, i => match Nat.mod i 2 with
    | 0 => T.lookC l (Nat.div i 2)
    | _ + 1 => T.lookC r (Nat.div i 2)

def T.look (t : T Value) : Nat → Value :=
  T.rec (motive := fun _ => Nat → Value) (fun _ => undef) (fun a i => Nat.rec (motive := fun _ => Value) a (fun _ _ => undef) i)
    (fun _ _ gl gr i => Nat.rec (motive := fun _ => Value) (gl (Nat.div i 2)) (fun _ _ => gr (Nat.div i 2)) (Nat.mod i 2)) t

/-- So many leaves. -/
def T.full : Nat → Nat → T Value
  | 0, n => match n with
    | 0 => .nil
    | _ + 1 => .tip undef
  | d + 1, n => .bin (T.full d (Nat.div (Nat.succ n) 2)) (T.full d (Nat.div n 2))

structure Fr where
  n : Nat
  t : T Value
  ds : List Deferred
  ro : Option Nat

def Fr.get (F : Fr) (i : Nat) : Value := T.look F.t i
def Fr.set (F : Fr) (i : Nat) (v : Value) : Fr := { F with t := T.put F.t i v }

def evalA (C : Ctx) (F : Fr) : Operand → Option Value
  | .tmp t => some (F.get t)
  | .const v => bif flat v then some v else none
  | .global g => bif Nat.blt g C.ng then some (.pointer (some ⟨g, 0, none⟩)) else none
  | .func f => some (.func (.func f) #[] #[])

structure Env where
  C : Ctx
  dn : FuncId → Bool
  ext : FuncId → Option (List Value → Option Value)
  ov : FuncId → Option (List Value → Hp → Option (Value × Hp))
  plan : FuncId → Nat → Option (List (Nat × List Nat × List Nat))

/-- One level of the interpreter: code of a function, calls, rounds of a range over a function. -/
inductive Ex where
  | norm
  | exit (id : Nat)
  | goto (l : Nat)
  | ret

structure Lv where
  code : FuncId → Code → Fr → Hp → Option (Ex × Fr × Hp)
  call : FuncId → List Value → Hp → Option (Value × Hp)
  yield : Nat → List Value → Hp → Option (Value × Hp)

def putD (F : Fr) (d : Option Tmp) (v : Value) : Fr := match d with | some d => F.set d v | none => F

def yieldedA (ops : List Oper) (F : Fr) (j : Nat) : Option Bool :=
  match ops[j]? with
  | some o => match o.dst with
    | some t => match F.get t with
      | .bool b => some b
      | _ => none
    | none => none
  | none => none

inductive Cee where
  | fn (g : FuncId) (args : List Value)
  | yield (l : Nat) (args : List Value)

def calleeA (e : Operand → Option Value) (c : Call) : Option Cee :=
  match c.callee with
  | .value f => match e f, evalL e c.args.toList with
    | some (.func (.func g) first cap), some args => some (.fn g (first.toList ++ args ++ cap.toList))
    | some (.func (.yield l) _ _), some args => some (.yield l args)
    | _, _ => none
  | _ => none

def callW (E : Env) (L : Lv) (e : Operand → Option Value) (c : Call) (H : Hp) : Option (Value × Hp) :=
  match calleeA e c with
  | some (.fn g args) => match E.ext g with
    | some x => bif args.all flat then (match x args with
      | some v => bif flat v then some (v, H) else none
      | none => none) else none
    | none => L.call g args H
  | some (.yield l args) => L.yield l args H
  | none => none

def wrun (E : Env) (L : Lv) (o : Oper) (e : Operand → Option Value) (H : Hp) : Option (Value × Hp) :=
  match o.op with
  | .call c => match c.callee with
    | .value _ => callW E L e c H
    | _ => opW E.C e o H
  | _ => opW E.C e o H

def deferA (e : Operand → Option Value) (c : Call) : Option Deferred :=
  match c.callee with
  | .value f => match e f, evalL e c.args.toList with
    | some (.func (.func g) first cap), some args => some { target := .fn (.func g) cap, args := (first.toList ++ args).toArray }
    | _, _ => none
  | _ => none

inductive Kd where
  | p | a | r | w | d
  deriving DecidableEq

def kindOf (C : Ctx) (o : Oper) : Kd :=
  match o.op with
  | .defer _ => .d
  | .alloc _ | .box _ _ | .buildSlice _ _ _ | .makeMap _ _ | .makeSlice _ _ _ | .range _ _ => .a
  | .load _ _ | .lookup _ _ _ _ => .r
  | .convert s d _ => match C.und s, C.und d with
    | some .string, some (.slice _) => .a
    | some (.slice _), some .string => .r
    | some _, some (.int _) => .p
    | some (.int _), some .string => .p
    | some .string, some .string => .p
    | _, _ => .w
  | .binOp _ t _ _ _ => match C.und t with
    | some (.pointer _) => .r
    | _ => .p
  | .call c => match c.callee, c.argTypes.toList with
    | .builtin .len, [t] => match C.und t with
      | some (.map _ _) => .r
      | _ => .p
    | .builtin .min, _ => .p
    | .builtin .max, _ => .p
    | _, _ => .w
  | .move _ | .assign _ | .pick _ _ _ | .nilCheck _ | .unOp _ _ _ | .makeInterface _ _ | .makeFunc _ _ _ | .slice _ _ _ _ _ | .fieldAddr _ _ _ | .indexAddr _ _ _ | .index _ _ _ | .field _ _ _ | .extract _ _ | .build _ _ => .p
  | _ => .w

def op1 (E : Env) (L : Lv) (ops : List Oper) (o : Oper) (F : Fr) (H : Hp) : Option (Fr × Hp) :=
  bif Region.wanted o (yieldedA ops F) then
    match kindOf E.C o with
    | .p => match opP E.C (evalA E.C F) o with
      | some v => some (putD F o.dst v, H)
      | none => none
    | .a => match opA E.C (evalA E.C F) o with
      | some (ob, mk) => bif Nat.blt H.next (2 ^ depthH) then some (putD F o.dst (mk H.next), H.new ob) else none
      | none => none
    | .r => match opR E.C (evalA E.C F) o H.get with
      | some v => some (putD F o.dst v, H)
      | none => match opP E.C (evalA E.C F) o with
        | some v => some (putD F o.dst v, H)
        | none => none
    | .w => match wrun E L o (evalA E.C F) H with
      | some (v, H') => some (putD F o.dst v, H')
      | none => none
    | .d => match o.op, F.ro with
      | .defer c, none => match deferA (evalA E.C F) c with
        | some d => some ({ (putD F o.dst undef) with ds := d :: F.ds }, H)
        | none => none
      | _, _ => none
  else some (putD F o.dst undef, H)

def plainR (E : Env) (L : Lv) (ops : List Oper) : List Oper → Fr → Hp → Option (Fr × Hp)
  | [], F, H => some (F, H)
  | o :: rest, F, H => match op1 E L ops o F H with
    | some (F', H') => plainR E L ops rest F' H'
    | none => none

/-! ### A region whose order is drawn -/

def upd {α : Type} (f : Nat → Option α) (i : Nat) (x : Option α) : Nat → Option α := fun j => bif Nat.beq i j then x else f j

structure DS where
  F : Fr
  H : Hp
  N : Nat → Option AObj
  R : Nat → Option (((Nat → Option AObj) → Option Value) × Value)

def view (H : Hp) (N : Nat → Option AObj) (b : Nat) : Option AObj := match H.get b with | some o => some o | none => N b

def mergeA (base : Nat) : List Nat → Hp → (Nat → Option AObj) → Hp × (Nat → Option AObj)
  | [], H, N => (H, N)
  | i :: l, H, N => match N (base + i) with
    | some o => mergeA base l (H.put (base + i) (some o)) (upd N (base + i) none)
    | none => mergeA base l H N

/-- Values held against each other bit by bit. -/
def vbeq : Value → Value → Bool
  | .bool a, .bool b => a == b
  | .int k a, .int k' b => k == k' && a == b
  | .string a, .string b => eqBytes (bytesOf a) (bytesOf b)
  | .pointer none, .pointer none => true
  | .pointer (some a), .pointer (some b) => a == b
  | .slice none n m, .slice none n' m' => Nat.beq n n' && Nat.beq m m'
  | .slice (some a) n m, .slice (some b) n' m' => a == b && Nat.beq n n' && Nat.beq m m'
  | .map none, .map none => true
  | .map (some a), .map (some b) => Nat.beq a b
  | .nilFunc, .nilFunc => true
  | .nilIface, .nilIface => true
  | _, _ => false

def lbeq : List Value → List Value → Bool
  | [], [] => true
  | a :: l, b :: r => vbeq a b && lbeq l r
  | _, _ => false

def veq : Value → Value → Bool
  | .agg a, .agg b => lbeq a.toList b.toList
  | .func (.func f) a b, .func (.func g) c d => Nat.beq f g && lbeq a.toList c.toList && lbeq b.toList d.toList
  | a, b => vbeq a b

def watchOk (get : Nat → Option AObj) (R : Nat → Option (((Nat → Option AObj) → Option Value) × Value)) : List Nat → Bool
  | [] => true
  | j :: l => match R j with
    | some (rd, v) => match rd get with
      | some u => bif veq u v then watchOk get R l else false
      | none => false
    | none => watchOk get R l

def deff (E : Env) (L : Lv) (base : Nat) (s : Nat × List Nat × List Nat) (o : Oper) (e : Operand → Option Value) (H : Hp) (N : Nat → Option AObj) (R : Nat → Option (((Nat → Option AObj) → Option Value) × Value)) :
    Option (Value × Hp × (Nat → Option AObj) × (Nat → Option (((Nat → Option AObj) → Option Value) × Value))) :=
  match kindOf E.C o with
  | .p => match opP E.C e o with
    | some v => some (v, H, N, R)
    | none => none
  | .a => match opA E.C e o with
    | some (ob, mk) => some (mk (base + s.1), H, upd N (base + s.1) (some ob), R)
    | none => none
  | .r => match opP E.C e o with
    | some v => some (v, H, N, R)
    | none => match opR E.C e o (view H N) with
      | some v => some (v, H, N, upd R s.1 (some (opR E.C e o, v)))
      | none => none
  | .w => match mergeA base s.2.2 H N with
    | (H₁, N₁) => match wrun E L o e H₁ with
      | some (v, H₂) => bif watchOk (view H₂ N₁) R s.2.1 then some (v, H₂, N₁, R) else none
      | none => none
  | .d => none

def dstep (E : Env) (L : Lv) (ops : List Oper) (base : Nat) (s : Nat × List Nat × List Nat) (S : DS) : Option DS :=
  match ops[s.1]? with
  | none => none
  | some o =>
    bif Region.wanted o (yieldedA ops S.F) then
      match deff E L base s o (evalA E.C S.F) S.H S.N S.R with
      | some (v, H, N, R) => some { F := putD S.F o.dst v, H := H, N := N, R := R }
      | none => none
    else some { S with F := putD S.F o.dst undef }

def drun (E : Env) (L : Lv) (ops : List Oper) (base : Nat) : List (Nat × List Nat × List Nat) → DS → Option DS
  | [], S => some S
  | s :: rest, S => match dstep E L ops base s S with
    | some S' => drun E L ops base rest S'
    | none => none

def drawnR (E : Env) (L : Lv) (ops : List Oper) (plan : List (Nat × List Nat × List Nat)) (F : Fr) (H : Hp) : Option (Fr × Hp) :=
  bif Nat.ble (H.next + ops.length) (2 ^ depthH) then
    match drun E L ops H.next plan { F := F, H := { H with next := H.next + ops.length }, N := fun _ => none, R := fun _ => none } with
    | some S => some (S.F, (mergeA H.next (List.range ops.length) S.H S.N).1)
    | none => none
  else none

/-! ### Code -/

def iterA (step : Fr → Hp → Option (Ex × Fr × Hp)) : Nat → Fr → Hp → Option (Ex × Fr × Hp)
  | 0, _, _ => none
  | k + 1, F, H => match step F H with
    | some (.norm, F', H') => iterA step k F' H'
    | r => r

def gotoA (run : Code → Fr → Hp → Option (Ex × Fr × Hp)) (body : Code) : Nat → Nat → Fr → Hp → Option (Ex × Fr × Hp)
  | 0, _, _, _ => none
  | k + 1, l, F, H => match findLabel body l with
    | none => some (.goto l, F, H)
    | some rest => match run rest F H with
      | some (.goto l', F', H') => gotoA run body k l' F' H'
      | r => r

def Fr.arr (F : Fr) : Array Value := ((List.range F.n).map F.get).toArray

def putAll : Nat → List Value → T Value → T Value
  | _, [], t => t
  | i, v :: l, t => putAll (i + 1) l (T.put t i v)

def depthOf (n : Nat) : Nat := Nat.succ (Nat.log2 n)

def frOf (n : Nat) (l : List Value) (ro : Option Nat) : Fr := { n := n, t := putAll 0 l (T.full (depthOf n) n), ds := [], ro := ro }

def rangeA (L : Lv) (C : Ctx) (fn : FuncId) (f : Operand) (params : Array Tmp) (assign body : Code) (F : Fr) (H : Hp) : Option (Ex × Fr × Hp) :=
  match evalA C F f with
  | some (.func (.func g) first cap) =>
    match (match F.ro with
      | some l => match H.get l with
        | some (.loop r) => some (r.defers, H, [])
        | _ => none
      | none => bif Nat.blt H.next (2 ^ depthH) then some (H.next, H.new (.defs (some [])), [({ target := .collected H.next, args := #[] } : Deferred)]) else none : Option (Nat × Hp × List Deferred)) with
    | some (dfs, H₁, marks) =>
      bif Nat.blt H₁.next (2 ^ depthH) then
        match L.call g (first.toList ++ [.func (.yield H₁.next) #[] #[]] ++ cap.toList) (H₁.new (.loop { state := .ready, pending := none, fn, tmps := F.arr, params, assign, body, defers := dfs })) with
        | some (_, H₃) => match H₃.get H₁.next with
          | some (.loop r) => match r.state with
            | .busy => none
            | _ => match r.pending with
              | none => some (.norm, { F with ds := marks ++ F.ds }, H₃.put H₁.next (some (.loop { r with state := .exhausted })))
              | some .ret => some (.ret, { F with ds := marks ++ F.ds }, H₃.put H₁.next (some (.loop { r with state := .exhausted })))
              | some (.exit id) => some (.exit id, { F with ds := marks ++ F.ds }, H₃.put H₁.next (some (.loop { r with state := .exhausted })))
              | some (.goto l) => some (.goto l, { F with ds := marks ++ F.ds }, H₃.put H₁.next (some (.loop { r with state := .exhausted })))
              | _ => none
          | _ => none
        | none => none
      else none
    | none => none
  | _ => none

def codeA (E : Env) (k : Nat) (L : Lv) (fn : FuncId) : Code → Fr → Hp → Option (Ex × Fr × Hp)
  | .skip, F, H => some (.norm, F, H)
  | .label _, F, H => some (.norm, F, H)
  | .region id ops draw, F, H =>
    bif draw then (match E.plan fn id with
      | some p => match drawnR E L ops.toList p F H with
        | some (F', H') => some (.norm, F', H')
        | none => none
      | none => none)
    else match plainR E L ops.toList ops.toList F H with
      | some (F', H') => some (.norm, F', H')
      | none => none
  | .seq a b, F, H => match codeA E k L fn a F H with
    | some (.norm, F', H') => codeA E k L fn b F' H'
    | r => r
  | .cond c a b, F, H => match evalA E.C F c with
    | some (.bool true) => codeA E k L fn a F H
    | some (.bool false) => codeA E k L fn b F H
    | _ => none
  | .block id b, F, H => match codeA E k L fn b F H with
    | some (.exit id', F', H') => bif Nat.beq id' id then some (.norm, F', H') else some (.exit id', F', H')
    | r => r
  | .loop b, F, H => iterA (fun F H => codeA E k L fn b F H) k F H
  | .rangeFunc f ps as_ b, F, H => rangeA L E.C fn f ps as_ b F H
  | .exit id, F, H => some (.exit id, F, H)
  | .scope b, F, H => match codeA E k L fn b F H with
    | some (.goto l, F', H') => gotoA (L.code fn) b k l F' H'
    | r => r
  | .goto l, F, H => some (.goto l, F, H)
  | .ret, F, H => some (.ret, F, H)
  | .refuse _, _, _ => none

def unwindA (E : Env) : List Deferred → Hp → Option Hp
  | [], H => some H
  | d :: ds, H => match d.target with
    | .collected r => match H.get r with
      | some (.defs (some [])) => unwindA E ds (H.put r (some (.defs none)))
      | _ => none
    | .fn (.func g) _ => bif E.dn g then unwindA E ds H else none
    | _ => none

def resultsA (C : Ctx) (get : Nat → Option AObj) (F : Fr) : List ResultVar → Option (List Value)
  | [] => some []
  | .tmp t :: l => match resultsA C get F l with
    | some r => some (F.get t :: r)
    | none => none
  | .cell a t :: l => match F.get a with
    | .pointer (some p) => match loadR C get t (.pointer (some p)), resultsA C get F l with
      | some v, some r => some (v :: r)
      | _, _ => none
    | _ => none

def oneOf (vs : List Value) : Value := match vs with | [v] => v | vs => .tuple vs.toArray

def callA (E : Env) (L : Lv) (g : FuncId) (args : List Value) (H : Hp) : Option (Value × Hp) :=
  match E.ov g with
  | some x => x args H
  | none => match E.C.fn g with
    | some fn => match fn.body with
      | some body => (match L.code g body (frOf (max args.length fn.ntmps) args none) H with
        | some (ex, F, H₁) => match ex with
          | .norm | .ret => match unwindA E F.ds H₁ with
            | some H₂ => match resultsA E.C H₂.get F fn.results.toList with
              | some vs => some (oneOf vs, H₂)
              | none => none
            | none => none
          | _ => none
        | none => none)
      | none => none
    | none => none

def jumpOf : Ex → Option Code
  | .norm => none
  | .ret => some .ret
  | .exit id => some (.exit id)
  | .goto l => some (.goto l)

def zipSet : List (Tmp × Value) → Array Value → Array Value
  | [], t => t
  | (i, v) :: l, t => zipSet l (t.setIfInBounds i v)

def yieldA (E : Env) (L : Lv) (l : Nat) (args : List Value) (H : Hp) : Option (Value × Hp) :=
  match H.get l with
  | some (.loop r) => bif Nat.beq args.length r.params.size then
      (match L.code r.fn r.assign (frOf r.tmps.size (zipSet (r.params.toList.zip args) r.tmps).toList (some l)) H with
      | some (.norm, F₁, H₁) => match H₁.get l with
        | some (.loop r₁) => match r₁.state with
          | .ready => match L.code r.fn r.body F₁ (H₁.put l (some (.loop { r₁ with state := .busy }))) with
            | some (ex, F₂, H₂) => bif F₂.ds.isEmpty then (match H₂.get l with
              | some (.loop r₂) => some (.bool (jumpOf ex).isNone, H₂.put l (some (.loop { r₂ with state := if (jumpOf ex).isNone then .ready else .done, pending := jumpOf ex })))
              | _ => none) else none
            | none => none
          | _ => none
        | _ => none
      | _ => none) else none
  | _ => none

def level (E : Env) : Nat → Lv
  | 0 => { code := fun _ _ _ _ => none, call := fun _ _ _ => none, yield := fun _ _ _ => none }
  | n + 1 => { code := fun fn c F H => codeA E n (level E n) fn c F H, call := fun g args H => callA E (level E n) g args H, yield := fun l args H => yieldA E (level E n) l args H }

end Go.Ai
