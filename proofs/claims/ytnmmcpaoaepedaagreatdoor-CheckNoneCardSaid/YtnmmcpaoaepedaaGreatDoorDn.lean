import Derived.Test.YtnmmcpaoaepedaaGreatDoorInst
import Derived.Test.YtnmmcpaoaepedaaGreatDoorAiZ
import Derived.RecoverIn
noncomputable section
namespace Go.Proofs.YtnmmcpaoaepedaaGreatDoor
open Go Go.Ai

theorem size_enter (args : Array Value) (n : Nat) : n ≤ (args ++ Array.replicate (n - args.size) undef).size := by simp; omega

theorem put_get {a : Act} {t : Tmp} {v : Value} (h : t < a.tmps.size) : (a.put (some t) v).eval (.tmp t) = v := by
  simp [Act.put, Act.eval, h]
theorem put_get_ne {a : Act} {t u : Tmp} {v : Value} (h : t ≠ u) : (a.put (some t) v).eval (.tmp u) = a.eval (.tmp u) := by
  simp [Act.put, Act.eval, Array.getElem?_setIfInBounds_ne h]
theorem put_size {a : Act} {t : Option Tmp} {v : Value} : (a.put t v).tmps.size = a.tmps.size := by cases t <;> simp [Act.put]

theorem stepS_recover {P : Program} {F : Fence} (hF : ∀ f, F.fn f) {n : Nat} {ops : Array Oper} {Q : Exit → Act → List Frame → World → Prop} {i : Nat} {rest : List Nat} {o : Oper} {c : Call} {a : Act} {cs : List Frame} {w : World} (ho : ops[i]? = some o) (hg : o.guard = none) (hc : o.op = .call c)
    (hb : c.callee = .builtin .recover) (hr : recoverD cs = none) (h : wpOpsSIn F n P ops Q rest (a.put o.dst .nilIface) cs w) : wpOpsSIn F n P ops Q (i :: rest) a cs w := by
  have hrun : (execOp a.eval o).run P w = .ok .recover w := by simp [execOp, hc, resolve, hb, invoke, builtin]
  simp only [wpOpsSIn, ho]
  refine ⟨fun f _ => hF f, ?_⟩
  rw [if_pos (by simp [Region.wanted, hg]), hrun]
  simp only [hr]
  exact h

theorem stepS_value {P : Program} {F : Fence} (hF : ∀ f, F.fn f) {n : Nat} {ops : Array Oper} {Q : Exit → Act → List Frame → World → Prop} {i : Nat} {rest : List Nat} {o : Oper} {v : Value} {a : Act} {cs : List Frame} {w : World} (ho : ops[i]? = some o) (hg : o.guard = none)
    (hrun : (execOp a.eval o).run P w = .ok (.value v) w) (h : wpOpsSIn F n P ops Q rest (a.put o.dst v) cs w) : wpOpsSIn F n P ops Q (i :: rest) a cs w := by
  simp only [wpOpsSIn, ho]
  refine ⟨fun f _ => hF f, ?_⟩
  rw [if_pos (by simp [Region.wanted, hg]), hrun]
  exact h

theorem recover_none (n : Nat) (args : Array Value) (w : World) :
    CallsDIn Fence.wide n Tryz.prog 38 args .returning w (fun e u' w' => (∃ v, e = .returned v) ∧ u' = .returning ∧ w' = w) := by
  refine callsDIn_of_wpSIn (fn := Tryz.f38) Tryz.func38 rfl trivial fun c₀ cs hu => ?_
  generalize ha : ({ tmps := args ++ Array.replicate (Tryz.f38.ntmps - args.size) undef, defers := [] } : Act) = a
  have hsz : 18 ≤ a.tmps.size := by subst ha; exact size_enter args 18
  have hd : a.defers = [] := by subst ha; rfl
  have hrec : recoverD (c₀ :: cs) = none := by simp [recoverD, hu]
  have hw : ∀ f, Fence.wide.fn f := fun _ => trivial
  have r2 : List.range 2 = [0, 1] := rfl
  refine wpSIn_seq (wpSIn_region ?_)
  show wpOpsSIn _ _ _ _ _ [0, 1] a (c₀ :: cs) w
  refine stepS_recover hw rfl rfl rfl rfl hrec ?_
  refine stepS_value hw rfl rfl (v := .nilIface) ?_ ?_
  · show (pure (Next.value ((a.put (some 5) .nilIface).eval (.tmp 5))) : Sem Next).run Tryz.prog w = _
    rw [put_get (Nat.lt_of_lt_of_le (by decide) hsz)]; rfl
  show wpOpsSIn _ _ _ _ _ [] ((a.put (some 5) .nilIface).put (some 2) .nilIface) (c₀ :: cs) w
  generalize hb : ((a.put (some 5) .nilIface).put (some 2) .nilIface) = b
  have hbs : 18 ≤ b.tmps.size := by subst hb; rw [put_size, put_size]; exact hsz
  have hb2 : b.eval (.tmp 2) = .nilIface := by subst hb; exact put_get (by rw [put_size]; exact Nat.lt_of_lt_of_le (by decide) hsz)
  have hbd : b.defers = [] := by subst hb; exact hd
  show wpOpsSIn _ _ _ _ _ [] b (c₀ :: cs) w
  refine wpSIn_seq (wpSIn_region ?_)
  show wpOpsSIn _ _ _ _ _ [0, 1] b (c₀ :: cs) w
  refine stepS_value hw rfl rfl (v := .nilIface) ?_ ?_
  · show (pure (Next.value (b.eval (.tmp 2))) : Sem Next).run Tryz.prog w = _
    rw [hb2]; rfl
  show wpOpsSIn _ _ _ _ _ [1] (b.put (some 6) .nilIface) (c₀ :: cs) w
  generalize hc : b.put (some 6) .nilIface = c
  have hcs : 18 ≤ c.tmps.size := by subst hc; rw [put_size]; exact hbs
  have hc6 : c.eval (.tmp 6) = .nilIface := by subst hc; exact put_get (Nat.lt_of_lt_of_le (by decide) hbs)
  have hcd : c.defers = [] := by subst hc; exact hbd
  show wpOpsSIn _ _ _ _ _ [1] c (c₀ :: cs) w
  refine stepS_value hw rfl rfl (v := .bool false) ?_ ?_
  · have he : OpR (fun _ => none) (fun x => match x with | .tmp 6 => some Value.nilIface | .const v => bif flat v then some v else none | _ => none) c.eval := by
      intro x v hx
      simp only at hx
      split at hx
      · simp only [Option.some.injEq] at hx; subst hx; rw [hc6]; exact .nilIface
      · rename_i u
        cases hf : flat u with
        | false => rw [hf] at hx; cases hx
        | true => rw [hf] at hx; simp only [cond_true, Option.some.injEq] at hx; subst hx; exact flat_refl hf
      · cases hx
    obtain ⟨v', h1, h2⟩ := opP_ok C1_ok he (o := { dst := some 7, op := .binOp .neq 20 (.tmp 6) (.const .nilIface) 20, type := 4, pos := "read.go:385", after := #[{ on := 0, ground := .data }], guard := none }) (v := .bool false) (by kernel_rfl) w
    cases h2
    exact h1
  show wpOpsSIn _ _ _ _ _ [] (c.put (some 7) (.bool false)) (c₀ :: cs) w
  refine wpSIn_cond (t := false) (put_get (Nat.lt_of_lt_of_le (by decide) hcs)) ?_
  refine wpSIn_of_wpIn rfl (wpIn_skip ?_)
  refine ⟨hcd, .returning, ?_, .tuple #[], ?_, ⟨_, rfl⟩, rfl, rfl⟩
  · cases c₀; simp only at hu; subst hu; rfl
  · simp [results, Tryz.f38]

end Go.Proofs.YtnmmcpaoaepedaaGreatDoor
