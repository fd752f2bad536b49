/-
  What the interpreter's level promises; one operation; a region in the order of its text.
-/
import Derived.Test.YtnmmcpaoaepedaaGreatDoorAiO
noncomputable section
namespace Go.Ai

theorem flat_list_eq {μ : Mu} : ∀ {l l' : List Value}, l.all flat = true → LR μ l l' → l = l'
  | [], [], _, _ => rfl
  | [], _ :: _, _, h => by have := h.1; simp at this
  | _ :: _, [], _, h => by have := h.1; simp at this
  | a :: l, b :: l', hf, h => by
    simp only [List.all_cons, Bool.and_eq_true] at hf
    rw [flat_eq hf.1 h.head, flat_list_eq hf.2 h.tail]

def Ex.exit' : Ex → Exit
  | .norm => .normal
  | .exit id => .exit id
  | .goto l => .goto l
  | .ret => .ret

def FR (ro : Option Nat) : Fence := match ro with
  | none => Fence.wide
  | some l => Fence.wide.inRound l

theorem FR_fn (ro : Option Nat) (f : FuncId) : (FR ro).fn f := by cases ro <;> trivial
theorem FR_round (ro : Option Nat) : (FR ro).round = ro := by cases ro <;> rfl
theorem FR_depth (ro : Option Nat) : (FR ro).depth = none := by cases ro <;> rfl
theorem FR_calls {ro : Option Nat} {n n' : Nat} {P : Program} {f : FuncId} {args : Array Value} {w : World} {R : Ending → World → Prop} (h : CallsIn Fence.wide n P f args w R) : CallsIn (FR ro) n' P f args w R := by
  have h' : CallsIn Fence.wide n' P f args w R := callsIn_wide.2 (callsIn_wide.1 h)
  cases ro with
  | none => exact h'
  | some l => exact CallsIn.inRound l h'
theorem FR_rounds {ro : Option Nat} {n n' : Nat} {P : Program} {l : Nat} {f : FuncId} {tmps : Array Value} {as_ body : Code} {w : World} {R : Ending → World → Prop} (h : RoundIn Fence.wide n P l f tmps as_ body w R) : RoundIn (FR ro) n' P l f tmps as_ body w R := by
  have h' : RoundIn Fence.wide n' P l f tmps as_ body w R := ⟨h.1, fun c cs _ => h.2 c cs (room_wide _)⟩
  cases ro with
  | none => exact h'
  | some l => exact h'

/-- Gone on from (μ, H, w) to H'. -/
def Went (C : Ctx) (μ : Mu) (H : Hp) (w : World) (H' : Hp) (w' : World) (μ' : Mu) : Prop := HR C μ' H' w' ∧ Fwd μ H w μ' H' w'

def RetPost (C : Ctx) (μ : Mu) (H : Hp) (w : World) (v : Value) (H' : Hp) : Ending → World → Prop :=
  fun e w' => ∃ v' μ', e = .returned v' ∧ Went C μ H w H' w' μ' ∧ VR μ' v v'

def CodePost (C : Ctx) (μ : Mu) (H : Hp) (w : World) (ro : Option Nat) (ex : Ex) (F' : Fr) (H' : Hp) : Exit → Act → World → Prop :=
  fun e a' w' => e = ex.exit' ∧ ∃ μ', Went C μ H w H' w' μ' ∧ FrR μ' ro F' a'

def CallOk (C : Ctx) (g : FuncId) (args : List Value) (H : Hp) (v : Value) (H' : Hp) : Prop :=
  (∀ args' w, (callFunc g args').run C.P w = .ok (.enter g args') w) ∧
  ∀ μ (args' : Array Value) w n, HR C μ H w → LR μ args args'.toList → CallsIn Fence.wide n C.P g args' w (RetPost C μ H w v H')

structure LvOk (E : Env) (L : Lv) : Prop where
  code : ∀ fn c F H ex F' H', L.code fn c F H = some (ex, F', H') → E.C.okc fn c → ∀ μ ro a w n, HR E.C μ H w → FrR μ ro F a → c.wpIn (FR ro) n E.C.P (CodePost E.C μ H w ro ex F' H') a w
  call : ∀ g args H v H', L.call g args H = some (v, H') → CallOk E.C g args H v H'
  yield : ∀ l args H v H', L.yield l args H = some (v, H') → ∀ μ (args' : Array Value) w c sh k, μ l = some (c, sh, k) → HR E.C μ H w → LR μ args args'.toList →
    ∃ f tmps as_ body, (Instr.yield c args').run E.C.P w = .ok (.round c f tmps as_ body) w ∧ ∀ n, RoundIn Fence.wide n E.C.P c f tmps as_ body w (RetPost E.C μ H w v H')

structure EnvOk (E : Env) : Prop where
  C : E.C.Ok
  ext : ∀ g x args v w, E.ext g = some x → x args = some v → (callFunc g args.toArray).run E.C.P w = .ok (.value v) w
  ov : ∀ g x args H v H', E.ov g = some x → x args H = some (v, H') → CallOk E.C g args H v H'
  dn : ∀ g, E.dn g = true → ∀ cap args w, ∃ args', (invoke (.fn (.func g) cap) args).run E.C.P w = .ok (.enter g args') w ∧
    ∀ n μ H, HR E.C μ H w → CallsDIn Fence.wide n E.C.P g args' .returning w (fun e u' w' => (∃ v, e = .returned v) ∧ u' = .returning ∧ HR E.C μ H w' ∧ Fwd μ H w μ H w')

/-! ### One operation -/

theorem calleeA_fn {e : Operand → Option Value} {ρ : Operand → Value} {μ : Mu} (he : OpR μ e ρ) {c : Call} {g : FuncId} {args : List Value} (h : calleeA e c = some (.fn g args)) (P : Program) (w : World) (t : TypeId) :
    ∃ args' : Array Value, LR μ args args'.toList ∧ (do let d ← resolve ρ c t; invoke d.target d.args : Sem Next).run P w = (callFunc g args').run P w := by
  unfold calleeA at h
  split at h
  · rename_i f hc
    split at h
    · rename_i g' first cap as_ hf hargs
      cases h
      have h1 := he _ _ hf
      have h2 := evalL_ok he hargs
      generalize hq : ρ f = q at h1
      cases h1 with
      | func hfn hfs hff hcs hcc =>
        rename_i f' c'
        refine ⟨f' ++ (c.args.map ρ) ++ c', ?_, ?_⟩
        · have a1 : LR μ first.toList f'.toList := ArR.toList ⟨hfs, hff⟩
          have a2 : LR μ cap.toList c'.toList := ArR.toList ⟨hcs, hcc⟩
          have a3 : LR μ as_ (c.args.map ρ).toList := by simpa using h2
          simpa using (a1.append a3).append a2
        · simp [resolve, hc, hq, Deferred.ofValue, invoke]
    · cases h
    · cases h
  · cases h

theorem calleeA_yield {e : Operand → Option Value} {ρ : Operand → Value} {μ : Mu} (he : OpR μ e ρ) {c : Call} {l : Nat} {args : List Value} (h : calleeA e c = some (.yield l args)) (P : Program) (w : World) (t : TypeId) :
    ∃ (args' : Array Value) (c' sh k : Nat), LR μ args args'.toList ∧ μ l = some (c', sh, k) ∧ (do let d ← resolve ρ c t; invoke d.target d.args : Sem Next).run P w = (Instr.yield c' args').run P w := by
  unfold calleeA at h
  split at h
  · rename_i f hc
    split at h
    · cases h
    · rename_i l' first cap as_ hf hargs
      cases h
      have h1 := he _ _ hf
      have h2 := evalL_ok he hargs
      generalize hq : ρ f = q at h1
      cases h1 with
      | func hfn hfs hff hcs hcc => exact absurd rfl (hfn _)
      | yield hb =>
        rename_i b' sh k
        refine ⟨c.args.map ρ, _, _, _, by simpa using h2, hb, ?_⟩
        simp [resolve, hc, hq, Deferred.ofValue, invoke]
    · cases h
  · cases h

/-- What an operation must do for the walk to go on. -/
def OpGoes (C : Ctx) (μ : Mu) (ρ : Operand → Value) (o : Oper) (H : Hp) (w : World) (v : Value) (H' : Hp) : Prop :=
  ∀ (ro : Option Nat) (n : Nat) (a : Act) (next : Act → World → Prop) (Q : Exit → Act → World → Prop), a.eval = ρ →
    (∀ v' w' μ', Went C μ H w H' w' μ' → VR μ' v v' → next (a.put o.dst v') w') → o.wpIn (FR ro) n C.P a w next Q

theorem OpGoes.of_value {C : Ctx} {μ : Mu} {ρ : Operand → Value} {o : Oper} {H : Hp} {w w' : World} {v v' : Value} {H' : Hp} {μ' : Mu} (hd : ∀ c, o.op ≠ .defer c) (hrun : (execOp ρ o).run C.P w = .ok (.value v') w') (hw : Went C μ H w H' w' μ') (hv : VR μ' v v') :
    OpGoes C μ ρ o H w v H' := by
  intro ro n a next Q ha hn
  refine ⟨fun f _ => FR_fn ro f, ?_⟩
  rw [Oper.semAt_eq _ _ _ hd, ha, hrun]
  exact hn v' w' μ' hw hv

theorem OpGoes.of_skip {C : Ctx} {μ : Mu} {ρ : Operand → Value} {o : Oper} {H : Hp} {w w' : World} {H' : Hp} {μ' : Mu} (hd : ∀ c, o.op ≠ .defer c) (hrun : (execOp ρ o).run C.P w = .ok .skip w') (hw : Went C μ H w H' w' μ') :
    OpGoes C μ ρ o H w undef H' := by
  intro ro n a next Q ha hn
  refine ⟨fun f _ => FR_fn ro f, ?_⟩
  rw [Oper.semAt_eq _ _ _ hd, ha, hrun]
  exact hn _ w' μ' hw (VR.undef _)

theorem OpGoes.of_enter {C : Ctx} {μ : Mu} {ρ : Operand → Value} {o : Oper} {H : Hp} {w : World} {v : Value} {H' : Hp} {g : FuncId} {args : Array Value} (hd : ∀ c, o.op ≠ .defer c) (hrun : (execOp ρ o).run C.P w = .ok (.enter g args) w)
    (hc : ∀ n, CallsIn Fence.wide n C.P g args w (RetPost C μ H w v H')) : OpGoes C μ ρ o H w v H' := by
  intro ro n a next Q ha hn
  refine ⟨fun f _ => FR_fn ro f, ?_⟩
  rw [Oper.semAt_eq _ _ _ hd, ha, hrun]
  refine ⟨fun h => by simp [FR_depth] at h, CallsIn.mono (FR_calls (hc 0)) fun e w' he => ?_⟩
  obtain ⟨v', μ', rfl, h1, h2⟩ := he
  exact hn v' w' μ' h1 h2

theorem OpGoes.of_round {C : Ctx} {μ : Mu} {ρ : Operand → Value} {o : Oper} {H : Hp} {w : World} {v : Value} {H' : Hp} {l : Nat} {f : FuncId} {tmps : Array Value} {as_ body : Code} (hd : ∀ c, o.op ≠ .defer c) (hrun : (execOp ρ o).run C.P w = .ok (.round l f tmps as_ body) w)
    (hc : ∀ n, RoundIn Fence.wide n C.P l f tmps as_ body w (RetPost C μ H w v H')) : OpGoes C μ ρ o H w v H' := by
  intro ro n a next Q ha hn
  refine ⟨fun f _ => FR_fn ro f, ?_⟩
  rw [Oper.semAt_eq _ _ _ hd, ha, hrun]
  refine ⟨fun h => by simp [FR_depth] at h, RoundIn.mono (FR_rounds (hc 0)) fun e w' he => ?_⟩
  obtain ⟨v', μ', rfl, h1, h2⟩ := he
  exact hn v' w' μ' h1 h2

theorem opW_goes {C : Ctx} (hC : C.Ok) {μ : Mu} {H H' : Hp} {w : World} (h : HR C μ H w) {e : Operand → Option Value} {ρ : Operand → Value} {o : Oper} {v : Value} (hd : ∀ c, o.op ≠ .defer c) (he : OpR μ e ρ) (hv : opW C e o H = some (v, H')) : OpGoes C μ ρ o H w v H' := by
  obtain ⟨μ', nx, w', h1, h2, h3, h4⟩ := opW_ok hC h he hv
  rcases h2 with ⟨rfl, rfl⟩ | ⟨v', rfl, h5⟩
  · exact .of_skip hd h1 ⟨h3, h4⟩
  · exact .of_value hd h1 ⟨h3, h4⟩ h5

theorem wrun_goes {E : Env} (hE : EnvOk E) {L : Lv} (hL : LvOk E L) {μ : Mu} {H H' : Hp} {w : World} (h : HR E.C μ H w) {e : Operand → Option Value} {ρ : Operand → Value} {o : Oper} {v : Value} (he : OpR μ e ρ) (hd : ∀ c, o.op ≠ .defer c)
    (hv : wrun E L o e H = some (v, H')) : OpGoes E.C μ ρ o H w v H' := by
  unfold wrun at hv
  split at hv
  · rename_i c hop
    split at hv
    · rename_i f hcal
      have hx : execOp ρ o = (do let d ← resolve ρ c o.type; invoke d.target d.args : Sem Next) := by simp [execOp, hop]
      unfold callW at hv
      split at hv
      · rename_i g args hc
        obtain ⟨args', h1, h2⟩ := calleeA_fn he hc E.C.P w o.type
        rw [← hx] at h2
        split at hv
        · rename_i x hext
          cases hf : args.all flat with
          | false => rw [hf] at hv; cases hv
          | true =>
            rw [hf] at hv
            simp only [cond_true] at hv
            split at hv
            · rename_i u hu
              cases hf2 : flat u with
              | false => rw [hf2] at hv; cases hv
              | true =>
                rw [hf2] at hv
                simp only [cond_true, Option.some.injEq, Prod.mk.injEq] at hv
                obtain ⟨rfl, rfl⟩ := hv
                have heq : args' = args.toArray := by
                  apply Array.ext'
                  simp only
                  exact (flat_list_eq hf h1).symm
                subst heq
                refine .of_value hd (h2.trans (hE.ext g x args u w hext hu)) ⟨h, Fwd.refl μ H w⟩ (flat_refl hf2)
            · cases hv
        · obtain ⟨h3, h4⟩ := hL.call _ _ _ _ _ hv
          exact .of_enter hd (h2.trans (h3 _ _)) (fun n => h4 μ args' w n h h1)
      · rename_i l args hc
        obtain ⟨args', c', sh, k, h1, h2, h3⟩ := calleeA_yield he hc E.C.P w o.type
        rw [← hx] at h3
        obtain ⟨f', tmps, as_, body, h4, h5⟩ := hL.yield _ _ _ _ _ hv μ args' w c' sh k h2 h h1
        exact .of_round hd (h3.trans h4) h5
      · cases hv
    · exact opW_goes hE.C h hd he hv
  · exact opW_goes hE.C h hd he hv

end Go.Ai
