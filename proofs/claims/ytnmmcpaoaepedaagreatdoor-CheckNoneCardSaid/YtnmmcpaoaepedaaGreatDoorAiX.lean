/-
  Code, ranges over functions, calls, levels: the interpreter's run is the model's.
-/
import Derived.Test.YtnmmcpaoaepedaaGreatDoorAiW
noncomputable section
namespace Go.Ai

structure EnvFull (E : Env) : Prop extends EnvOk E where
  okc : ∀ fn c, E.C.okc fn c ↔ okCode E.plan (planOk E.C) fn c = true
  body : ∀ g fn b, E.C.fn g = some fn → fn.body = some b → okCode E.plan (planOk E.C) g b = true

section
variable {E : Env}

theorem CodePost.mono_wp {L : Lv} {c : Code} {F : Fence} {n : Nat} {P : Program} {Q Q' : Exit → Act → World → Prop} {a : Act} {w : World} (h : c.wpIn F n P Q a w) (hq : ∀ e a w, Q e a w → Q' e a w) : c.wpIn F n P Q' a w := wpIn_mono h hq

theorem run_enterLoop_inner {P : Program} {w : World} (fn : FuncId) (tmps : Array Value) (ps : Array Tmp) (assign body : Code) {l : Nat} {r : Loop} (h : w.heap[l]? = some (.loop r)) :
    (Instr.enterLoop fn tmps ps assign body (some l)).run P w = .ok (w.heap.size, []) (w.alloc (.loop { state := .ready, pending := none, fn, tmps, params := ps, assign, body, defers := r.defers })) := by
  unfold Instr.enterLoop
  simp only [Sem.run_bind, run_getLoop h, run_newObj_alloc, Result.andThen, Sem.run_pure]

theorem HRg.loop {C : Ctx} {μ : Mu} {nx : Nat} {get : Nat → Option AObj} {w : World} (h : HRg C μ nx get w) {l c sh k : Nat} {r : Loop} (hb : get l = some (.loop r)) (hm : μ l = some (c, sh, k)) : ∃ r', w.heap[c]? = some (.loop r') ∧ LoopR C μ r r' := by
  obtain ⟨c', sh', k', o', h1, h2, h3⟩ := h.obj l _ hb
  rw [hm] at h1; cases h1
  cases o' with
  | loop r' => exact ⟨r', h2, h3⟩
  | _ => exact h3.elim

theorem HRg.defs {C : Ctx} {μ : Mu} {nx : Nat} {get : Nat → Option AObj} {w : World} (h : HRg C μ nx get w) {l c sh k : Nat} (hb : get l = some (.defs (some []))) (hm : μ l = some (c, sh, k)) : w.heap[c]? = some (.deferred (some [])) := by
  obtain ⟨c', sh', k', o', h1, h2, h3⟩ := h.obj l _ hb
  rw [hm] at h1; cases h1
  cases o' with
  | deferred ds =>
    cases ds with
    | none => exact h3.elim
    | some l => cases l with
      | nil => exact h2
      | cons => exact h3.elim
  | _ => exact h3.elim

/-- A new object, by 'alloc'. -/
theorem Went.alloc {C : Ctx} {μ : Mu} {H : Hp} {w : World} (h : HR C μ H w) (hn : H.next < 2 ^ depthH) (ob : AObj) (o' : Obj) (ho : OR C (μ.ext H.next (w.heap.size, 0, 0)) 0 0 ob o') : Went C μ H w (H.new ob) (w.alloc o') (μ.ext H.next (w.heap.size, 0, 0)) := by
  have hfree := h.free (Nat.le_refl H.next)
  have hget : ∀ b', (H.new ob).get b' = if H.next = b' then some ob else H.get b' := fun b' => Hp.get_new H b' ob hn
  exact ⟨h.put_new hfree (by simp) (by simp) hget rfl ho, Fwdg.put_new h hfree (by simp) (Nat.le_refl _) hget rfl rfl rfl rfl⟩

/-- The record of a loop turned. -/
theorem Went.turn {C : Ctx} {μ : Mu} {H : Hp} {w : World} (h : HR C μ H w) {l c sh k : Nat} {o o₁ : AObj} {p p₁ : Obj} (hb : H.get l = some o) (hm : μ l = some (c, sh, k)) (hp : w.heap[c]? = some p) (hnc : ∀ a b d, p ≠ .cells a b d) (ho : OR C μ sh k o₁ p₁) :
    Went C μ H w (H.put l (some o₁)) (w.putObj c p₁) μ := by
  obtain ⟨_, h2, h3⟩ := setObj_ok h hb hm hp hnc ho
  exact ⟨h2, h3⟩

theorem rangeA_ok (hE : EnvFull E) {L : Lv} (hL : LvOk E L) {fn : FuncId} {f : Operand} {params : Array Tmp} {as_ body : Code} {F : Fr} {H : Hp} {ex : Ex} {F' : Fr} {H' : Hp} (hv : rangeA L E.C fn f params as_ body F H = some (ex, F', H'))
    (hoka : E.C.okc fn as_) (hokb : E.C.okc fn body) {μ : Mu} {ro : Option Nat} {a : Act} {w : World} (n : Nat) (h : HR E.C μ H w) (hf : FrR μ ro F a) : (Code.rangeFunc f params as_ body).wpIn (FR ro) n E.C.P (CodePost E.C μ H w ro ex F' H') a w := by
  have he := hf.eval h.glob (C := E.C)
  unfold rangeA at hv
  split at hv
  · rename_i g first cap hfv
    have hfr := he _ _ hfv
    -- the record, and what lies ahead of it
    have main : ∀ (dfs : Nat) (H₁ : Hp) (marks marks' : List Deferred) (μ₁ : Mu) (w₁ : World) (dc : Nat), Went E.C μ H w H₁ w₁ μ₁ → (∃ sh k, μ₁ dfs = some (dc, sh, k)) → DR μ₁ marks marks' → H₁.next < 2 ^ depthH →
        (∀ fn', (Instr.enterLoop fn' a.tmps params as_ body (FR ro).round).run E.C.P w = .ok (w₁.heap.size, marks') (w₁.alloc (.loop { state := .ready, pending := none, fn := fn', tmps := a.tmps, params := params, assign := as_, body := body, defers := dc }))) →
        (match L.call g (first.toList ++ [.func (.yield H₁.next) #[] #[]] ++ cap.toList) (H₁.new (.loop { state := .ready, pending := none, fn := fn, tmps := F.arr, params := params, assign := as_, body := body, defers := dfs })) with
          | some (_, H₃) => match H₃.get H₁.next with
            | some (.loop r) => match r.state with
              | .busy => none
              | _ => match r.pending with
                | none => some (.norm, { F with ds := marks ++ F.ds }, H₃.put H₁.next (some (.loop { r with state := .exhausted })))
                | some .ret => some (.ret, { F with ds := marks ++ F.ds }, H₃.put H₁.next (some (.loop { r with state := .exhausted })))
                | some (.exit id) => some (.exit id, { F with ds := marks ++ F.ds }, H₃.put H₁.next (some (.loop { r with state := .exhausted })))
                | some (.goto l) => some (.goto l, { F with ds := marks ++ F.ds }, H₃.put H₁.next (some (.loop { r with state := .exhausted })))
                | _ => none
            | _ => none
          | none => none) = some (ex, F', H') →
        (Code.rangeFunc f params as_ body).wpIn (FR ro) n E.C.P (CodePost E.C μ H w ro ex F' H') a w := by
      intro dfs H₁ marks marks' μ₁ w₁ dc hw1 hdf hmk hcap henter hv
      split at hv
      · rename_i v H₃ hcall
        obtain ⟨hcf, hci⟩ := hL.call _ _ _ _ _ hcall
        refine wpIn_rangeFunc fun fn' _ => ?_
        -- the record laid
        have hfree := hw1.1.free (Nat.le_refl H₁.next)
        have hle := Mu.le_ext (w₁.heap.size, 0, 0) hfree
        have hOR : OR E.C (μ₁.ext H₁.next (w₁.heap.size, 0, 0)) 0 0 (.loop { state := .ready, pending := none, fn := fn, tmps := F.arr, params := params, assign := as_, body := body, defers := dfs })
            (.loop { state := .ready, pending := none, fn := fn', tmps := a.tmps, params := params, assign := as_, body := body, defers := dc }) := by
          obtain ⟨sh, k, hdf⟩ := hdf
          exact { oka := hoka, okb := hokb, state := rfl, pending := rfl, tmps := (hf.arr.mono (Mu.le_trans hw1.2.le hle)), params := rfl, assign := rfl, body := rfl, defers := ⟨sh, k, hle _ _ hdf⟩ }
        have hw2 := Went.alloc hw1.1 hcap _ _ hOR
        have hmu := Mu.ext_self μ₁ H₁.next (w₁.heap.size, 0, 0)
        generalize hμ2 : μ₁.ext H₁.next (w₁.heap.size, 0, 0) = μ₂ at *
        generalize hw2' : w₁.alloc (.loop { state := .ready, pending := none, fn := fn', tmps := a.tmps, params := params, assign := as_, body := body, defers := dc }) = w₂ at *
        have hwent2 := hw1.trans hw2
        -- the call
        generalize hq : a.eval f = q at hfr
        cases hfr with
        | func hfn hfs hff hcs hcc =>
          rename_i f' c'
          have hargs : LR μ₂ (first.toList ++ [.func (.yield H₁.next) #[] #[]] ++ cap.toList) (f' ++ #[Value.func (.yield w₁.heap.size) #[] #[]] ++ c').toList := by
            have a1 : LR μ first.toList f'.toList := ArR.toList ⟨hfs, hff⟩
            have a2 : LR μ cap.toList c'.toList := ArR.toList ⟨hcs, hcc⟩
            have a3 : LR μ₂ [.func (.yield H₁.next) #[] #[]] [.func (.yield w₁.heap.size) #[] #[]] := LR.cons (.yield hmu) (LR.nil _)
            simpa using ((a1.mono hwent2.2.le).append a3).append (a2.mono hwent2.2.le)
          refine ⟨w₁.heap.size, marks', w₂, { target := .fn (.func g) c', args := f' ++ #[.func (.yield w₁.heap.size) #[] #[]] }, w₂, g, f' ++ #[.func (.yield w₁.heap.size) #[] #[]] ++ c', w₂, ?_, ?_, fun f' _ => FR_fn ro f', ?_, (fun hh => by simp [FR_depth] at hh), ?_⟩
          · rw [henter fn', hw2']
          · show (Deferred.ofValue (a.eval f) (#[Operand.const (.func (.yield w₁.heap.size) #[] #[])].map a.eval)).run E.C.P w₂ = _
            rw [hq]
            simp [Deferred.ofValue, Act.eval]
          · simp only [invoke]; exact hcf _ _
          · refine CallsIn.mono (FR_calls (hci μ₂ _ w₂ 0 hw2.1 hargs)) fun e w₃ hret => ?_
            obtain ⟨v', μ₃, rfl, hw3, _⟩ := hret
            have hwent3 := hwent2.trans hw3
            split at hv
            · rename_i r hr
              have hmu3 := hw3.2.le _ _ hmu
              obtain ⟨r', hr', hlr⟩ := HRg.loop hw3.1 hr hmu3
              have hturn : Went E.C μ₃ H₃ w₃ (H₃.put H₁.next (some (.loop { r with state := .exhausted }))) (w₃.putObj w₁.heap.size (.loop { r' with state := .exhausted })) μ₃ :=
                Went.turn hw3.1 hr hmu3 hr' (fun _ _ _ => by simp) (show LoopR E.C μ₃ _ _ from { hlr with state := rfl })
              have hend : r.state ≠ .busy → (Instr.endLoop w₁.heap.size).run E.C.P w₃ = .ok r.pending (w₃.putObj w₁.heap.size (.loop { r' with state := .exhausted })) := fun hb => by
                rw [run_endLoop hr' (by rw [hlr.state]; exact hb), hlr.pending]
              have hfr : FrR μ₃ ro { F with ds := marks ++ F.ds } { a with defers := marks' ++ a.defers } := by
                refine (hf.mono hwent3.2.le).defer ?_
                have h1 : DR μ₃ marks marks' := hmk.mono (Mu.le_trans (by rw [← hμ2] at hw3; exact hle) hw3.2.le)
                have h2 := hf.ds.mono hwent3.2.le
                clear hmk hv henter
                induction h1 with
                | nil => exact h2
                | cons hd _ ih => exact .cons hd ih
              have hall := hwent3.trans hturn
              split at hv
              · cases hv
              · rename_i hstate
                have hend := hend (fun hh => hstate hh)
                split at hv
                · rename_i hpend
                  simp only [Option.some.injEq, Prod.mk.injEq] at hv
                  obtain ⟨rfl, rfl, rfl⟩ := hv
                  exact ⟨none, _, by rw [hend, hpend], rfl, μ₃, hall, hfr⟩
                · rename_i hpend
                  simp only [Option.some.injEq, Prod.mk.injEq] at hv
                  obtain ⟨rfl, rfl, rfl⟩ := hv
                  exact ⟨some .ret, _, by rw [hend, hpend], wpIn_ret ⟨rfl, μ₃, hall, hfr⟩⟩
                · rename_i id hpend
                  simp only [Option.some.injEq, Prod.mk.injEq] at hv
                  obtain ⟨rfl, rfl, rfl⟩ := hv
                  exact ⟨some (.exit id), _, by rw [hend, hpend], wpIn_exit ⟨rfl, μ₃, hall, hfr⟩⟩
                · rename_i l hpend
                  simp only [Option.some.injEq, Prod.mk.injEq] at hv
                  obtain ⟨rfl, rfl, rfl⟩ := hv
                  exact ⟨some (.goto l), _, by rw [hend, hpend], wpIn_goto ⟨rfl, μ₃, hall, hfr⟩⟩
                · cases hv
            · cases hv
      · cases hv
    split at hv
    · rename_i dfs H₁ marks hmid
      cases hcap : Nat.blt H₁.next (2 ^ depthH) with
      | false => rw [hcap] at hv; cases hv
      | true =>
        rw [hcap] at hv
        simp only [cond_true] at hv
        have hcap' := (blt_iff _ _).1 hcap
        have hro := hf.ro
        cases hFro : F.ro with
        | none =>
          rw [hFro] at hmid hro
          simp only at hmid
          cases hc2 : Nat.blt H.next (2 ^ depthH) with
          | false => rw [hc2] at hmid; cases hmid
          | true =>
            rw [hc2] at hmid
            simp only [cond_true, Option.some.injEq, Prod.mk.injEq] at hmid
            obtain ⟨rfl, rfl, rfl⟩ := hmid
            cases ro with
            | some c => exact hro.elim
            | none =>
              have hw1 := Went.alloc h ((blt_iff _ _).1 hc2) (.defs (some [])) (.deferred (some [])) trivial
              have hmu := Mu.ext_self μ H.next (w.heap.size, 0, 0)
              refine main H.next _ _ [{ target := .collected w.heap.size, args := #[] }] _ (w.alloc (.deferred (some []))) w.heap.size hw1 ⟨_, _, hmu⟩ (.cons (d := { target := .collected H.next, args := #[] }) (d' := { target := .collected w.heap.size, args := #[] }) ⟨_, _, hmu⟩ .nil) hcap' (fun fn' => ?_) hv
              rw [FR_round, run_enterLoop_outer]
              simp
        | some l =>
          rw [hFro] at hmid hro
          simp only at hmid
          cases ro with
          | none => exact hro.elim
          | some c =>
            obtain ⟨sh, k, hmu⟩ := hro
            split at hmid
            · rename_i r hr
              simp only [Option.some.injEq, Prod.mk.injEq] at hmid
              obtain ⟨rfl, rfl, rfl⟩ := hmid
              obtain ⟨r', hr', hlr⟩ := HRg.loop h hr hmu
              refine main _ _ _ [] μ w r'.defers (Went.refl h) hlr.defers .nil hcap' (fun fn' => ?_) hv
              rw [FR_round, run_enterLoop_inner _ _ _ _ _ hr']
            · cases hmid
    · cases hv
  · cases hv

end
end Go.Ai
