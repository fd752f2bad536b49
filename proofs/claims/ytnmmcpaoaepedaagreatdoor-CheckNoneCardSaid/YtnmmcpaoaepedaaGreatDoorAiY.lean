/-
  Code, calls, rounds, levels.
-/
import Derived.Test.YtnmmcpaoaepedaaGreatDoorAiX
noncomputable section
namespace Go.Ai

section
variable {E : Env}

theorem codeA_ok (hE : EnvFull E) {L : Lv} (hL : LvOk E L) (fuel : Nat) (fn : FuncId) : ∀ (c : Code) (F : Fr) (H : Hp) (ex : Ex) (F' : Fr) (H' : Hp), codeA E fuel L fn c F H = some (ex, F', H') → okCode E.plan (planOk E.C) fn c = true →
    ∀ (μ : Mu) (ro : Option Nat) (a : Act) (w : World) (n : Nat), HR E.C μ H w → FrR μ ro F a → c.wpIn (FR ro) n E.C.P (CodePost E.C μ H w ro ex F' H') a w := by
  intro c
  induction c with
  | skip =>
    intro F H ex F' H' hv hok μ ro a w n h hf
    simp only [codeA, Option.some.injEq, Prod.mk.injEq] at hv
    obtain ⟨rfl, rfl, rfl⟩ := hv
    exact wpIn_skip ⟨rfl, μ, Went.refl h, hf⟩
  | label l =>
    intro F H ex F' H' hv hok μ ro a w n h hf
    simp only [codeA, Option.some.injEq, Prod.mk.injEq] at hv
    obtain ⟨rfl, rfl, rfl⟩ := hv
    exact wpIn_label ⟨rfl, μ, Went.refl h, hf⟩
  | region id ops draw =>
    intro F H ex F' H' hv hok μ ro a w n h hf
    cases draw with
    | true =>
      simp only [codeA, cond_true] at hv
      simp only [okCode, cond_true] at hok
      split at hv
      · rename_i p hp
        rw [hp] at hok
        split at hv
        · rename_i F₁ H₁ hd
          simp only [Option.some.injEq, Prod.mk.injEq] at hv
          obtain ⟨rfl, rfl, rfl⟩ := hv
          exact drawn_goes hE.toEnvOk hL hok hd h hf
        · cases hv
      · cases hv
    | false =>
      simp only [codeA, cond_false] at hv
      split at hv
      · rename_i F₁ H₁ hd
        simp only [Option.some.injEq, Prod.mk.injEq] at hv
        obtain ⟨rfl, rfl, rfl⟩ := hv
        exact region_goes hE.toEnvOk hL hd h hf
      · cases hv
  | seq x y ihx ihy =>
    intro F H ex F' H' hv hok μ ro a w n h hf
    simp only [okCode, Bool.and_eq_true] at hok
    simp only [codeA] at hv
    refine wpIn_seq ?_
    split at hv
    · rename_i F₁ H₁ h1
      refine wpIn_mono (ihx F H .norm F₁ H₁ h1 hok.1 μ ro a w n h hf) fun e a₁ w₁ hq => ?_
      obtain ⟨rfl, μ₁, hw, hf₁⟩ := hq
      exact wpIn_mono (ihy F₁ H₁ ex F' H' hv hok.2 μ₁ ro a₁ w₁ n hw.1 hf₁) fun e a₂ w₂ hq => hq.trans hw
    · rename_i r hr
      cases hx : codeA E fuel L fn x F H with
      | none => rw [hx] at hv; cases hv
      | some r =>
        obtain ⟨ex₁, F₁, H₁⟩ := r
        rw [hx] at hv
        simp only [Option.some.injEq, Prod.mk.injEq] at hv
        obtain ⟨rfl, rfl, rfl⟩ := hv
        refine wpIn_mono (ihx F H ex₁ F₁ H₁ hx hok.1 μ ro a w n h hf) fun e a₁ w₁ hq => ?_
        cases ex₁ with
        | norm => exact absurd hx (hr F₁ H₁)
        | _ => obtain ⟨rfl, hq⟩ := hq; exact ⟨rfl, hq⟩
  | cond c x y ihx ihy =>
    intro F H ex F' H' hv hok μ ro a w n h hf
    simp only [okCode, Bool.and_eq_true] at hok
    simp only [codeA] at hv
    have he := hf.eval h.glob (C := E.C)
    split at hv
    · rename_i hc
      have := ((he _ _ hc).bool_iff true).1 rfl
      exact wpIn_cond_true this (ihx F H ex F' H' hv hok.1 μ ro a w n h hf)
    · rename_i hc
      have := ((he _ _ hc).bool_iff false).1 rfl
      exact wpIn_cond_false this (ihy F H ex F' H' hv hok.2 μ ro a w n h hf)
    · cases hv
  | block id b ih =>
    intro F H ex F' H' hv hok μ ro a w n h hf
    simp only [okCode] at hok
    simp only [codeA] at hv
    refine wpIn_block ?_
    split at hv
    · rename_i id' F₁ H₁ h1
      refine wpIn_mono (ih F H (.exit id') F₁ H₁ h1 hok μ ro a w n h hf) fun e a₁ w₁ hq => ?_
      obtain ⟨rfl, hq⟩ := hq
      simp only [Ex.exit', Exit.inBlock]
      cases hid : Nat.beq id' id with
      | true =>
        rw [hid] at hv
        simp only [cond_true, Option.some.injEq, Prod.mk.injEq] at hv
        obtain ⟨rfl, rfl, rfl⟩ := hv
        rw [if_pos ((beq_true_iff _ _).1 hid)]
        exact ⟨rfl, hq⟩
      | false =>
        rw [hid] at hv
        simp only [cond_false, Option.some.injEq, Prod.mk.injEq] at hv
        obtain ⟨rfl, rfl, rfl⟩ := hv
        rw [if_neg ((beq_false_iff _ _).1 hid)]
        exact ⟨rfl, hq⟩
    · rename_i r hr
      cases hx : codeA E fuel L fn b F H with
      | none => rw [hx] at hv; cases hv
      | some r =>
        obtain ⟨ex₁, F₁, H₁⟩ := r
        rw [hx] at hv
        simp only [Option.some.injEq, Prod.mk.injEq] at hv
        obtain ⟨rfl, rfl, rfl⟩ := hv
        refine wpIn_mono (ih F H ex₁ F₁ H₁ hx hok μ ro a w n h hf) fun e a₁ w₁ hq => ?_
        cases ex₁ with
        | exit id' => exact absurd hx (hr id' F₁ H₁)
        | _ => obtain ⟨rfl, hq⟩ := hq; exact ⟨rfl, hq⟩
  | loop b ih =>
    intro F H ex F' H' hv hok μ ro a w n h hf
    simp only [okCode] at hok
    simp only [codeA] at hv
    refine wpIn_passes (fun j a₁ w₁ => ∃ F₁ H₁ μ₁, iterA (fun F H => codeA E fuel L fn b F H) j F₁ H₁ = some (ex, F', H') ∧ Went E.C μ H w H₁ w₁ μ₁ ∧ FrR μ₁ ro F₁ a₁) ?_ ?_ fuel a w ⟨F, H, μ, hv, Went.refl h, hf⟩
    · rintro a₁ w₁ ⟨F₁, H₁, μ₁, h1, _⟩
      simp [iterA] at h1
    · rintro j a₁ w₁ ⟨F₁, H₁, μ₁, h1, hw, hf₁⟩
      simp only [iterA] at h1
      split at h1
      · rename_i F₂ H₂ h2
        refine wpIn_mono (ih F₁ H₁ .norm F₂ H₂ h2 hok μ₁ ro a₁ w₁ n hw.1 hf₁) fun e a₂ w₂ hq => ?_
        obtain ⟨rfl, μ₂, hw₂, hf₂⟩ := hq
        exact ⟨F₂, H₂, μ₂, h1, hw.trans hw₂, hf₂⟩
      · rename_i r hr
        cases hx : codeA E fuel L fn b F₁ H₁ with
        | none => rw [hx] at h1; cases h1
        | some r =>
          obtain ⟨ex₁, F₂, H₂⟩ := r
          rw [hx] at h1
          simp only [Option.some.injEq, Prod.mk.injEq] at h1
          obtain ⟨rfl, rfl, rfl⟩ := h1
          refine wpIn_mono (ih F₁ H₁ ex₁ F₂ H₂ hx hok μ₁ ro a₁ w₁ n hw.1 hf₁) fun e a₂ w₂ hq => ?_
          have hq' := hq.trans hw
          cases ex₁ with
          | norm => exact absurd hx (hr F₂ H₂)
          | _ => obtain ⟨rfl, h5⟩ := hq'; exact ⟨rfl, h5⟩
  | rangeFunc f ps x y ihx ihy =>
    intro F H ex F' H' hv hok μ ro a w n h hf
    simp only [okCode, Bool.and_eq_true] at hok
    simp only [codeA] at hv
    exact rangeA_ok hE hL hv ((hE.okc _ _).2 hok.1) ((hE.okc _ _).2 hok.2) n h hf
  | exit id =>
    intro F H ex F' H' hv hok μ ro a w n h hf
    simp only [codeA, Option.some.injEq, Prod.mk.injEq] at hv
    obtain ⟨rfl, rfl, rfl⟩ := hv
    exact wpIn_exit ⟨rfl, μ, Went.refl h, hf⟩
  | scope b ih =>
    intro F H ex F' H' hv hok μ ro a w n h hf
    simp only [okCode] at hok
    simp only [codeA] at hv
    refine wpIn_scope_passes (fun j l a₁ w₁ => ∃ F₁ H₁ μ₁, gotoA (L.code fn) b j l F₁ H₁ = some (ex, F', H') ∧ Went E.C μ H w H₁ w₁ μ₁ ∧ FrR μ₁ ro F₁ a₁) ?_ ?_ fuel a w ?_
    · rintro l a₁ w₁ ⟨F₁, H₁, μ₁, h1, _⟩
      simp [gotoA] at h1
    · rintro j l rest a₁ w₁ ⟨F₁, H₁, μ₁, h1, hw, hf₁⟩ hlab
      simp only [gotoA, hlab] at h1
      have hokr := (hE.okc fn rest).2 (okCode_label b l rest hok hlab)
      split at h1
      · rename_i l' F₂ H₂ h2
        refine wpIn_mono (hL.code fn rest F₁ H₁ (.goto l') F₂ H₂ h2 hokr μ₁ ro a₁ w₁ n hw.1 hf₁) fun e a₂ w₂ hq => ?_
        obtain ⟨rfl, μ₂, hw₂, hf₂⟩ := hq
        simp only [Ex.exit', ScopeQ]
        cases hl' : findLabel b l' with
        | some r => exact ⟨F₂, H₂, μ₂, h1, hw.trans hw₂, hf₂⟩
        | none =>
          cases j with
          | zero => simp [gotoA] at h1
          | succ j =>
            simp only [gotoA, hl', Option.some.injEq, Prod.mk.injEq] at h1
            obtain ⟨rfl, rfl, rfl⟩ := h1
            exact ⟨rfl, μ₂, hw.trans hw₂, hf₂⟩
      · rename_i r hr
        cases hx : L.code fn rest F₁ H₁ with
        | none => rw [hx] at h1; cases h1
        | some r =>
          obtain ⟨ex₁, F₂, H₂⟩ := r
          rw [hx] at h1
          simp only [Option.some.injEq, Prod.mk.injEq] at h1
          obtain ⟨rfl, rfl, rfl⟩ := h1
          refine wpIn_mono (hL.code fn rest F₁ H₁ ex₁ F₂ H₂ hx hokr μ₁ ro a₁ w₁ n hw.1 hf₁) fun e a₂ w₂ hq => ?_
          have hq' := hq.trans hw
          cases ex₁ with
          | goto l' => exact absurd hx (hr l' F₂ H₂)
          | _ => obtain ⟨rfl, h5⟩ := hq'; exact ⟨rfl, h5⟩
    · split at hv
      · rename_i l' F₂ H₂ h2
        refine wpIn_mono (ih F H (.goto l') F₂ H₂ h2 hok μ ro a w n h hf) fun e a₂ w₂ hq => ?_
        obtain ⟨rfl, μ₂, hw₂, hf₂⟩ := hq
        simp only [Ex.exit', ScopeQ]
        cases hl' : findLabel b l' with
        | some r => exact ⟨F₂, H₂, μ₂, hv, hw₂, hf₂⟩
        | none =>
          cases fuel with
          | zero => simp [gotoA] at hv
          | succ j =>
            simp only [gotoA, hl', Option.some.injEq, Prod.mk.injEq] at hv
            obtain ⟨rfl, rfl, rfl⟩ := hv
            exact ⟨rfl, μ₂, hw₂, hf₂⟩
      · rename_i r hr
        cases hx : codeA E fuel L fn b F H with
        | none => rw [hx] at hv; cases hv
        | some r =>
          obtain ⟨ex₁, F₂, H₂⟩ := r
          rw [hx] at hv
          simp only [Option.some.injEq, Prod.mk.injEq] at hv
          obtain ⟨rfl, rfl, rfl⟩ := hv
          refine wpIn_mono (ih F H ex₁ F₂ H₂ hx hok μ ro a w n h hf) fun e a₂ w₂ hq => ?_
          cases ex₁ with
          | goto l' => exact absurd hx (hr l' F₂ H₂)
          | _ => obtain ⟨rfl, hq⟩ := hq; exact ⟨rfl, hq⟩
  | goto l =>
    intro F H ex F' H' hv hok μ ro a w n h hf
    simp only [codeA, Option.some.injEq, Prod.mk.injEq] at hv
    obtain ⟨rfl, rfl, rfl⟩ := hv
    exact wpIn_goto ⟨rfl, μ, Went.refl h, hf⟩
  | ret =>
    intro F H ex F' H' hv hok μ ro a w n h hf
    simp only [codeA, Option.some.injEq, Prod.mk.injEq] at hv
    obtain ⟨rfl, rfl, rfl⟩ := hv
    exact wpIn_ret ⟨rfl, μ, Went.refl h, hf⟩
  | refuse x =>
    intro F H ex F' H' hv hok μ ro a w n h hf
    simp [codeA] at hv

/-! ### Calls -/

theorem results_ok (hE : EnvFull E) {μ : Mu} {ro : Option Nat} {H : Hp} {w : World} {F : Fr} {a : Act} (h : HR E.C μ H w) (hf : FrR μ ro F a) : ∀ (l : List ResultVar) (vs : List Value), resultsA E.C H.get F l = some vs →
    ∃ vs', (l.mapM (fun x => match x with
      | .tmp t => pure (a.tmps.getD t undef)
      | .cell c t => do loadVar t (← asAddr (a.tmps.getD c undef)) : ResultVar → Sem Value)).run E.C.P w = .ok vs' w ∧ LR μ vs vs'
  | [], vs, hv => by
    simp only [resultsA, Option.some.injEq] at hv
    subst hv
    exact ⟨[], by simp, LR.nil μ⟩
  | .tmp t :: l, vs, hv => by
    simp only [resultsA] at hv
    split at hv
    · rename_i r hr
      simp only [Option.some.injEq] at hv
      subst hv
      obtain ⟨vs', h1, h2⟩ := results_ok hE h hf l r hr
      refine ⟨a.tmps.getD t undef :: vs', ?_, LR.cons (hf.slot t) h2⟩
      rw [List.mapM_cons]
      simp only [Sem.run_bind, Sem.run_pure, Result.andThen_ok, h1]
    · cases hv
  | .cell c t :: l, vs, hv => by
    simp only [resultsA] at hv
    split at hv
    · rename_i p hp
      split at hv
      · rename_i v r hld hr
        simp only [Option.some.injEq] at hv
        subst hv
        obtain ⟨vs', h1, h2⟩ := results_ok hE h hf l r hr
        have hs := hf.slot c
        rw [hp] at hs
        have key : ∃ v', (do loadVar t (← asAddr (a.tmps.getD c undef)) : Sem Value).run E.C.P w = .ok v' w ∧ VR μ v v' := by
          obtain ⟨v', h3, h4⟩ := loadR_ok hE.C h hld hs
          refine ⟨v', ?_, h4⟩
          revert hs h3
          generalize a.tmps.getD c undef = q
          intro hs h3
          cases hs with
          | ptr hm => simpa [Instr.loadAt, Instr.sureAddr, asAddr] using h3
        obtain ⟨v', h3, h4⟩ := key
        refine ⟨v' :: vs', ?_, LR.cons h4 h2⟩
        rw [List.mapM_cons, Sem.run_bind]
        simp only at h3 ⊢
        rw [h3]
        simp only [Result.andThen_ok, Sem.run_bind, h1, Sem.run_pure]
      · cases hv
    · cases hv

theorem one_ok {μ : Mu} {vs : List Value} {vs' : Array Value} (h : LR μ vs vs'.toList) : VR μ (oneOf vs) (if h : vs'.size = 1 then vs'[0] else .tuple vs') := by
  have hlen : vs.length = vs'.size := by have := h.1; simpa using this
  by_cases h1 : vs'.size = 1
  · rw [dif_pos h1]
    cases vs with
    | nil => simp at hlen; omega
    | cons v l =>
      cases l with
      | cons u l => simp at hlen; omega
      | nil =>
        have : vs'.toList[0]? = some vs'[0] := by simp
        exact h.2 0 v _ rfl this
  · rw [dif_neg h1]
    have : oneOf vs = .tuple vs.toArray := by
      unfold oneOf
      cases vs with
      | nil => rfl
      | cons v l => cases l with
        | nil => simp at hlen; omega
        | cons => rfl
    rw [this]
    refine .tuple (by simpa using hlen) fun i v v' a b => h.2 i v v' (by simpa using a) (by simpa using b)

theorem unwind_ok (hE : EnvFull E) {fn : Func} {tmps : Array Value} {R : Ending → World → Prop} {H₂ : Hp} {n : Nat} : ∀ (ds ds' : List Deferred) (H : Hp) (μ : Mu) (w : World), unwindA E ds H = some H₂ → DR μ ds ds' → HR E.C μ H w →
    (∀ w₂ μ₂, Went E.C μ H w H₂ w₂ μ₂ → LeavesIn Fence.wide n E.C.P fn tmps R [] .returning w₂) → LeavesInM Fence.wide n E.C.P fn tmps R ds' .returning w := by
  intro ds
  induction ds with
  | nil =>
    intro ds' H μ w hv hd h hR
    cases hd
    simp only [unwindA, Option.some.injEq] at hv
    subst hv
    exact hR w μ (Went.refl h)
  | cons d ds ih =>
    intro ds' H μ w hv hd h hR
    cases hd with
    | @cons _ d' _ l' h1 ht =>
      obtain ⟨tg, args⟩ := d
      obtain ⟨tg', args'⟩ := d'
      simp only [unwindA] at hv
      refine ⟨by simp, ?_⟩
      split at hv
      · rename_i r
        cases tg' with
        | collected c =>
          obtain ⟨sh, k, hmu⟩ := h1
          split at hv
          · rename_i hg
            have hp := HRg.defs h hg hmu
            have hturn : Went E.C μ H w (H.put r (some (.defs none))) (w.putObj c (.deferred none)) μ := Went.turn h hg hmu hp (fun _ _ _ => by simp) trivial
            exact .inl ⟨c, _, rfl, run_takeDeferred hp, ih _ _ _ _ hv ht hturn.1 (fun w₂ μ₂ h2 => hR w₂ μ₂ (hturn.trans h2))⟩
          · cases hv
        | fn fv cap => cases fv <;> exact h1.elim
        | _ => exact h1.elim
      · rename_i g cap
        cases hdn : E.dn g with
        | false => rw [hdn] at hv; cases hv
        | true =>
          rw [hdn] at hv
          simp only [cond_true] at hv
          cases tg' with
          | fn fv cap' =>
            cases fv with
            | func g' =>
              have hgg : g' = g := h1
              subst hgg
              obtain ⟨args₁, hinv, hcall⟩ := hE.dn g' hdn cap' args' w
              refine .inr ⟨fun hh => by simp [Fence.wide] at hh, .func g', cap', g', args₁, rfl, hinv, fun _ _ => trivial, ?_⟩
              refine (hcall (n - 1) μ H h).mono fun e u' w' hq => ?_
              obtain ⟨⟨v, rfl⟩, rfl, h2, h3⟩ := hq
              have hwt : Went E.C μ H w H w' μ := ⟨h2, h3⟩
              exact ih _ _ μ w' hv ht h2 (fun w₂ μ₂ h4 => hR w₂ μ₂ (Went.trans hwt h4))
            | _ => exact h1.elim
          | _ => exact h1.elim
      · cases hv

theorem callA_ok (hE : EnvFull E) {L : Lv} (hL : LvOk E L) {g : FuncId} {args : List Value} {H : Hp} {v : Value} {H' : Hp} (hv : callA E L g args H = some (v, H')) : CallOk E.C g args H v H' := by
  unfold callA at hv
  split at hv
  · rename_i x hx
    exact hE.ov g x args H v H' hx hv
  · split at hv
    · rename_i fn hfn
      obtain ⟨hf1, hf2, hf3⟩ := hE.C.fn g fn hfn
      split at hv
      · rename_i body hb
        split at hv
        · rename_i ex F H₁ hcode
          refine ⟨fun args' w => ?_, fun μ args' w n h hargs => ?_⟩
          · have hname : fn.name ≠ "runtime.NumGoroutine" := by simpa using hf3
            simp [callFunc, hf1, hname, hb]
          · have hok := hE.body g fn body hfn hb
            have hfr : FrR μ none (frOf (max args.length fn.ntmps) args none) { tmps := args' ++ Array.replicate (fn.ntmps - args'.size) undef, defers := [] } := FrR.enter hargs trivial
            have hcw := hL.code g body _ H ex F H₁ hcode ((hE.okc _ _).2 hok) μ none _ w n h hfr
            refine callsIn_of_wp_marks hf1 hb trivial (wpIn_mono hcw fun e a₁ w₁ hq => ?_)
            obtain ⟨rfl, μ₁, hw₁, hf₁⟩ := hq
            -- how it leaves
            have leave : (match unwindA E F.ds H₁ with
                | some H₂ => match resultsA E.C H₂.get F fn.results.toList with
                  | some vs => some (oneOf vs, H₂)
                  | none => none
                | none => none) = some (v, H') → LeavesInM Fence.wide n E.C.P fn a₁.tmps (RetPost E.C μ H w v H') a₁.defers .returning w₁ := by
              intro hv
              split at hv
              · rename_i H₂ hun
                split at hv
                · rename_i vs hres
                  simp only [Option.some.injEq, Prod.mk.injEq] at hv
                  obtain ⟨rfl, rfl⟩ := hv
                  refine unwind_ok hE F.ds a₁.defers H₁ μ₁ w₁ hun hf₁.ds hw₁.1 fun w₂ μ₂ hw₂ => ?_
                  obtain ⟨vs', h3, h4⟩ := results_ok hE hw₂.1 (hf₁.mono hw₂.2.le) _ _ hres
                  refine ⟨(if h : vs'.toArray.size = 1 then vs'.toArray[0] else .tuple vs'.toArray), ?_, ?_⟩
                  · unfold results
                    rw [Array.mapM_eq_mapM_toList]
                    simp only [map_eq_pure_bind, bind_assoc, pure_bind, Sem.run_bind]
                    refine Eq.trans (congrArg (fun r => Result.andThen r _) h3) ?_
                    rfl
                  · exact ⟨_, μ₂, rfl, hw₁.trans hw₂, one_ok (by simpa using h4)⟩
                · cases hv
              · cases hv
            cases ex with
            | norm => exact leave hv
            | ret => exact leave hv
            | exit id => cases hv
            | goto l => cases hv
        · cases hv
      · cases hv
    · cases hv

theorem jump_ex (ex : Ex) : (jumpOf ex).isNone = match ex with | .norm => true | _ => false := by cases ex <;> rfl

theorem yieldA_ok (hE : EnvFull E) {L : Lv} (hL : LvOk E L) {l : Nat} {args : List Value} {H : Hp} {v : Value} {H' : Hp} (hv : yieldA E L l args H = some (v, H')) (μ : Mu) (args' : Array Value) (w : World) (c sh k : Nat) (hmu : μ l = some (c, sh, k)) (h : HR E.C μ H w) (hargs : LR μ args args'.toList) :
    ∃ f tmps as_ body, (Instr.yield c args').run E.C.P w = .ok (.round c f tmps as_ body) w ∧ ∀ n, RoundIn Fence.wide n E.C.P c f tmps as_ body w (RetPost E.C μ H w v H') := by
  unfold yieldA at hv
  split at hv
  · rename_i r hr
    obtain ⟨r', hr', hlr⟩ := HRg.loop h hr hmu
    cases hsz : Nat.beq args.length r.params.size with
    | false => rw [hsz] at hv; cases hv
    | true =>
      rw [hsz] at hv
      simp only [cond_true] at hv
      have hsz' : args'.size = r'.params.size := by
        have h1 := (beq_true_iff _ _).1 hsz
        have h2 := hargs.1
        rw [hlr.params]
        simp at h2; omega
      refine ⟨r'.fn, _, r'.assign, r'.body, run_yield hr' hsz', fun n => ?_⟩
      split at hv
      · rename_i F₁ H₁ hassign
        split at hv
        · rename_i r₁ hr₁
          split at hv
          · rename_i hready
            split at hv
            · rename_i ex F₂ H₂ hbody
              cases hds : F₂.ds.isEmpty with
              | false => rw [hds] at hv; cases hv
              | true =>
                rw [hds] at hv
                simp only [cond_true] at hv
                split at hv
                · rename_i r₂ hr₂
                  simp only [Option.some.injEq, Prod.mk.injEq] at hv
                  obtain ⟨rfl, rfl⟩ := hv
                  refine roundIn_of_wpIn trivial ?_
                  have htm : ArR μ (zipSet (r.params.toList.zip args) r.tmps) ((r'.params.zip args').foldl (fun tmps (t, a) => tmps.setIfInBounds t a) r'.tmps) := by
                    rw [hlr.params, ← Array.foldl_toList]
                    refine zipSet_ok _ _ _ _ (by simp [hargs.1]) (fun i p p' h1 h2 => ?_) hlr.tmps
                    rw [Array.toList_zip] at h2
                    obtain ⟨e1, e2⟩ := List.getElem?_zip_eq_some.1 h1
                    obtain ⟨e3, e4⟩ := List.getElem?_zip_eq_some.1 h2
                    refine ⟨?_, hargs.2 i _ _ e2 e4⟩
                    rw [e1] at e3; exact (Option.some.inj e3).symm
                  have hfr : FrR μ (some c) (frOf (zipSet (r.params.toList.zip args) r.tmps).toList.length (zipSet (r.params.toList.zip args) r.tmps).toList (some l)) { tmps := (r'.params.zip args').foldl (fun tmps (t, a) => tmps.setIfInBounds t a) r'.tmps, defers := [] } :=
                    FrR.round htm.toList ⟨sh, k, hmu⟩
                  have hszz : (zipSet (r.params.toList.zip args) r.tmps).toList.length = r.tmps.size := by
                    have : ∀ (l : List (Tmp × Value)) (t : Array Value), (zipSet l t).size = t.size := by
                      intro l
                      induction l with
                      | nil => intro t; rfl
                      | cons x l ih => intro t; obtain ⟨i, v⟩ := x; rw [zipSet, ih]; simp
                    simp [this]
                  rw [hszz] at hfr
                  rw [hlr.assign, hlr.body]
                  have hcw := hL.code r.fn r.assign _ H .norm F₁ H₁ hassign hlr.oka μ (some c) _ w n h hfr
                  refine wpIn_mono hcw fun e a₁ w₁ hq => ?_
                  obtain ⟨rfl, μ₁, hw₁, hf₁⟩ := hq
                  have hmu1 := hw₁.2.le _ _ hmu
                  obtain ⟨r₁', hr₁', hlr₁⟩ := HRg.loop hw₁.1 hr₁ hmu1
                  have hturn₁ : Went E.C μ₁ H₁ w₁ (H₁.put l (some (.loop { r₁ with state := .busy }))) (w₁.putObj c (.loop { r₁' with state := .busy })) μ₁ :=
                    Went.turn hw₁.1 hr₁ hmu1 hr₁' (fun _ _ _ => by simp) (show LoopR E.C μ₁ _ _ from { hlr₁ with state := rfl })
                  refine ⟨_, run_beginRound hr₁' (by rw [hlr₁.state]; exact hready), ?_⟩
                  have hbw := hL.code r.fn r.body F₁ _ ex F₂ H₂ hbody hlr.okb μ₁ (some c) a₁ _ n hturn₁.1 hf₁
                  refine wpIn_mono hbw fun e a₂ w₂ hq => ?_
                  obtain ⟨rfl, μ₂, hw₂, hf₂⟩ := hq
                  have hmu2 := hw₂.2.le _ _ hmu1
                  obtain ⟨r₂', hr₂', hlr₂⟩ := HRg.loop hw₂.1 hr₂ hmu2
                  have hturn₂ : Went E.C μ₂ H₂ w₂ (H₂.put l (some (.loop { r₂ with state := if (jumpOf ex).isNone then .ready else .done, pending := jumpOf ex }))) (w₂.putObj c (.loop { r₂' with state := if (jumpOf ex).isNone then .ready else .done, pending := jumpOf ex })) μ₂ :=
                    Went.turn hw₂.1 hr₂ hmu2 hr₂' (fun _ _ _ => by simp) (show LoopR E.C μ₂ _ _ from { hlr₂ with state := rfl, pending := rfl })
                  have hend := run_endRound (P := E.C.P) (jumpOf ex) hr₂'
                  have fin : RetPost E.C μ H w (.bool (jumpOf ex).isNone) (H₂.put l (some (.loop { r₂ with state := if (jumpOf ex).isNone then .ready else .done, pending := jumpOf ex }))) (.returned (.bool (jumpOf ex).isNone)) (w₂.putObj c (.loop { r₂' with state := if (jumpOf ex).isNone then .ready else .done, pending := jumpOf ex })) :=
                    ⟨_, μ₂, rfl, ((hw₁.trans hturn₁).trans hw₂).trans hturn₂, .bool _⟩
                  cases ex with
                  | norm => exact ⟨_, _, hend, fin⟩
                  | ret => exact ⟨_, _, hend, fin⟩
                  | exit id => exact ⟨_, _, hend, fin⟩
                  | goto t => exact ⟨_, _, hend, fin⟩
                · cases hv
            · cases hv
          · cases hv
        · cases hv
      · cases hv
  · cases hv

theorem level_ok (hE : EnvFull E) : ∀ n, LvOk E (level E n)
  | 0 => ⟨fun fn c F H ex F' H' h => by simp [level] at h, fun g args H v H' h => by simp [level] at h, fun l args H v H' h => by simp [level] at h⟩
  | n + 1 => by
    have ih := level_ok hE n
    refine ⟨fun fn c F H ex F' H' h hok μ ro a w m hr hf => ?_, fun g args H v H' h => ?_, fun l args H v H' h μ args' w c sh k hmu hr hargs => ?_⟩
    · exact codeA_ok hE ih n fn c F H ex F' H' h ((hE.okc _ _).1 hok) μ ro a w m hr hf
    · exact callA_ok hE ih h
    · exact yieldA_ok hE ih h μ args' w c sh k hmu hr hargs

end
end Go.Ai
