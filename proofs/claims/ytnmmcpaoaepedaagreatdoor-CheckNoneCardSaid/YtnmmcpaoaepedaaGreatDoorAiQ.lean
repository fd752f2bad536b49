/-
  An operation in its frame; a region in the order of its text.
-/
import Derived.Test.YtnmmcpaoaepedaaGreatDoorAiP
noncomputable section
namespace Go.Ai

theorem Went.refl {C : Ctx} {μ : Mu} {H : Hp} {w : World} (h : HR C μ H w) : Went C μ H w H w μ := ⟨h, Fwd.refl μ H w⟩
theorem Went.trans {C : Ctx} {μ μ₁ μ₂ : Mu} {H H₁ H₂ : Hp} {w w₁ w₂ : World} (h : Went C μ H w H₁ w₁ μ₁) (k : Went C μ₁ H₁ w₁ H₂ w₂ μ₂) : Went C μ H w H₂ w₂ μ₂ := ⟨k.1, h.2.trans k.2⟩
theorem Went.drawn {C : Ctx} {μ : Mu} {H : Hp} {w : World} (h : HR C μ H w) (n : Nat) : Went C μ H w H { w with drawn := n } μ := ⟨h.world rfl, Fwdg.world rfl rfl rfl rfl⟩

/-- What the walk asks at one operation. -/
def AtOp (ro : Option Nat) (n : Nat) (P : Program) (ops : Array Oper) (o : Oper) (a : Act) (w : World) (K : Act → World → Prop) (Q : Exit → Act → World → Prop) : Prop :=
  if Region.wanted o (yielded ops a.tmps) then o.wpIn (FR ro) n P a w K Q
  else (∀ f, o.about P w a.eval = some f → (FR ro).fn f) ∧ K (a.put o.dst undef) w

theorem opA_goes {C : Ctx} (hC : C.Ok) {μ : Mu} {H : Hp} {w : World} (h : HR C μ H w) {e : Operand → Option Value} {ρ : Operand → Value} {o : Oper} {ob : AObj} {mk : Nat → Value} (hd : ∀ c, o.op ≠ .defer c) (he : OpR μ e ρ)
    (hv : opA C e o = some (ob, mk)) (hn : H.next < 2 ^ depthH) : OpGoes C μ ρ o H w (mk H.next) (H.new ob) := by
  obtain ⟨v', w', o', k, h1, h2, h3, h4, h5, h6⟩ := opA_ok hC he hv w
  have hfree := h.free (Nat.le_refl H.next)
  have hle := Mu.le_ext (w.heap.size, 0, k) hfree
  obtain ⟨h7, h8⟩ := h6 _ H.next hle (Mu.ext_self μ H.next (w.heap.size, 0, k))
  have hget : ∀ b', (H.new ob).get b' = if H.next = b' then some ob else H.get b' := fun b' => Hp.get_new H b' ob hn
  exact .of_value hd h1 ⟨h.put_new hfree (by simp) (by simp) hget h2 h8, Fwdg.put_new h hfree (by simp) (Nat.le_refl _) hget h2 h3 h4 h5⟩ h7

theorem deferA_ok {e : Operand → Option Value} {ρ : Operand → Value} {μ : Mu} (he : OpR μ e ρ) {c : Call} {d : Deferred} (h : deferA e c = some d) (P : Program) (w : World) (t : TypeId) :
    ∃ d', (resolve ρ c t).run P w = .ok d' w ∧ DR1 μ d d' := by
  unfold deferA at h
  split at h
  · rename_i f hc
    split at h
    · rename_i g' first cap as_ hf hargs
      cases h
      have h1 := he _ _ hf
      generalize hq : ρ f = q at h1
      cases h1 with
      | func hfn hfs hff hcs hcc =>
        rename_i f' c'
        exact ⟨{ target := .fn (.func g') c', args := f' ++ c.args.map ρ }, by simp [resolve, hc, hq, Deferred.ofValue], rfl⟩
    · cases h
  · cases h

theorem op1_goes {E : Env} (hE : EnvOk E) {L : Lv} (hL : LvOk E L) {ops : Array Oper} {o : Oper} {F F' : Fr} {H H' : Hp} (hv : op1 E L ops.toList o F H = some (F', H')) {μ : Mu} {ro : Option Nat} {a : Act} {w : World} (n : Nat)
    (h : HR E.C μ H w) (hf : FrR μ ro F a) {K : Act → World → Prop} {Q : Exit → Act → World → Prop} (hK : ∀ μ' a' w', Went E.C μ H w H' w' μ' → FrR μ' ro F' a' → K a' w') : AtOp ro n E.C.P ops o a w K Q := by
  have he := hf.eval h.glob (C := E.C)
  have hwant := hf.wanted ops o
  unfold op1 at hv
  unfold AtOp
  cases hw : Region.wanted o (yieldedA ops.toList F) with
  | false =>
    rw [hw] at hv hwant
    simp only [cond_false, Option.some.injEq, Prod.mk.injEq] at hv
    obtain ⟨rfl, rfl⟩ := hv
    rw [if_neg (by rw [← hwant]; simp)]
    exact ⟨fun f _ => FR_fn ro f, hK μ _ w (Went.refl h) (hf.put (VR.undef μ) o.dst)⟩
  | true =>
    rw [hw] at hv hwant
    simp only [cond_true] at hv
    rw [if_pos hwant.symm]
    have fin : ∀ {v : Value} {H₁ : Hp}, OpGoes E.C μ a.eval o H w v H₁ → F' = putD F o.dst v → H' = H₁ → o.wpIn (FR ro) n E.C.P a w K Q := by
      intro v H₁ hgo h1 h2
      subst h1; subst h2
      exact hgo ro n a K Q rfl (fun v' w' μ' h3 h4 => hK μ' _ w' h3 ((hf.mono h3.2.le).put h4 o.dst))
    have nod : kindOf E.C o ≠ .d → ∀ c, o.op ≠ .defer c := by
      intro hk c hop
      exact hk (by unfold kindOf; rw [hop])
    have useP : ∀ {v : Value}, kindOf E.C o ≠ .d → opP E.C (evalA E.C F) o = some v → F' = putD F o.dst v → H' = H → o.wpIn (FR ro) n E.C.P a w K Q := by
      intro v hk hp h1 h2
      obtain ⟨v', h3, h4⟩ := opP_ok hE.C he hp w
      exact fin (.of_value (nod hk) h3 (Went.refl h) h4) h1 h2
    split at hv
    · rename_i hk
      split at hv
      · rename_i v hp
        simp only [Option.some.injEq, Prod.mk.injEq] at hv
        exact useP (by rw [hk]; simp) hp hv.1.symm hv.2.symm
      · cases hv
    · rename_i hk
      split at hv
      · rename_i ob mk ha
        cases hb : Nat.blt H.next (2 ^ depthH) with
        | false => rw [hb] at hv; cases hv
        | true =>
          rw [hb] at hv
          simp only [cond_true, Option.some.injEq, Prod.mk.injEq] at hv
          exact fin (opA_goes hE.C h (nod (by rw [hk]; simp)) he ha ((blt_iff _ _).1 hb)) hv.1.symm hv.2.symm
      · cases hv
    · rename_i hk
      split at hv
      · rename_i v hr
        simp only [Option.some.injEq, Prod.mk.injEq] at hv
        obtain ⟨v', h3, h4⟩ := opR_ok hE.C h he hr
        exact fin (.of_value (nod (by rw [hk]; simp)) h3 (Went.refl h) h4) hv.1.symm hv.2.symm
      · split at hv
        · rename_i v hp
          simp only [Option.some.injEq, Prod.mk.injEq] at hv
          exact useP (by rw [hk]; simp) hp hv.1.symm hv.2.symm
        · cases hv
    · rename_i hk
      split at hv
      · rename_i v H₁ hr
        simp only [Option.some.injEq, Prod.mk.injEq] at hv
        exact fin (wrun_goes hE hL h he (nod (by rw [hk]; simp)) hr) hv.1.symm hv.2.symm
      · cases hv
    · rename_i hk
      split at hv
      · rename_i c hop hro
        split at hv
        · rename_i d hda
          simp only [Option.some.injEq, Prod.mk.injEq] at hv
          obtain ⟨rfl, rfl⟩ := hv
          have hnone : ro = none := by
            have := hf.ro
            rw [hro] at this
            cases ro with
            | none => rfl
            | some c => exact this.elim
          obtain ⟨d', h1, h2⟩ := deferA_ok he hda E.C.P w o.type
          refine ⟨fun f _ => FR_fn ro f, ?_⟩
          subst hnone
          have hrun : (Oper.semAt (FR none).round a.eval o).run E.C.P w = .ok (.defer d') w := by
            rw [FR_round, Oper.semAt_none]
            simp [execOp, hop, h1]
          rw [hrun]
          simp only [Oper.uponIn]
          refine hK μ _ w (Went.refl h) ?_
          have := (hf.put (VR.undef μ) o.dst).defer (.cons h2 hf.ds)
          have e : ({ tmps := a.tmps, defers := d' :: a.defers } : Act).put o.dst undef = { tmps := (a.put o.dst undef).tmps, defers := d' :: a.defers } := by cases o.dst <;> rfl
          rw [e]
          exact this
        · cases hv
      · cases hv

theorem wpOpsIn_of_at {ro : Option Nat} {n : Nat} {P : Program} {ops : Array Oper} {Q : Exit → Act → World → Prop} {i : Nat} {rest : List Nat} {o : Oper} {a : Act} {w : World} (ho : ops[i]? = some o)
    (h : AtOp ro n P ops o a w (wpOpsIn (FR ro) n P ops Q rest) Q) : wpOpsIn (FR ro) n P ops Q (i :: rest) a w := by
  unfold AtOp at h
  simp only [wpOpsIn, ho]
  exact h

theorem plainR_goes {E : Env} (hE : EnvOk E) {L : Lv} (hL : LvOk E L) {ops : Array Oper} {ro : Option Nat} {n : Nat} {Q : Exit → Act → World → Prop} : ∀ (l : List Oper) (i : Nat) (F : Fr) (H : Hp) (F' : Fr) (H' : Hp) (μ : Mu) (a : Act) (w : World),
    ops.toList.drop i = l → plainR E L ops.toList l F H = some (F', H') → HR E.C μ H w → FrR μ ro F a → (∀ μ' a' w', Went E.C μ H w H' w' μ' → FrR μ' ro F' a' → Q .normal a' w') →
    wpOpsIn (FR ro) n E.C.P ops Q (List.range' i l.length) a w
  | [], i, F, H, F', H', μ, a, w, _, hv, h, hf, hQ => by
    simp only [plainR, Option.some.injEq, Prod.mk.injEq] at hv
    obtain ⟨rfl, rfl⟩ := hv
    exact hQ μ a w (Went.refl h) hf
  | o :: rest, i, F, H, F', H', μ, a, w, hd, hv, h, hf, hQ => by
    have ho : ops[i]? = some o := by
      have := congrArg (·[0]?) hd
      simp at this
      exact this
    have hrest : ops.toList.drop (i + 1) = rest := by
      have := congrArg (List.drop 1) hd
      simpa [List.drop_drop, Nat.add_comm] using this
    simp only [plainR] at hv
    split at hv
    · rename_i F₁ H₁ h1
      rw [List.length_cons, List.range'_succ]
      exact wpOpsIn_of_at ho (op1_goes hE hL h1 n h hf fun μ' a' w' h2 h3 =>
        plainR_goes hE hL rest (i + 1) F₁ H₁ F' H' μ' a' w' hrest hv h2.1 h3 (fun μ'' a'' w'' h4 h5 => hQ μ'' a'' w'' (h2.trans h4) h5))
    · cases hv

theorem region_goes {E : Env} (hE : EnvOk E) {L : Lv} (hL : LvOk E L) {ops : Array Oper} {ro : Option Nat} {n id : Nat} {F : Fr} {H : Hp} {F' : Fr} {H' : Hp} {μ : Mu} {a : Act} {w : World}
    (hv : plainR E L ops.toList ops.toList F H = some (F', H')) (h : HR E.C μ H w) (hf : FrR μ ro F a) : (Code.region id ops false).wpIn (FR ro) n E.C.P (CodePost E.C μ H w ro .norm F' H') a w := by
  refine wpIn_region ?_
  have := plainR_goes hE hL (ro := ro) (n := n) (Q := CodePost E.C μ H w ro .norm F' H') ops.toList 0 F H F' H' μ a w rfl hv h hf (fun μ' a' w' h1 h2 => ⟨rfl, μ', h1, h2⟩)
  rw [List.range_eq_range']
  simpa using this

end Go.Ai
