/-
  A region whose order is drawn: whatever the order, the interpreter's run is the model's.
-/
import Derived.Test.YtnmmcpaoaepedaaGreatDoorAiU
noncomputable section
namespace Go.Ai

theorem view_none {H : Hp} {N : Nat → Option AObj} {b : Nat} (h : view H N b = none) : H.get b = none ∧ N b = none := by
  unfold view at h
  cases hH : H.get b with
  | some o => rw [hH] at h; cases h
  | none => rw [hH] at h; exact ⟨rfl, h⟩

theorem view_of_get {H : Hp} {N : Nat → Option AObj} {b : Nat} {o : AObj} (h : H.get b = some o) : view H N b = some o := by unfold view; rw [h]
theorem view_of_nur {H : Hp} {N : Nat → Option AObj} {b : Nat} (h : H.get b = none) : view H N b = N b := by unfold view; rw [h]

structure Merged (H : Hp) (N : Nat → Option AObj) (H₁ : Hp) (N₁ : Nat → Option AObj) : Prop where
  next : H₁.next = H.next
  same : ∀ b, view H₁ N₁ b = view H N b
  apart : ∀ b o, N₁ b = some o → N b = some o ∧ H₁.get b = none

theorem mergeA_ok {base m : Nat} (hm : m ≤ 2 ^ depthH) : ∀ (l : List Nat) (H : Hp) (N : Nat → Option AObj), (∀ b o, N b = some o → b < m ∧ H.get b = none) →
    Merged H N (mergeA base l H N).1 (mergeA base l H N).2
  | [], H, N, h => ⟨rfl, fun _ => rfl, fun b o hb => ⟨hb, (h b o hb).2⟩⟩
  | i :: l, H, N, h => by
    simp only [mergeA]
    cases hN : N (base + i) with
    | none => exact mergeA_ok hm l H N h
    | some o =>
      simp only
      obtain ⟨hlt, hg⟩ := h _ _ hN
      have hget : ∀ b', (H.put (base + i) (some o)).get b' = if base + i = b' then some o else H.get b' := by
        intro b'
        rw [Hp.get_put]
        by_cases hb : base + i = b'
        · rw [if_pos hb, if_pos ⟨hb, by omega⟩]
        · rw [if_neg hb, if_neg (fun hh => hb hh.1)]
      have ih := mergeA_ok (base := base) hm l (H.put (base + i) (some o)) (upd N (base + i) none) (fun b o' hb => by
        by_cases hbb : base + i = b
        · subst hbb; rw [upd_self] at hb; cases hb
        · rw [upd_other _ _ hbb] at hb
          obtain ⟨h1, h2⟩ := h b o' hb
          exact ⟨h1, by rw [hget, if_neg hbb]; exact h2⟩)
      refine ⟨by rw [ih.next]; simp, fun b => ?_, fun b o' hb => ?_⟩
      · rw [ih.same]
        unfold view
        rw [hget]
        by_cases hbb : base + i = b
        · subst hbb; rw [if_pos rfl, hg, hN]
        · rw [if_neg hbb, upd_other _ _ hbb]
      · obtain ⟨h1, h2⟩ := ih.apart b o' hb
        refine ⟨?_, h2⟩
        by_cases hbb : base + i = b
        · subst hbb; rw [upd_self] at h1; cases h1
        · rw [upd_other _ _ hbb] at h1; exact h1

theorem Fwdg.lower {μ μ' : Mu} {n n' n'' : Nat} {g g' : Nat → Option AObj} {w w' : World} (h : Fwdg μ n g w μ' n' g' w') (hn : n ≤ n'') : Fwdg μ n g w μ' n'' g' w' := { h with next := hn }

theorem Fwdg.put_at {μ : Mu} {nx nx' : Nat} {get get' : Nat → Option AObj} {w w' : World} {b : Nat} {o : AObj} {o' : Obj} {k : Nat} (hb : μ b = none) (hn : nx ≤ nx') (hbn : nx ≤ b)
    (hg : ∀ b', get' b' = if b = b' then some o else get b') (hw : w'.heap = w.heap.push o') (ht : w'.tape = w.tape) (hos : w'.os = w.os) (hp : w'.output = w.output) :
    Fwdg μ nx get w (μ.ext b (w.heap.size, 0, k)) nx' get' w' where
  le := Mu.le_ext _ hb
  next := hn
  size := by rw [hw, Array.size_push]; omega
  tape := ht
  os := hos
  output := hp
  fresh := fun b' x e => by
    by_cases hb' : b' = b
    · subst hb'; exact .inr hbn
    · rw [Mu.ext_other _ _ hb'] at e; exact .inl e
  img := fun b' o1 c sh k' h1 h2 h3 => by
    by_cases hb' : b' = b
    · subst hb'; rw [Mu.ext_self] at h2; cases h2; omega
    · rw [Mu.ext_other _ _ hb'] at h2
      rw [hg, if_neg (Ne.symm hb')] at h1
      exact ⟨b', o1, sh, k', h1, h2⟩
  keep := fun c hc _ => by rw [hw, Array.getElem?_push, if_neg (by omega)]
  live := fun b' o1 h1 => by
    rw [hg] at h1
    by_cases hb' : b = b'
    · subst hb'; exact .inr hbn
    · rw [if_neg hb'] at h1; exact .inl ⟨o1, h1⟩

/-- Gone on with less told: what was told beside stands. -/
theorem Fwdg.beside {C : Ctx} {μ μ' : Mu} {nx nx' : Nat} {G G₀ G' G₁ : Nat → Option AObj} {w w' : World} (h : HRg C μ nx G w) (f : Fwdg μ nx G₀ w μ' nx' G' w') (hg : ∀ b o, G₀ b = some o → G b = some o)
    (h₁ : ∀ b o, G₁ b = some o → G' b = some o ∨ G b = some o) : Fwdg μ nx G w μ' nx' G₁ w' where
  le := f.le
  next := f.next
  size := f.size
  tape := f.tape
  os := f.os
  output := f.output
  fresh := f.fresh
  img := fun b o c sh k h1 h2 h3 => by
    rcases h₁ b o h1 with h4 | h4
    · obtain ⟨b₀, o₀, s₀, k₀, e1, e2⟩ := f.img b o c sh k h4 h2 h3
      exact ⟨b₀, o₀, s₀, k₀, hg _ _ e1, e2⟩
    · obtain ⟨c', sh', k', o', e1, _, _⟩ := h.obj b o h4
      have := f.le _ _ e1
      rw [h2] at this; cases this
      exact ⟨b, o, sh, k, h4, e1⟩
  keep := fun c hc hn => f.keep c hc (fun b o sh k h1 => hn b o sh k (hg _ _ h1))
  live := fun b o h1 => by
    rcases h₁ b o h1 with h4 | h4
    · rcases f.live b o h4 with ⟨o₀, h5⟩ | h5
      · exact .inl ⟨o₀, hg _ _ h5⟩
      · exact .inr h5
    · exact .inl ⟨o, h4⟩

/-- How a state of the plan's run stands for one of the model's. -/
structure DRel (C : Ctx) (μ₀ : Mu) (H₀ : Hp) (w₀ : World) (ro : Option Nat) (m : Nat) (S : DS) (listed : Array Bool) (μ : Mu) (a : Act) (w : World) : Prop where
  hr : HRg C μ S.H.next (view S.H S.N) w
  fwd : Fwdg μ₀ H₀.next H₀.get w₀ μ S.H.next (view S.H S.N) w
  fr : FrR μ ro S.F a
  nur : ∀ b o, S.N b = some o → H₀.next ≤ b ∧ b < H₀.next + m ∧ S.H.get b = none
  free : ∀ i, i < m → listed.getD i true = false → μ (H₀.next + i) = none
  recs : ∀ i, listed.getD i true = false → S.R i = none
  mono : RMono S.R
  nx : H₀.next + m ≤ S.H.next
  cap : H₀.next + m ≤ 2 ^ depthH

theorem DRel.untold {C : Ctx} {μ₀ : Mu} {H₀ : Hp} {w₀ : World} {ro : Option Nat} {m : Nat} {S : DS} {listed : Array Bool} {μ : Mu} {a : Act} {w : World} (h : DRel C μ₀ H₀ w₀ ro m S listed μ a w) {i : Nat} (hi : i < m) (hu : listed.getD i true = false) : Untold H₀.next S.N S.R i :=
  ⟨(view_none (h.hr.free_get (h.free i hi hu))).2, h.recs i hu⟩

theorem unlisted_set {listed : Array Bool} {i j : Nat} (h : (listed.setIfInBounds i true).getD j true = false) : i ≠ j ∧ listed.getD j true = false := by
  by_cases hij : i = j
  · subst hij
    rw [Array.getD_eq_getD_getElem?, Array.getElem?_setIfInBounds] at h
    rw [if_pos rfl] at h
    split at h <;> simp at h
  · exact ⟨hij, by rw [getD_set_ne true hij] at h; exact h⟩

/-- ONE OPERATION of the plan's run, in the model. -/
theorem dstep_goes {E : Env} (hE : EnvOk E) {L : Lv} (hL : LvOk E L) {μ₀ : Mu} {H₀ : Hp} {w₀ : World} {ro : Option Nat} {ops : Array Oper} {s : Ent} {S S' : DS} {listed : Array Bool} {μ : Mu} {a : Act} {w : World} {o : Oper} (n : Nat)
    (h : DRel E.C μ₀ H₀ w₀ ro ops.size S listed μ a w) (ho : ops[s.1]? = some o) (hs : listed.getD s.1 true = false) (hd₀ : dstep E L ops.toList H₀.next s S = some S') {K : Act → World → Prop} {Q : Exit → Act → World → Prop}
    (hK : ∀ μ' a' w', DRel E.C μ₀ H₀ w₀ ro ops.size S' (listed.setIfInBounds s.1 true) μ' a' w' → K a' w') : AtOp ro n E.C.P ops o a w K Q := by
  have hlt : s.1 < ops.size := (Array.getElem?_eq_some_iff.1 ho).1
  have he := h.fr.eval h.hr.glob (C := E.C)
  have hwant := h.fr.wanted ops o
  have hfree := h.free s.1 hlt hs
  obtain ⟨hvH, hvN⟩ := view_none (h.hr.free_get hfree)
  obtain ⟨o', ho', hd⟩ := dstep_some hd₀
  rw [ho] at ho'; cases ho'
  unfold AtOp
  rcases hd with ⟨hw, v, H', N', R', hd, rfl⟩ | ⟨hw, rfl⟩
  · rw [if_pos (by rw [← hwant]; exact hw)]
    have nod : kindOf E.C o ≠ .d → ∀ c, o.op ≠ .defer c := by
      intro hk c hop
      exact hk (by unfold kindOf; rw [hop])
    -- a value, memory as it was
    have val : ∀ {v' : Value} {R'' : Recs}, kindOf E.C o ≠ .d → (execOp a.eval o).run E.C.P w = .ok (.value v') w → VR μ v v' → H' = S.H → N' = S.N → R' = R'' → (∀ i, s.1 ≠ i → R'' i = S.R i) → RMono R'' → o.wpIn (FR ro) n E.C.P a w K Q := by
      intro v' R'' hk hrun hv h1 h2 h3 hr hm
      subst h1; subst h2; subst h3
      refine ⟨fun f _ => FR_fn ro f, ?_⟩
      rw [Oper.semAt_eq _ _ _ (nod hk), hrun]
      refine hK μ _ w ⟨h.hr, h.fwd, h.fr.put hv o.dst, h.nur, fun i hi hu => h.free i hi (unlisted_set hu).2, fun i hu => ?_, hm, h.nx, h.cap⟩
      obtain ⟨h1, h2⟩ := unlisted_set hu
      show R' i = none
      rw [hr i h1]; exact h.recs i h2
    have hmono := deff_mono hd h.mono
    unfold deff at hd
    split at hd
    · rename_i hk
      split at hd
      · rename_i u hp
        simp only [Option.some.injEq, Prod.mk.injEq] at hd
        obtain ⟨rfl, rfl, rfl, rfl⟩ := hd
        obtain ⟨v', h3, h4⟩ := opP_ok hE.C he hp w
        exact val (by rw [hk]; simp) h3 h4 rfl rfl rfl (fun _ _ => rfl) h.mono
      · cases hd
    · rename_i hk
      split at hd
      · rename_i ob mk ha
        simp only [Option.some.injEq, Prod.mk.injEq] at hd
        obtain ⟨rfl, rfl, rfl, rfl⟩ := hd
        obtain ⟨v', w', o', k, h1, h2, h3, h4, h5, h6⟩ := opA_ok hE.C he ha w
        have hle := Mu.le_ext (w.heap.size, 0, k) hfree
        obtain ⟨h7, h8⟩ := h6 _ (H₀.next + s.1) hle (Mu.ext_self μ _ (w.heap.size, 0, k))
        have hget : ∀ b', view S.H (upd S.N (H₀.next + s.1) (some ob)) b' = if H₀.next + s.1 = b' then some ob else view S.H S.N b' := by
          intro b'
          by_cases hb : H₀.next + s.1 = b'
          · subst hb; rw [if_pos rfl, view_of_nur hvH, upd_self]
          · rw [if_neg hb]; unfold view; rw [upd_other _ _ hb]
        refine ⟨fun f _ => FR_fn ro f, ?_⟩
        rw [Oper.semAt_eq _ _ _ (nod (by rw [hk]; simp)), h1]
        have hnx := h.nx
        refine hK _ _ w' ⟨h.hr.put_new hfree (by simp only; omega) (Nat.le_refl _) hget h2 h8, ?_, (h.fr.mono hle).put h7 o.dst, fun b o1 hb => ?_, fun i hi hu => ?_, fun i hu => h.recs i (unlisted_set hu).2, h.mono, h.nx, h.cap⟩
        · exact (h.fwd.lower (Nat.le_refl H₀.next)).trans (Fwdg.put_at hfree (by simp only; omega) (by omega) hget h2 h3 h4 h5)
        · simp only at hb ⊢
          by_cases hbb : H₀.next + s.1 = b
          · subst hbb; exact ⟨by omega, by omega, hvH⟩
          · rw [upd_other _ _ hbb] at hb; exact h.nur b o1 hb
        · obtain ⟨h9, h10⟩ := unlisted_set hu
          rw [Mu.ext_other _ _ (by omega)]
          exact h.free i hi h10
      · cases hd
    · rename_i hk
      split at hd
      · rename_i u hp
        simp only [Option.some.injEq, Prod.mk.injEq] at hd
        obtain ⟨rfl, rfl, rfl, rfl⟩ := hd
        obtain ⟨v', h3, h4⟩ := opP_ok hE.C he hp w
        exact val (by rw [hk]; simp) h3 h4 rfl rfl rfl (fun _ _ => rfl) h.mono
      · split at hd
        · rename_i u hr
          simp only [Option.some.injEq, Prod.mk.injEq] at hd
          obtain ⟨rfl, rfl, rfl, rfl⟩ := hd
          obtain ⟨v', h3, h4⟩ := opR_ok hE.C h.hr he hr
          exact val (by rw [hk]; simp) h3 h4 rfl rfl rfl (fun i hi => upd_other _ _ hi) hmono
        · cases hd
    · rename_i hk
      cases hmm : mergeA H₀.next s.2.2 S.H S.N with
      | mk H₁ N₁ =>
        rw [hmm] at hd
        simp only at hd
        split at hd
        · rename_i u H₂ hwr
          cases hwk : watchOk (view H₂ N₁) S.R s.2.1 with
          | false => rw [hwk] at hd; cases hd
          | true =>
            rw [hwk] at hd
            simp only [cond_true, Option.some.injEq, Prod.mk.injEq] at hd
            obtain ⟨rfl, rfl, rfl, rfl⟩ := hd
            have hM := mergeA_ok (base := H₀.next) h.cap s.2.2 S.H S.N (fun b o hb => (h.nur b o hb).2)
            rw [hmm] at hM
            simp only at hM
            have hsub : ∀ b o, H₁.get b = some o → view S.H S.N b = some o := fun b o hb => by rw [← hM.same]; exact view_of_get hb
            have h₁ : HR E.C μ H₁ w := h.hr.weaken hM.next hsub
            refine wrun_goes hE hL h₁ he (nod (by rw [hk]; simp)) hwr ro n a K Q rfl fun v' w' μ' hwent hv => ?_
            obtain ⟨hr', f⟩ := hwent
            have f' : Fwdg μ S.H.next H₁.get w μ' H₂.next H₂.get w' := by rw [← hM.next]; exact f
            have hcases : ∀ b o, view H₂ N₁ b = some o → H₂.get b = some o ∨ (H₁.get b = none ∧ view S.H S.N b = some o) := by
              intro b o hb
              cases hH : H₂.get b with
              | some x => rw [view_of_get hH] at hb; exact .inl hb
              | none =>
                rw [view_of_nur hH] at hb
                have := hM.apart b o hb
                refine .inr ⟨this.2, ?_⟩
                rw [← hM.same, view_of_nur this.2]; exact hb
            have hnx := h.nx
            refine hK μ' _ w' ⟨h.hr.beside hr' f' hsub hcases, h.fwd.trans (Fwdg.beside h.hr f' hsub (fun b o hb => (hcases b o hb).imp id And.right)), (h.fr.mono f.le).put hv o.dst, fun b o1 hb => ?_, fun i hi hu => ?_, fun i hu => h.recs i (unlisted_set hu).2, h.mono, ?_, h.cap⟩
            · simp only at hb ⊢
              obtain ⟨h3, h4⟩ := hM.apart b o1 hb
              obtain ⟨h5, h6, _⟩ := h.nur b o1 h3
              refine ⟨h5, h6, ?_⟩
              cases hH : H₂.get b with
              | none => rfl
              | some x =>
                rcases f'.live b x hH with ⟨x₀, h7⟩ | h7
                · rw [h4] at h7; cases h7
                · omega
            · obtain ⟨h3, h4⟩ := unlisted_set hu
              cases hm' : μ' (H₀.next + i) with
              | none => rfl
              | some x =>
                rcases f'.fresh _ x hm' with h5 | h5
                · rw [h.free i hi h4] at h5; cases h5
                · omega
            · have := f'.next
              simp only at this ⊢
              omega
        · cases hd
    · cases hd
  · rw [if_neg (by rw [← hwant, hw]; simp)]
    exact ⟨fun f _ => FR_fn ro f, hK μ _ w ⟨h.hr, h.fwd, h.fr.put (VR.undef μ) o.dst, h.nur, fun i hi hu => h.free i hi (unlisted_set hu).2, fun i hu => h.recs i (unlisted_set hu).2, h.mono, h.nx, h.cap⟩⟩

end Go.Ai
