/-
  A region whose order is drawn: all of it.
-/
import Derived.Test.YtnmmcpaoaepedaaGreatDoorAiV
noncomputable section
namespace Go.Ai

theorem anc_listed {ops : Array Oper} {listed : Array Bool} (hcl : ∀ i o, listed.getD i false = true → ops[i]? = some o → ∀ e ∈ o.after, Region.binds .any e = true → listed.getD e.on false = true) {j i : Nat} (h : Anc ops j i) : listed.getD i false = true → listed.getD j false = true := by
  induction h with
  | one ho he hb => exact fun hi => hcl _ _ hi ho _ he hb
  | more ho he hb _ ih => exact fun hi => ih (hcl _ _ hi ho _ he hb)

theorem anc_ready {ops : Array Oper} {listed : Array Bool} (hcl : ∀ i o, listed.getD i false = true → ops[i]? = some o → ∀ e ∈ o.after, Region.binds .any e = true → listed.getD e.on false = true) {j i : Nat} (h : Anc ops j i)
    (hr : ∀ o, ops[i]? = some o → ∀ e ∈ o.after, Region.binds .any e = true → listed.getD e.on false = true) : listed.getD j false = true := by
  cases h with
  | one ho he hb => exact hr _ ho _ he hb
  | more ho he hb h => exact anc_listed hcl h (hr _ ho _ he hb)

theorem getD_tf {listed : Array Bool} {i : Nat} (h : i < listed.size) : listed.getD i true = listed.getD i false := by
  simp [Array.getD_eq_getD_getElem?, h]

theorem unlisted_lt {listed : Array Bool} {i : Nat} (h : listed.getD i true = false) : i < listed.size := by
  rcases Nat.lt_or_ge i listed.size with hlt | hge
  · exact hlt
  · simp [Array.getD_eq_getD_getElem?, Array.getElem?_eq_none hge] at h

/-- Some operation is ready, as long as one is left. -/
theorem ready_some {ops : Array Oper} {listed : Array Bool} (hsz : listed.size = ops.size) (hdown : ∀ i o, ops[i]? = some o → ∀ e ∈ o.after, Region.binds .any e = true → e.on < i) {i : Nat} (hi : listed.getD i true = false) : ∃ j, j ∈ Region.ready .any ops listed := by
  induction i using Nat.strongRecOn with
  | _ i ih =>
    have hlt := unlisted_lt hi
    obtain ⟨o, ho⟩ : ∃ o, ops[i]? = some o := ⟨ops[i]'(by omega), Array.getElem?_eq_getElem (by omega)⟩
    by_cases hall : ∀ e ∈ o.after, Region.binds .any e = true → listed.getD e.on false = true
    · exact ⟨i, mem_ready.2 ⟨hi, o, ho, hall⟩⟩
    · have : ∃ e, e ∈ o.after ∧ Region.binds .any e = true ∧ listed.getD e.on false ≠ true := by
        apply Classical.byContradiction
        intro hno
        refine hall fun e he hb => ?_
        apply Classical.byContradiction
        intro hne
        exact hno ⟨e, he, hb, hne⟩
      obtain ⟨e, he, hb, hne⟩ := this
      have hon := hdown i o ho e he hb
      refine ih e.on hon ?_
      rw [getD_tf (by omega)]
      cases hv : listed.getD e.on false with
      | false => rfl
      | true => exact absurd hv hne

section
variable {E : Env} {L : Lv}

theorem sched_goes (hE : EnvOk E) (hL : LvOk E L) {μ₀ : Mu} {H₀ : Hp} {w₀ : World} {ro : Option Nat} {n : Nat} {ops : Array Oper} {Q : Exit → Act → World → Prop} {Sf : DS} (hdown : ∀ i o, ops[i]? = some o → ∀ e ∈ o.after, Region.binds .any e = true → e.on < i)
    (hQ : ∀ listed μ' a' w', DRel E.C μ₀ H₀ w₀ ro ops.size Sf listed μ' a' w' → Q .normal a' w') : ∀ (fuel t : Nat) (listed : Array Bool) (p : List Ent) (S : DS) (μ : Mu) (a : Act) (w : World),
    DRel E.C μ₀ H₀ w₀ ro ops.size S listed μ a w → listed.size = ops.size → p.length ≤ fuel → (∀ s ∈ p, listed.getD s.1 true = false) → (∀ i, listed.getD i true = false → ∃ s ∈ p, s.1 = i) →
    p.Pairwise (fun x y => pairOk E.C ops (ancOf ops) x y = true) → (∀ i o, listed.getD i false = true → ops[i]? = some o → ∀ e ∈ o.after, Region.binds .any e = true → listed.getD e.on false = true) →
    drun E L ops.toList H₀.next p S = some Sf → wpOpsIn (FR ro) n E.C.P ops Q (Region.linearise.go .any ops fuel t listed []) a w := by
  intro fuel
  induction fuel with
  | zero =>
    intro t listed p S μ a w h hsz hlen hun hcov hpw hcl hrun
    have : p = [] := by
      cases p with
      | nil => rfl
      | cons x p => simp at hlen
    subst this
    simp only [drun, Option.some.injEq] at hrun
    subst hrun
    simp only [Region.linearise.go, List.reverse_nil, wpOpsIn]
    exact hQ listed μ a w h
  | succ fuel ih =>
    intro t listed p S μ a w h hsz hlen hun hcov hpw hcl hrun
    simp only [Region.linearise.go]
    change wpOpsIn (FR ro) n E.C.P ops Q (match (Region.ready .any ops listed)[t % (Region.ready .any ops listed).length]? with
      | some i => Region.linearise.go .any ops fuel (t / (Region.ready .any ops listed).length) (listed.setIfInBounds i true) [i]
      | none => [].reverse) a w
    cases hi : (Region.ready .any ops listed)[t % (Region.ready .any ops listed).length]? with
    | none =>
      have hnil : Region.ready .any ops listed = [] := by
        cases hr : Region.ready .any ops listed with
        | nil => rfl
        | cons x xs =>
          rw [hr] at hi
          have hlt : t % (x :: xs).length < (x :: xs).length := Nat.mod_lt _ (by simp)
          rw [List.getElem?_eq_getElem hlt] at hi
          cases hi
      have : p = [] := by
        cases p with
        | nil => rfl
        | cons x p =>
          obtain ⟨j, hj⟩ := ready_some hsz hdown (hun x (by simp))
          rw [hnil] at hj; cases hj
      subst this
      simp only [drun, Option.some.injEq] at hrun
      subst hrun
      simp only [List.reverse_nil, wpOpsIn]
      exact hQ listed μ a w h
    | some i =>
      simp only
      rw [linearise_go_acc, List.reverse_singleton, List.singleton_append]
      have hmem := List.mem_of_getElem? hi
      obtain ⟨hiu, o, ho, hready⟩ := mem_ready.1 hmem
      obtain ⟨s, hsp, hsi⟩ := hcov i hiu
      subst hsi
      obtain ⟨p₁, p₂, rfl⟩ := List.append_of_mem hsp
      obtain ⟨hpw1, hpw2, hpw3⟩ := List.pairwise_append.1 hpw
      obtain ⟨hpw4, hpw5⟩ := List.pairwise_cons.1 hpw2
      have hne : ∀ x y, pairOk E.C ops (ancOf ops) x y = true → x.1 ≠ y.1 := fun x y hxy => by
        unfold pairOk at hxy
        simp only [Bool.and_eq_true, Bool.not_eq_true'] at hxy
        exact (beq_false_iff _ _).1 hxy.1
      have hfront : ∀ x ∈ p₁, ∃ ox oy, ops[x.1]? = some ox ∧ ops[s.1]? = some oy ∧ kindsOk (kindOf E.C ox) (kindOf E.C oy) x s = true ∧ ox.apart ops oy = true ∧ x.1 ≠ s.1 := by
        intro x hx
        have hxs := hpw3 x hx s (by simp)
        have hn := hne x s hxs
        unfold pairOk at hxs
        simp only [Bool.and_eq_true, Bool.or_eq_true] at hxs
        rcases hxs.2 with hanc | hk
        · rw [List.getD_eq_getElem?_getD] at hanc
          cases hm : (ancOf ops)[s.1]? with
          | none => rw [hm] at hanc; simp at hanc
          | some m =>
            rw [hm] at hanc
            have hA := ancOf_ok hm (by simpa using hanc : m.testBit x.1 = true)
            have hl := anc_ready hcl hA (fun o' ho' e he hb => by rw [ho] at ho'; cases ho'; exact hready e he hb)
            have hu := hun x (by simp [hx])
            rw [getD_tf (unlisted_lt hu), hl] at hu
            cases hu
        · cases hox : ops[x.1]? with
          | none => rw [hox] at hk; simp at hk
          | some ox =>
            rw [hox, ho] at hk
            simp only [Bool.and_eq_true] at hk
            exact ⟨ox, o, rfl, ho, hk.1, hk.2, hn⟩
      have hlt : ∀ x ∈ p₁ ++ s :: p₂, x.1 < ops.size := fun x hx => by have := unlisted_lt (hun x hx); omega
      have hb := bubble p₁ S hfront (hpw1.imp (fun {x y} hxy => hne x y hxy)) (fun x hx => h.untold (hlt x (by simp [hx])) (hun x (by simp [hx]))) (h.untold (hlt s (by simp)) hiu) h.mono hrun
      simp only [drun] at hb
      split at hb
      · rename_i S' hstep
        refine wpOpsIn_of_at ho (dstep_goes hE hL n h ho hiu hstep fun μ' a' w' h' => ?_)
        refine ih _ _ (p₁ ++ p₂) S' μ' a' w' h' (by simp [hsz]) (by simp at hlen ⊢; omega) (fun x hx => ?_) (fun j hj => ?_) ?_ (fun j oj hj hoj e he hbe => ?_) hb
        · have hx' : x ∈ p₁ ++ s :: p₂ := by
            rcases List.mem_append.1 hx with h1 | h1
            · simp [h1]
            · simp [h1]
          have hxs : s.1 ≠ x.1 := by
            rcases List.mem_append.1 hx with h1 | h1
            · exact Ne.symm (hne _ _ (hpw3 x h1 s (by simp)))
            · exact hne _ _ (hpw4 x h1)
          rw [getD_set_ne true hxs]
          exact hun x hx'
        · obtain ⟨h1, h2⟩ := unlisted_set hj
          obtain ⟨x, hx, hxj⟩ := hcov j h2
          refine ⟨x, ?_, hxj⟩
          rcases List.mem_append.1 hx with h3 | h3
          · simp [h3]
          · rcases List.mem_cons.1 h3 with h4 | h4
            · subst h4; exact absurd hxj h1
            · simp [h4]
        · exact List.pairwise_append.2 ⟨hpw1, hpw5, fun x hx y hy => hpw3 x hx y (by simp [hy])⟩
        · by_cases hij : s.1 = j
          · subst hij
            rw [ho] at hoj; cases hoj
            exact getD_set_true (hready e he hbe)
          · rw [getD_set_ne false hij] at hj
            exact getD_set_true (hcl j oj hj hoj e he hbe)
      · cases hb

theorem getD_replicate_false (n i : Nat) : (Array.replicate n false).getD i false = false := by
  rw [Array.getD_eq_getD_getElem?, Array.getElem?_replicate]; split <;> rfl
theorem getD_replicate_true (n i : Nat) : (Array.replicate n false).getD i true = false ↔ i < n := by
  rw [Array.getD_eq_getD_getElem?, Array.getElem?_replicate]
  by_cases h : i < n <;> simp [h]

/-- **A REGION WHOSE ORDER IS DRAWN.** -/
theorem drawn_goes (hE : EnvOk E) (hL : LvOk E L) {ops : Array Oper} {ro : Option Nat} {n id : Nat} {p : List Ent} {F : Fr} {H : Hp} {F' : Fr} {H' : Hp} {μ : Mu} {a : Act} {w : World} (hp : planOk E.C ops p = true)
    (hv : drawnR E L ops.toList p F H = some (F', H')) (h : HR E.C μ H w) (hf : FrR μ ro F a) : (Code.region id ops true).wpIn (FR ro) n E.C.P (CodePost E.C μ H w ro .norm F' H') a w := by
  refine wpIn_region_draw fun t => ?_
  rw [hE.C.mixed]
  simp only [Region.schedule, Bool.true_or, if_true, Region.linearise]
  unfold planOk at hp
  simp only [Bool.and_eq_true] at hp
  obtain ⟨⟨⟨hp1, hp2⟩, hp3⟩, hp4⟩ := hp
  have hdown : ∀ i o, ops[i]? = some o → ∀ e ∈ o.after, Region.binds .any e = true → e.on < i := fun i o ho e he hb => downOk_ok ops.toList 0 (by simp) hp1 i o (Nat.zero_le _) ho e he hb
  have hpw := pairsOk_pw hp3
  unfold drawnR at hv
  cases hcap : Nat.ble (H.next + ops.toList.length) (2 ^ depthH) with
  | false => rw [hcap] at hv; cases hv
  | true =>
    rw [hcap] at hv
    simp only [cond_true] at hv
    have hcap := Nat.le_of_ble_eq_true hcap
    simp only [Array.length_toList] at hv hcap
    split at hv
    · rename_i Sf hrun
      simp only [Option.some.injEq, Prod.mk.injEq] at hv
      obtain ⟨rfl, rfl⟩ := hv
      -- entries of the plan are the operations'
      have hidx : ∀ (l : List Ent) (S : DS), drun E L ops.toList H.next l S = some Sf → ∀ x ∈ l, x.1 < ops.size := by
        intro l
        induction l with
        | nil => intro S _ x hx; cases hx
        | cons y l ih =>
          intro S hl x hx
          simp only [drun] at hl
          split at hl
          · rename_i S' hs
            rcases List.mem_cons.1 hx with rfl | hx
            · obtain ⟨o, ho, _⟩ := dstep_some hs
              exact (Array.getElem?_eq_some_iff.1 ho).1
            · exact ih S' hl x hx
          · cases hl
      have hne : ∀ x y, pairOk E.C ops (ancOf ops) x y = true → x.1 ≠ y.1 := fun x y hxy => by
        unfold pairOk at hxy
        simp only [Bool.and_eq_true, Bool.not_eq_true'] at hxy
        exact (beq_false_iff _ _).1 hxy.1
      refine sched_goes hE hL (H₀ := H) (w₀ := w) (μ₀ := μ) hdown ?_ ops.size t (Array.replicate ops.size false) p { F := F, H := { H with next := H.next + ops.size }, N := fun _ => none, R := fun _ => none } μ a { w with drawn := w.drawn + 1 } ?_ (by simp) (Nat.le_of_ble_eq_true hp4) (fun s hs => (getD_replicate_true _ _).2 (hidx p _ hrun s hs)) (fun i hi => ?_) hpw (fun i o hi => by rw [getD_replicate_false] at hi; cases hi) hrun
      · intro listed μ' a' w' hD
        have hM := mergeA_ok (base := H.next) hD.cap (List.range ops.size) Sf.H Sf.N (fun b o hb => (hD.nur b o hb).2)
        have hnone : ∀ b, (mergeA H.next (List.range ops.size) Sf.H Sf.N).2 b = none := by
          intro b
          cases hb : (mergeA H.next (List.range ops.size) Sf.H Sf.N).2 b with
          | none => rfl
          | some o =>
            obtain ⟨h1, _⟩ := hM.apart b o hb
            obtain ⟨h2, h3, _⟩ := hD.nur b o h1
            have key : ∀ (l : List Nat) (H₁ : Hp) (N₁ : Nat → Option AObj), (b - H.next) ∈ l → (mergeA H.next l H₁ N₁).2 b = none := by
              intro l
              induction l with
              | nil => intro _ _ hm; cases hm
              | cons i l ih =>
                intro H₁ N₁ hm
                simp only [mergeA]
                by_cases hi : b - H.next = i
                · have hbi : H.next + i = b := by omega
                  rw [hbi]
                  cases hN : N₁ b with
                  | none => exact mergeA_none l H₁ N₁ b hN
                  | some o' => exact mergeA_none l _ _ b (upd_self _ _ _)
                · have hm' : b - H.next ∈ l := by
                    rcases List.mem_cons.1 hm with h' | h'
                    · exact absurd h' hi
                    · exact h'
                  cases hN : N₁ (H.next + i) with
                  | none => exact ih _ _ hm'
                  | some o' => exact ih _ _ hm'
            rw [key (List.range ops.size) Sf.H Sf.N (List.mem_range.2 (by omega))] at hb
            cases hb
        have hgv : ∀ b, (mergeA H.next (List.range ops.size) Sf.H Sf.N).1.get b = view Sf.H Sf.N b := by
          intro b
          rw [← hM.same]
          unfold view
          rw [hnone]
          cases (mergeA H.next (List.range ops.size) Sf.H Sf.N).1.get b <;> rfl
        refine ⟨rfl, μ', ⟨hD.hr.weaken hM.next (fun b o hb => by rw [← hgv]; exact hb), hD.fwd.fewer hM.next (fun b o hb => by rw [← hgv]; exact hb)⟩, hD.fr⟩
      · have hview : ∀ b, view ({ H with next := H.next + ops.size } : Hp) (fun _ => none) b = H.get b := by
          intro b
          unfold view
          have : ({ H with next := H.next + ops.size } : Hp).get b = H.get b := rfl
          rw [this]
          cases H.get b <;> rfl
        have hvf : view ({ H with next := H.next + ops.size } : Hp) (fun _ => none) = H.get := funext hview
        refine ⟨?_, ?_, hf, (fun b o hb => by cases hb), (fun i hi _ => h.free (by omega)), (fun i _ => rfl), (fun j rd v hj => by cases hj), Nat.le_refl _, hcap⟩
        · simp only
          rw [hvf]
          have h' := h.world (w' := { w with drawn := w.drawn + 1 }) rfl
          exact ⟨fun b x e => by have := h'.dom b x e; omega, h'.blk, h'.inj, h'.obj, h'.glob⟩
        · simp only
          rw [hvf]
          have := Fwdg.world (μ := μ) (nx := H.next) (get := H.get) (w := w) (w' := { w with drawn := w.drawn + 1 }) rfl rfl rfl rfl
          exact this.lower (Nat.le_add_right _ _)
      · have hi' := (getD_replicate_true ops.size i).1 hi
        have := List.all_eq_true.1 hp2 i (List.mem_range.2 hi')
        obtain ⟨s, hs, hsi⟩ := List.any_eq_true.1 this
        exact ⟨s, hs, (beq_true_iff _ _).1 hsi⟩
    · cases hv

end
end Go.Ai
