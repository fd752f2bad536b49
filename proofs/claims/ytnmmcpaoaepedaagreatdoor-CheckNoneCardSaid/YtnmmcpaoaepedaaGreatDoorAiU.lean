/-
  Two operations that may stand in either order; an operation drawn to the front.
-/
import Derived.Test.YtnmmcpaoaepedaaGreatDoorAiT
noncomputable section
namespace Go.Ai

section
variable {E : Env} {L : Lv} {base : Nat}

theorem deff_congr {s : Ent} {o : Oper} {e e' : Operand → Option Value} (h : ∀ x ∈ o.op.operands, e x = e' x) (H : Hp) (N : Nat → Option AObj) (R : Recs) : deff E L base s o e H N R = deff E L base s o e' H N R := by
  unfold deff
  rw [opP_congr h, opA_congr h, opR_congr h]
  simp only [wrun_congr h]

/-- What is asked of a state where x has not been listed: nothing of it is there yet. -/
def Untold (base : Nat) (N : Nat → Option AObj) (R : Recs) (i : Nat) : Prop := N (base + i) = none ∧ R i = none

theorem deff_untold {s : Ent} {o : Oper} {e : Operand → Option Value} {H H' : Hp} {N N' : Nat → Option AObj} {R R' : Recs} {v : Value} (h : deff E L base s o e H N R = some (v, H', N', R')) {i : Nat} (hi : s.1 ≠ i) (hu : Untold base N R i) : Untold base N' R' i := by
  unfold deff at h
  split at h
  · split at h
    · cases h; exact hu
    · cases h
  · split at h
    · cases h; exact ⟨by rw [upd_other _ _ (by omega)]; exact hu.1, hu.2⟩
    · cases h
  · split at h
    · cases h; exact hu
    · split at h
      · cases h; exact ⟨hu.1, by rw [upd_other _ _ hi]; exact hu.2⟩
      · cases h
  · split at h
    rename_i H₁ N₁ hm
    split at h
    · rename_i v' H₂ hw
      cases hk : watchOk (view H₂ N₁) R s.2.1 with
      | false => rw [hk] at h; cases h
      | true =>
        rw [hk] at h; cases h
        have := mergeA_none (base := base) s.2.2 H N (base + i) hu.1
        rw [hm] at this
        exact ⟨this, hu.2⟩
    · cases h
  · cases h

theorem deff_mono {s : Ent} {o : Oper} {e : Operand → Option Value} {H H' : Hp} {N N' : Nat → Option AObj} {R R' : Recs} {v : Value} (h : deff E L base s o e H N R = some (v, H', N', R')) (hr : RMono R) : RMono R' := by
  unfold deff at h
  split at h
  · split at h
    · cases h; exact hr
    · cases h
  · split at h
    · cases h; exact hr
    · cases h
  · split at h
    · cases h; exact hr
    · split at h
      · rename_i v' hv
        cases h
        intro j rd u hj g g' w hm hw
        by_cases hs : s.1 = j
        · subst hs
          rw [upd_self] at hj; cases hj
          exact opR_more hm hw
        · rw [upd_other _ _ hs] at hj; exact hr j rd u hj g g' w hm hw
      · cases h
  · split at h
    rename_i H₁ N₁ hm
    split at h
    · rename_i v' H₂ hw
      cases hk : watchOk (view H₂ N₁) R s.2.1 with
      | false => rw [hk] at h; cases h
      | true => rw [hk] at h; cases h; exact hr
    · cases h
  · cases h

/-- **EITHER ORDER**, at the effects. -/
theorem deff_swap {x y : Ent} {ox oy : Oper} {ex ey : Operand → Option Value} (hk : kindsOk (kindOf E.C ox) (kindOf E.C oy) x y = true) (hne : x.1 ≠ y.1) {H H₁ H₂ : Hp} {N N₁ N₂ : Nat → Option AObj} {R R₁ R₂ : Recs} {vx vy : Value}
    (hux : Untold base N R x.1) (huy : Untold base N R y.1) (hR : RMono R)
    (h1 : deff E L base x ox ex H N R = some (vx, H₁, N₁, R₁)) (h2 : deff E L base y oy ey H₁ N₁ R₁ = some (vy, H₂, N₂, R₂)) :
    ∃ H₃ N₃ R₃, deff E L base y oy ey H N R = some (vy, H₃, N₃, R₃) ∧ deff E L base x ox ex H₃ N₃ R₃ = some (vx, H₂, N₂, R₂) := by
  -- an operation that hangs on no memory
  have pur : ∀ {s : Ent} {o : Oper} {e : Operand → Option Value} {v : Value}, (kindOf E.C o = .p ∨ kindOf E.C o = .r) → opP E.C e o = some v → ∀ H N R, deff E L base s o e H N R = some (v, H, N, R) := by
    intro s o e v hk hp H N R
    unfold deff
    rcases hk with hk | hk <;> rw [hk] <;> simp only [hp]
  have purInv : ∀ {s : Ent} {o : Oper} {e : Operand → Option Value} {v : Value} {H H' : Hp} {N N' : Nat → Option AObj} {R R' : Recs}, kindOf E.C o = .p → deff E L base s o e H N R = some (v, H', N', R') → opP E.C e o = some v ∧ H' = H ∧ N' = N ∧ R' = R := by
    intro s o e v H H' N N' R R' hk h
    unfold deff at h
    rw [hk] at h
    simp only at h
    split at h
    · rename_i u hu; cases h; exact ⟨hu, rfl, rfl, rfl⟩
    · cases h
  cases hkx : kindOf E.C ox with
  | p =>
    obtain ⟨hp, rfl, rfl, rfl⟩ := purInv hkx h1
    exact ⟨H₂, N₂, R₂, h2, pur (.inl hkx) hp _ _ _⟩
  | d => rw [hkx] at hk; simp [kindsOk] at hk
  | a =>
    rw [hkx] at hk
    cases hky : kindOf E.C oy with
    | p =>
      obtain ⟨hp, rfl, rfl, rfl⟩ := purInv hky h2
      exact ⟨_, _, _, pur (.inl hky) hp _ _ _, h1⟩
    | a =>
      unfold deff at h1 h2
      rw [hkx] at h1; rw [hky] at h2
      simp only at h1 h2
      split at h1
      · rename_i ob mk ha
        cases h1
        split at h2
        · rename_i ob' mk' ha'
          cases h2
          refine ⟨H, upd N (base + y.1) (some ob'), R, by unfold deff; rw [hky]; simp only [ha'], ?_⟩
          unfold deff; rw [hkx]; simp only [ha]
          rw [upd_comm _ _ _ (by omega : base + y.1 ≠ base + x.1)]
        · cases h2
      · cases h1
    | _ => rw [hky] at hk; simp [kindsOk] at hk
  | r =>
    rw [hkx] at hk
    cases hpx : opP E.C ex ox with
    | some u =>
      rw [pur (.inr hkx) hpx] at h1
      cases h1
      exact ⟨H₂, N₂, R₂, h2, pur (.inr hkx) hpx _ _ _⟩
    | none =>
      have h1' := h1
      unfold deff at h1
      rw [hkx] at h1
      simp only [hpx] at h1
      split at h1
      · rename_i u hrx
        cases h1
        cases hky : kindOf E.C oy with
        | p =>
          obtain ⟨hp, rfl, rfl, rfl⟩ := purInv hky h2
          exact ⟨_, _, _, pur (.inl hky) hp _ _ _, h1'⟩
        | d => rw [hky] at hk; simp [kindsOk] at hk
        | a =>
          unfold deff at h2
          rw [hky] at h2
          simp only at h2
          split at h2
          · rename_i ob' mk' ha'
            cases h2
            refine ⟨H, upd N (base + y.1) (some ob'), R, by unfold deff; rw [hky]; simp only [ha'], ?_⟩
            unfold deff; rw [hkx]
            simp only [hpx]
            rw [opR_more (view_upd_more huy.1) hrx]
          · cases h2
        | r =>
          cases hpy : opP E.C ey oy with
          | some u' =>
            rw [pur (.inr hky) hpy] at h2
            cases h2
            exact ⟨_, _, _, pur (.inr hky) hpy _ _ _, h1'⟩
          | none =>
            unfold deff at h2
            rw [hky] at h2
            simp only [hpy] at h2
            split at h2
            · rename_i u' hry
              cases h2
              refine ⟨H, N, upd R y.1 (some (opR E.C ey oy, vy)), by unfold deff; rw [hky]; simp only [hpy, hry], ?_⟩
              unfold deff; rw [hkx]
              simp only [hpx, hrx]
              rw [upd_comm _ _ _ (Ne.symm hne)]
            · cases h2
        | w =>
          rw [hky] at hk
          simp only [kindsOk] at hk
          unfold deff at h2
          rw [hky] at h2
          simp only at h2
          cases hmm : mergeA base y.2.2 H N with
          | mk Hm Nm =>
            rw [hmm] at h2
            simp only at h2
            split at h2
            · rename_i u' H' hw
              cases hwk : watchOk (view H' Nm) (upd R x.1 (some (opR E.C ex ox, vx))) y.2.1 with
              | false => rw [hwk] at h2; cases h2
              | true =>
                rw [hwk] at h2
                cases h2
                have hfew : watchOk (view H₂ N₂) R y.2.1 = true := watchOk_fewer (fun j => by
                  by_cases hj : x.1 = j
                  · subst hj; exact .inl hux.2
                  · exact .inr (by rw [upd_other _ _ hj])) _ hwk
                refine ⟨H₂, N₂, R, by unfold deff; rw [hky]; simp only [hmm, hw, hfew, cond_true], ?_⟩
                have hval := watchOk_mem (upd_self R x.1 _) y.2.1 (by simpa using hk) hwk
                unfold deff; rw [hkx]
                simp only [hpx, hval]
            · cases h2
      · cases h1
  | w =>
    rw [hkx] at hk
    cases hky : kindOf E.C oy with
    | p =>
      obtain ⟨hp, rfl, rfl, rfl⟩ := purInv hky h2
      exact ⟨_, _, _, pur (.inl hky) hp _ _ _, h1⟩
    | a =>
      rw [hky] at hk
      simp only [kindsOk, Bool.not_eq_true'] at hk
      have hnm : y.1 ∉ x.2.2 := by simpa using hk
      unfold deff at h1 h2
      rw [hkx] at h1; rw [hky] at h2
      simp only at h1 h2
      split at h2
      · rename_i ob' mk' ha'
        cases hmm : mergeA base x.2.2 H N with
        | mk Hm Nm =>
          rw [hmm] at h1
          simp only at h1
          split at h1
          · rename_i u' H' hw
            cases hwk : watchOk (view H' Nm) R x.2.1 with
            | false => rw [hwk] at h1; cases h1
            | true =>
              rw [hwk] at h1
              cases h1
              cases h2
              refine ⟨H, upd N (base + y.1) (some ob'), R, by unfold deff; rw [hky]; simp only [ha'], ?_⟩
              have hnone : N₁ (base + y.1) = none := by
                have := mergeA_none (base := base) x.2.2 H N (base + y.1) huy.1
                rw [hmm] at this; exact this
              have hwk' := watchOk_more hR (view_upd_more (o := some ob') hnone) _ hwk
              unfold deff; rw [hkx]
              simp only [mergeA_upd _ _ _ hnm, hmm, hw, hwk', cond_true]
          · cases h1
      · cases h2
    | _ => rw [hky] at hk; simp [kindsOk] at hk

/-! ### The steps -/

theorem putD_comm (F : Fr) {x y : Option Tmp} (v u : Value) (h : ∀ d, x = some d → y ≠ some d) : putD (putD F x v) y u = putD (putD F y u) x v := by
  cases x with
  | none => rfl
  | some d =>
    cases y with
    | none => rfl
    | some e =>
      have hne : d ≠ e := fun he => h d rfl (he ▸ rfl)
      simp only [putD, Fr.set]
      rw [T.put_comm _ _ _ _ _ hne]

theorem get_putD (F : Fr) {x : Option Tmp} (v : Value) {t : Tmp} (h : ∀ d, x = some d → d ≠ t) : (putD F x v).get t = F.get t := by
  cases x with
  | none => rfl
  | some d =>
    show T.look (T.put F.t d v) t = T.look F.t t
    rw [T.look_put, if_neg (fun hh => h d rfl hh.1)]

theorem evalA_putD {C : Ctx} (F : Fr) {ops : Array Oper} {x : Option Tmp} (v : Value) {o : Oper} (h : ∀ d, x = some d → d ∉ o.looksAt ops) : ∀ z ∈ o.op.operands, evalA C (putD F x v) z = evalA C F z := by
  intro z hz
  cases z with
  | tmp t =>
    simp only [evalA]
    rw [get_putD F v (fun d hd hdt => h d hd (by subst hdt; exact List.mem_append_left _ (List.mem_filterMap.2 ⟨.tmp d, by simpa using hz, rfl⟩)))]
  | _ => rfl

theorem wanted_putD (F : Fr) {ops : Array Oper} {x : Option Tmp} (v : Value) {o : Oper} (h : ∀ d, x = some d → d ∉ o.looksAt ops) : Region.wanted o (yieldedA ops.toList (putD F x v)) = Region.wanted o (yieldedA ops.toList F) := by
  unfold Region.wanted
  cases hg : o.guard with
  | none => rfl
  | some gw =>
    obtain ⟨g, want⟩ := gw
    have hy : yieldedA ops.toList (putD F x v) g = yieldedA ops.toList F g := by
      unfold yieldedA
      rw [Array.getElem?_toList]
      cases ho : ops[g]? with
      | none => rfl
      | some og =>
        simp only
        cases ht : og.dst with
        | none => rfl
        | some t =>
          simp only
          rw [get_putD F v (fun d hd hdt => h d hd (by subst hdt; simp [Oper.looksAt, hg, ho, ht]))]
    simp only [hy]

theorem dstep_some {ops : Array Oper} {s : Ent} {S S' : DS} (h : dstep E L ops.toList base s S = some S') :
    ∃ o, ops[s.1]? = some o ∧ ((Region.wanted o (yieldedA ops.toList S.F) = true ∧ ∃ v H N R, deff E L base s o (evalA E.C S.F) S.H S.N S.R = some (v, H, N, R) ∧ S' = { F := putD S.F o.dst v, H := H, N := N, R := R }) ∨
      (Region.wanted o (yieldedA ops.toList S.F) = false ∧ S' = { S with F := putD S.F o.dst undef })) := by
  unfold dstep at h
  split at h
  · cases h
  · rename_i o ho
    refine ⟨o, by simpa using ho, ?_⟩
    cases hw : Region.wanted o (yieldedA ops.toList S.F) with
    | false =>
      rw [hw] at h; simp only [cond_false, Option.some.injEq] at h
      exact .inr ⟨rfl, h.symm⟩
    | true =>
      rw [hw] at h; simp only [cond_true] at h
      split at h
      · rename_i v H N R hd
        simp only [Option.some.injEq] at h
        exact .inl ⟨rfl, v, H, N, R, hd, h.symm⟩
      · cases h

theorem dstep_wanted {ops : Array Oper} {s : Ent} {S : DS} {o : Oper} (ho : ops[s.1]? = some o) (hw : Region.wanted o (yieldedA ops.toList S.F) = true) {v : Value} {H : Hp} {N : Nat → Option AObj} {R : Recs}
    (hd : deff E L base s o (evalA E.C S.F) S.H S.N S.R = some (v, H, N, R)) : dstep E L ops.toList base s S = some { F := putD S.F o.dst v, H := H, N := N, R := R } := by
  unfold dstep
  rw [Array.getElem?_toList, ho]
  simp only [hw, cond_true, hd]
theorem dstep_unwanted {ops : Array Oper} {s : Ent} {S : DS} {o : Oper} (ho : ops[s.1]? = some o) (hw : Region.wanted o (yieldedA ops.toList S.F) = false) : dstep E L ops.toList base s S = some { S with F := putD S.F o.dst undef } := by
  unfold dstep
  rw [Array.getElem?_toList, ho]
  simp only [hw, cond_false]

/-- **EITHER ORDER**. -/
theorem dstep_swap {ops : Array Oper} {x y : Ent} {S S₁ S₂ : DS} {ox oy : Oper} (hx : ops[x.1]? = some ox) (hy : ops[y.1]? = some oy) (hk : kindsOk (kindOf E.C ox) (kindOf E.C oy) x y = true) (hap : ox.apart ops oy = true) (hne : x.1 ≠ y.1)
    (hux : Untold base S.N S.R x.1) (huy : Untold base S.N S.R y.1) (hR : RMono S.R) (h1 : dstep E L ops.toList base x S = some S₁) (h2 : dstep E L ops.toList base y S₁ = some S₂) :
    ∃ S₃, dstep E L ops.toList base y S = some S₃ ∧ dstep E L ops.toList base x S₃ = some S₂ := by
  obtain ⟨a1, a2, a3⟩ := Oper.apart_spec hap
  have wy : ∀ v, Region.wanted oy (yieldedA ops.toList (putD S.F ox.dst v)) = Region.wanted oy (yieldedA ops.toList S.F) := fun v => wanted_putD S.F v a1
  have wx : ∀ v, Region.wanted ox (yieldedA ops.toList (putD S.F oy.dst v)) = Region.wanted ox (yieldedA ops.toList S.F) := fun v => wanted_putD S.F v a3
  have cy : ∀ v H N R, deff E L base y oy (evalA E.C (putD S.F ox.dst v)) H N R = deff E L base y oy (evalA E.C S.F) H N R := fun v H N R => deff_congr (evalA_putD S.F v a1) H N R
  have cx : ∀ v H N R, deff E L base x ox (evalA E.C (putD S.F oy.dst v)) H N R = deff E L base x ox (evalA E.C S.F) H N R := fun v H N R => deff_congr (evalA_putD S.F v a3) H N R
  obtain ⟨ox', hx', h1⟩ := dstep_some h1
  rw [hx] at hx'; cases hx'
  obtain ⟨oy', hy', h2⟩ := dstep_some h2
  rw [hy] at hy'; cases hy'
  rcases h1 with ⟨hwx, vx, H₁, N₁, R₁, hdx, rfl⟩ | ⟨hwx, rfl⟩
  · rcases h2 with ⟨hwy, vy, H₂, N₂, R₂, hdy, rfl⟩ | ⟨hwy, rfl⟩
    · simp only at hwy hdy
      rw [wy] at hwy; rw [cy] at hdy
      obtain ⟨H₃, N₃, R₃, e1, e2⟩ := deff_swap hk hne hux huy hR hdx hdy
      refine ⟨_, dstep_wanted hy hwy e1, ?_⟩
      have := dstep_wanted (E := E) (L := L) (base := base) (S := { F := putD S.F oy.dst vy, H := H₃, N := N₃, R := R₃ }) hx (by simp only; rw [wx]; exact hwx) (by simp only; rw [cx]; exact e2)
      rw [this]
      simp only
      rw [putD_comm S.F vx vy a2]
    · simp only at hwy
      rw [wy] at hwy
      refine ⟨_, dstep_unwanted hy hwy, ?_⟩
      have := dstep_wanted (E := E) (L := L) (base := base) (S := { S with F := putD S.F oy.dst undef }) hx (by simp only; rw [wx]; exact hwx) (by simp only; rw [cx]; exact hdx)
      rw [this]
      simp only
      rw [putD_comm S.F vx undef a2]
  · rcases h2 with ⟨hwy, vy, H₂, N₂, R₂, hdy, rfl⟩ | ⟨hwy, rfl⟩
    · simp only at hwy hdy
      rw [wy] at hwy; rw [cy] at hdy
      refine ⟨_, dstep_wanted hy hwy hdy, ?_⟩
      have := dstep_unwanted (E := E) (L := L) (base := base) (S := { F := putD S.F oy.dst vy, H := H₂, N := N₂, R := R₂ }) hx (by simp only; rw [wx]; exact hwx)
      rw [this]
      simp only
      rw [putD_comm S.F undef vy a2]
    · simp only at hwy
      rw [wy] at hwy
      refine ⟨_, dstep_unwanted hy hwy, ?_⟩
      have := dstep_unwanted (E := E) (L := L) (base := base) (S := { S with F := putD S.F oy.dst undef }) hx (by simp only; rw [wx]; exact hwx)
      rw [this]
      simp only
      rw [putD_comm S.F undef undef a2]

theorem dstep_untold {ops : Array Oper} {s : Ent} {S S' : DS} (h : dstep E L ops.toList base s S = some S') {i : Nat} (hi : s.1 ≠ i) (hu : Untold base S.N S.R i) : Untold base S'.N S'.R i := by
  obtain ⟨o, _, h⟩ := dstep_some h
  rcases h with ⟨_, v, H, N, R, hd, rfl⟩ | ⟨_, rfl⟩
  · exact deff_untold hd hi hu
  · exact hu
theorem dstep_mono {ops : Array Oper} {s : Ent} {S S' : DS} (h : dstep E L ops.toList base s S = some S') (hr : RMono S.R) : RMono S'.R := by
  obtain ⟨o, _, h⟩ := dstep_some h
  rcases h with ⟨_, v, H, N, R, hd, rfl⟩ | ⟨_, rfl⟩
  · exact deff_mono hd hr
  · exact hr

/-- **AN OPERATION DRAWN TO THE FRONT.** -/
theorem bubble {ops : Array Oper} {s : Ent} {p₂ : List Ent} {Sf : DS} : ∀ (p₁ : List Ent) (S : DS),
    (∀ x ∈ p₁, ∃ ox oy, ops[x.1]? = some ox ∧ ops[s.1]? = some oy ∧ kindsOk (kindOf E.C ox) (kindOf E.C oy) x s = true ∧ ox.apart ops oy = true ∧ x.1 ≠ s.1) →
    (p₁.Pairwise fun x y => x.1 ≠ y.1) → (∀ x ∈ p₁, Untold base S.N S.R x.1) → Untold base S.N S.R s.1 → RMono S.R →
    drun E L ops.toList base (p₁ ++ s :: p₂) S = some Sf → drun E L ops.toList base (s :: (p₁ ++ p₂)) S = some Sf
  | [], S, _, _, _, _, _, h => h
  | x :: p₁, S, hok, hpw, hu, hus, hR, h => by
    simp only [List.cons_append, drun] at h
    split at h
    · rename_i S₁ h1
      obtain ⟨hx, hpw'⟩ := List.pairwise_cons.1 hpw
      obtain ⟨ox, oy, e1, e2, e3, e4, e5⟩ := hok x (by simp)
      have ih := bubble p₁ S₁ (fun z hz => hok z (by simp [hz])) hpw' (fun z hz => dstep_untold h1 (hx z hz) (hu z (by simp [hz]))) (dstep_untold h1 e5 hus) (dstep_mono h1 hR) h
      simp only [drun] at ih
      split at ih
      · rename_i S₂ h2
        obtain ⟨S₃, f1, f2⟩ := dstep_swap e1 e2 e3 e4 e5 (hu x (by simp)) hus hR h1 h2
        simp only [drun, f1, List.cons_append, f2]
        exact ih
      · cases ih
    · cases h

end

end Go.Ai
