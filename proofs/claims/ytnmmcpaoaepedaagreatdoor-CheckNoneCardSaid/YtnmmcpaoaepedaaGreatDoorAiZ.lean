/-
  A closed run from a small heap is a contract at every heap.
-/
import Derived.Test.YtnmmcpaoaepedaaGreatDoorAiY
noncomputable section
namespace Go.Ai

def isUnk : Value → Bool
  | .complex .f64 j 0 => Nat.blt j 8
  | .complex .f32 0 0 => true
  | _ => false
/-- What such a value stands for does not hang on the ids. -/
def looseV (v : Value) : Bool := flat v || isUnk v || (match v with | .agg cs => cs.toList.all (fun u => scalar u || isUnk u) | _ => false)

theorem unk_loose {μ₁ μ₂ : Mu} {v v' : Value} (h : isUnk v = true) (r : VR μ₁ v v') : VR μ₂ v v' := by
  cases r <;> first
    | exact .unkI _ _
    | exact .unkS _
    | (simp [isUnk] at h)

theorem looseV_ok {μ₁ μ₂ : Mu} {v v' : Value} (h : looseV v = true) (r : VR μ₁ v v') : VR μ₂ v v' := by
  unfold looseV at h
  simp only [Bool.or_eq_true] at h
  rcases h with (h | h) | h
  · rw [flat_eq h r]; exact flat_refl h
  · exact unk_loose h r
  · split at h
    · rename_i cs
      cases r with
      | agg hs hr =>
        refine .agg hs fun i v v' h1 h2 => ?_
        have hr := hr i v v' h1 h2
        have hm : v ∈ cs.toList := by
          have : cs.toList[i]? = some v := by simpa using h1
          exact List.mem_of_getElem? this
        have := List.all_eq_true.1 h v hm
        simp only [Bool.or_eq_true] at this
        rcases this with h3 | h3
        · rw [scalar_eq h3 hr]; exact scalar_refl h3
        · exact unk_loose h3 hr
    · cases h

theorem looseL_ok {μ₁ μ₂ : Mu} {l l' : List Value} (h : l.all looseV = true) (r : LR μ₁ l l') : LR μ₂ l l' :=
  ⟨r.1, fun i v v' h1 h2 => looseV_ok (List.all_eq_true.1 h v (List.mem_of_getElem? h1)) (r.2 i v v' h1 h2)⟩

def looseO : AObj → Bool
  | .cells cs _ _ => cs.all looseV
  | .map es _ => es.all fun e => looseV e.val
  | _ => false

theorem looseO_ok {C : Ctx} {μ₁ μ₂ : Mu} {sh k : Nat} {o : AObj} {o' : Obj} (h : looseO o = true) (r : OR C μ₁ sh k o o') : OR C μ₂ sh k o o' := by
  cases o with
  | cells cs e g =>
    cases o' with
    | cells c e' fz =>
      have r : CellsR C μ₁ sh k cs e g c e' fz := r
      exact ⟨r.elem, r.len, fun i v hv => (let ⟨v', h1, h2⟩ := r.row i v hv; ⟨v', h1, looseV_ok (List.all_eq_true.1 h v (List.mem_of_getElem? hv)) h2⟩), r.exact_, r.grow, r.thaw⟩
    | _ => exact r.elim
  | map es n =>
    cases o' with
    | map es' n' =>
      obtain ⟨⟨h1, h2⟩, h3⟩ := r
      refine ⟨⟨h1, fun i e e' a b => ?_⟩, h3⟩
      obtain ⟨c1, c2, c3, c4⟩ := h2 i e e' a b
      exact ⟨c1, c2, c3, looseV_ok (List.all_eq_true.1 h e (List.mem_of_getElem? a)) c4⟩
    | _ => exact r.elim
  | _ => simp [looseO] at h

section
variable {E : Env}

/-- What a run from the small heap H₀ says of a call at a heap that tells H₀ too. -/
theorem lift (hE : EnvFull E) {n : Nat} {g : FuncId} {args : List Value} {H₀ H' : Hp} {v : Value} (hrun : (level E n).call g args H₀ = some (v, H')) (hng : H₀.next = E.C.ng)
    (hfix : ∀ b o, H₀.get b = some o → b < E.C.ng ∧ H'.get b = some o ∧ looseO o = true) (hargs : args.all looseV = true) {μ : Mu} {H : Hp} {w : World} {args' : Array Value} (m : Nat) (h : HR E.C μ H w)
    (hH : ∀ b o, H₀.get b = some o → H.get b = some o) (ha : LR μ args args'.toList) :
    CallsIn Fence.wide m E.C.P g args' w (fun e w' => ∃ v' μ', e = .returned v' ∧ VR μ' v v' ∧ HR E.C μ' H' w' ∧ Went E.C μ H w H w' μ ∧ ∀ b o c sh k, H'.get b = some o → H₀.get b = none → μ' b = some (c, sh, k) → w.heap.size ≤ c) := by
  let μ₀ : Mu := fun b => if b < E.C.ng then μ b else none
  have hμ : ∀ b, b < E.C.ng → μ₀ b = μ b := fun b hb => by simp [μ₀, hb]
  have hle : Mu.le μ₀ μ := fun b x e => by
    by_cases hb : b < E.C.ng
    · rw [← hμ b hb]; exact e
    · simp [μ₀, hb] at e
  have h₀ : HR E.C μ₀ H₀ w := by
    refine ⟨fun b x e => ?_, fun b c sh k e => h.blk b c sh k (hle _ _ e), fun b b' o o' c sh k sh' k' g1 g2 e1 e2 => h.inj b b' o o' c sh k sh' k' (hH _ _ g1) (hH _ _ g2) (hle _ _ e1) (hle _ _ e2), fun b o hb => ?_, fun g hg => ?_⟩
    · by_cases hb : b < E.C.ng
      · rw [hng]; exact hb
      · simp [μ₀, hb] at e
    · obtain ⟨c, sh, k, o', h1, h2, h3⟩ := h.obj b o (hH b o hb)
      obtain ⟨h4, _, h5⟩ := hfix b o hb
      exact ⟨c, sh, k, o', by rw [hμ b h4]; exact h1, h2, looseO_ok h5 h3⟩
    · obtain ⟨k, e⟩ := h.glob g hg
      exact ⟨k, by rw [hμ g hg]; exact e⟩
  refine CallsIn.mono (((level_ok hE n).call g args H₀ v H' hrun).2 μ₀ args' w m h₀ (looseL_ok hargs ha)) fun e w' hret => ?_
  obtain ⟨v', μ', rfl, ⟨h', f⟩, hv⟩ := hret
  have hr : HR E.C μ H w' := by
    refine ⟨h.dom, fun b c sh k e => Nat.lt_of_lt_of_le (h.blk b c sh k e) f.size, h.inj, fun b o hb => ?_, h.glob⟩
    obtain ⟨c, sh, k, o', h1, h2, h3⟩ := h.obj b o hb
    cases h0 : H₀.get b with
    | some o₂ =>
      have := hH b o₂ h0
      rw [hb] at this; cases this
      obtain ⟨h4, h5, h6⟩ := hfix b o h0
      obtain ⟨c', sh', k', o₃, e1, e2, e3⟩ := h'.obj b o h5
      have := f.le b _ (by rw [hμ b h4]; exact h1)
      rw [e1] at this; cases this
      exact ⟨c, sh, k, o₃, h1, e2, looseO_ok h6 e3⟩
    | none =>
      refine ⟨c, sh, k, o', h1, ?_, h3⟩
      rw [f.keep c (h.blk b c sh k h1) ?_]; exact h2
      intro b₂ o₂ sh₂ k₂ g2 e2
      have := h.inj b b₂ o o₂ c sh k sh₂ k₂ hb (hH _ _ g2) h1 (hle _ _ e2)
      subst this; rw [h0] at g2; cases g2
  have hf : Fwd μ H w μ H w' := by
    refine ⟨Mu.le_refl μ, Nat.le_refl _, f.size, f.tape, f.os, f.output, fun _ _ e => .inl e, fun b o c sh k g1 e1 _ => ⟨b, o, sh, k, g1, e1⟩, fun c hc hn => f.keep c hc (fun b o sh k g1 e1 => hn b o sh k (hH _ _ g1) (hle _ _ e1)), fun b o g1 => .inl ⟨o, g1⟩⟩
  refine ⟨v', μ', rfl, hv, h', ⟨hr, hf⟩, fun b o c sh k g1 g2 e1 => ?_⟩
  rcases Nat.lt_or_ge c w.heap.size with hlt | hge
  · obtain ⟨b₀, o₀, s₀, k₀, g0, e0⟩ := f.img b o c sh k g1 e1 hlt
    have := h'.inj b b₀ o o₀ c sh k s₀ k₀ g1 (hfix _ _ g0).2.1 e1 (f.le _ _ e0)
    subst this; rw [g2] at g0; cases g0
  · exact hge

/-- A flat answer. -/
theorem lift_flat (hE : EnvFull E) {n : Nat} {g : FuncId} {args : List Value} {H₀ H' : Hp} {v : Value} (hrun : (level E n).call g args H₀ = some (v, H')) (hng : H₀.next = E.C.ng)
    (hfix : ∀ b o, H₀.get b = some o → b < E.C.ng ∧ H'.get b = some o ∧ looseO o = true) (hargs : args.all looseV = true) (hv : flat v = true) {H : Hp} (hH : ∀ b o, H₀.get b = some o → H.get b = some o) : CallOk E.C g args H v H := by
  refine ⟨((level_ok hE n).call g args H₀ v H' hrun).1, fun μ args' w m h ha => CallsIn.mono (lift hE hrun hng hfix hargs m h hH ha) fun e w' hret => ?_⟩
  obtain ⟨v', μ', rfl, h1, _, h3, _⟩ := hret
  rw [flat_eq hv h1]
  exact ⟨v, μ, rfl, h3, flat_refl hv⟩

/-- A new object beside a heap. -/
theorem Went.beside_new {C : Ctx} {μ : Mu} {H : Hp} {w w' : World} {c sh k : Nat} {ob : AObj} {o' : Obj} (h : HR C μ H w) (hw : Went C μ H w H w' μ) (hn : H.next < 2 ^ depthH) (hc : w.heap.size ≤ c) (hc' : w'.heap[c]? = some o') (ho : OR C (μ.ext H.next (c, sh, k)) sh k ob o') :
    Went C μ H w (H.new ob) w' (μ.ext H.next (c, sh, k)) := by
  obtain ⟨hr, f⟩ := hw
  have hfree := h.free (Nat.le_refl H.next)
  have hle := Mu.le_ext (c, sh, k) hfree
  have hlt : c < w'.heap.size := (Array.getElem?_eq_some_iff.1 hc').1
  have hget : ∀ b', (H.new ob).get b' = if H.next = b' then some ob else H.get b' := fun b' => Hp.get_new H b' ob hn
  have old : ∀ b c₁ sh₁ k₁, b ≠ H.next → μ.ext H.next (c, sh, k) b = some (c₁, sh₁, k₁) → μ b = some (c₁, sh₁, k₁) := fun b c₁ sh₁ k₁ hb e => by rw [Mu.ext_other _ _ hb] at e; exact e
  constructor
  · refine ⟨fun b x e => ?_, fun b c₁ sh₁ k₁ e => ?_, fun b1 b2 o1 o2 c₁ s1 k1 s2 k2 g1 g2 e1 e2 => ?_, fun b o hb => ?_, fun g hg => let ⟨k, e⟩ := h.glob g hg; ⟨k, hle _ _ e⟩⟩
    · by_cases hb : b = H.next
      · subst hb; simp
      · rw [Mu.ext_other _ _ hb] at e
        have := h.dom b x e
        simp; omega
    · by_cases hb : b = H.next
      · subst hb; rw [Mu.ext_self] at e; cases e; exact hlt
      · exact hr.blk b c₁ sh₁ k₁ (old _ _ _ _ hb e)
    · by_cases h1 : b1 = H.next <;> by_cases h2 : b2 = H.next
      · rw [h1, h2]
      · subst h1; rw [Mu.ext_self] at e1; cases e1
        have := h.blk _ _ _ _ (old _ _ _ _ h2 e2); omega
      · subst h2; rw [Mu.ext_self] at e2; cases e2
        have := h.blk _ _ _ _ (old _ _ _ _ h1 e1); omega
      · rw [hget, if_neg (Ne.symm h1)] at g1
        rw [hget, if_neg (Ne.symm h2)] at g2
        exact h.inj _ _ _ _ _ _ _ _ _ g1 g2 (old _ _ _ _ h1 e1) (old _ _ _ _ h2 e2)
    · rw [hget] at hb
      by_cases hbb : H.next = b
      · subst hbb
        rw [if_pos rfl] at hb; cases hb
        exact ⟨c, sh, k, o', Mu.ext_self _ _ _, hc', ho⟩
      · rw [if_neg hbb] at hb
        obtain ⟨c₁, sh₁, k₁, o₁, e1, e2, e3⟩ := hr.obj b o hb
        exact ⟨c₁, sh₁, k₁, o₁, hle _ _ e1, e2, e3.mono hle⟩
  · refine ⟨hle, by simp, f.size, f.tape, f.os, f.output, fun b x e => ?_, fun b o c₁ sh₁ k₁ g1 e1 h3 => ?_, f.keep, fun b o g1 => ?_⟩
    · by_cases hb : b = H.next
      · subst hb; exact .inr (Nat.le_refl _)
      · rw [Mu.ext_other _ _ hb] at e; exact .inl e
    · by_cases hb : b = H.next
      · subst hb; rw [Mu.ext_self] at e1; cases e1; omega
      · rw [hget, if_neg (Ne.symm hb)] at g1
        exact ⟨b, o, sh₁, k₁, g1, old _ _ _ _ hb e1⟩
    · rw [hget] at g1
      by_cases hb : H.next = b
      · subst hb; exact .inr (Nat.le_refl _)
      · rw [if_neg hb] at g1; exact .inl ⟨o, g1⟩

/-- A new map. -/
theorem lift_map (hE : EnvFull E) {n : Nat} {g : FuncId} {args : List Value} {H₀ H' : Hp} {b : Nat} {es : List MapEntry} {clk : Nat} (hrun : (level E n).call g args H₀ = some (.map (some b), H')) (hng : H₀.next = E.C.ng)
    (hfix : ∀ b o, H₀.get b = some o → b < E.C.ng ∧ H'.get b = some o ∧ looseO o = true) (hargs : args.all looseV = true) (hb : H'.get b = some (.map es clk)) (hb₀ : H₀.get b = none) (hl : looseO (.map es clk) = true)
    {H : Hp} (hH : ∀ b o, H₀.get b = some o → H.get b = some o) (hn : H.next < 2 ^ depthH) : CallOk E.C g args H (.map (some H.next)) (H.new (.map es clk)) := by
  refine ⟨((level_ok hE n).call g args H₀ _ H' hrun).1, fun μ args' w m h ha => CallsIn.mono (lift hE hrun hng hfix hargs m h hH ha) fun e w' hret => ?_⟩
  obtain ⟨v', μ', rfl, h1, h2, h3, h4⟩ := hret
  cases h1 with
  | @map _ c sh k hm =>
    obtain ⟨c', sh', k', o', e1, e2, e3⟩ := h2.obj b _ hb
    rw [hm] at e1; cases e1
    exact ⟨.map (some c), _, rfl, Went.beside_new h h3 hn (h4 b _ c sh k hb hb₀ hm) e2 (looseO_ok hl e3), .map (Mu.ext_self _ _ _)⟩

end
end Go.Ai
