/-
  A law's answer 'true', and a heap in which nothing that was there has turned: what the row asks of the call. What a world's shape tells of an integer variable.
-/
import Derived.ChangeStays
import Derived.ChangeSame
import Derived.ChangeBears
import Derived.Deep.DeepHandedRow
import Derived.RowKit
import Derived.OpenShut
import Derived.Lay
import Derived.LaidOnce
import Derived.Test.YtnmmcpaoaepedaaGreatDoorAiZ
noncomputable section
namespace Go.Ai
open Go.ChangeShapes Go.WideShapes Go.ChangeAt Go.RowKit

/-- All cells, all objects of the elder world as they were. -/
def Old (w w' : World) : Prop := w'.os = w.os ∧ w'.output = w.output ∧ w.heap.size ≤ w'.heap.size ∧ ∀ b, b < w.heap.size → w'.heap[b]? = w.heap[b]?

theorem Old.sameAt {w w' : World} (h : Old w w') {p : MemPlace} (hp : p.block < w.heap.size) : w.sameAt w' p := by
  cases p with
  | cell b off =>
    show w'.cell? ⟨b, off, none⟩ = w.cell? ⟨b, off, none⟩
    unfold World.cell?
    simp only
    rw [h.2.2.2 b hp]
  | map b => exact h.2.2.2 b hp

theorem Old.keptBut {w w' : World} (h : Old w w') (may : MemPlace → Prop) : w.keptBut w' may := by
  refine ⟨h.1, h.2.1, fun i hi => ?_⟩
  rw [h.2.2.2 i hi]
  split
  · rename_i e1 e2; rw [e1] at e2; cases e2; exact ⟨rfl, rfl, rfl, fun _ _ => rfl⟩
  · rename_i e1 e2; rw [e1] at e2; cases e2; exact .inr ⟨rfl, rfl⟩
  · rename_i o o' _ _; rfl

section
variable {H : Type} {enc : TypeId × Value → H} {P : Program}

theorem trodAll_old {T : TypeId → Prop} (K : Kids P T) (hsz : ∀ {t e : TypeId}, T t → P.underlying t = some (.slice e) → 0 < P.cellsOf e) {w w' : World} {sp : Nat → Bool} (ho : Old w w') :
    ∀ {ts : List TypeId} {vs : List Value} {ds : List (DataW H)} {ps : List MemPlace}, (∀ t ∈ ts, T t) → DataW.TrodAll enc P w 0 (fun _ => true) true ts vs ds ps → (∀ p ∈ ps, sp p.block = true) →
      DataW.TrodAll enc P w' 0 sp true ts vs ds ps
  | [], vs, ds, ps, _, h, _ => by
    obtain ⟨rfl, rfl, rfl⟩ := trodAll_nil h
    exact trodAll_mk0
  | t :: ts, vs, ds, ps, hT, h, hs => by
    obtain ⟨v, vs1, d, ds1, a, b, rfl, rfl, rfl, h1, h2⟩ := trodAll_cons h
    obtain ⟨fuel, hf⟩ := h1
    refine ⟨a, b, ⟨fuel, DataW.trod_stays K hsz (fun h => by cases h) (hT t (by simp)) hf (fun p hp => ho.sameAt (DataW.trod_lt fuel t _ _ hf p hp)) (fun p hp => hs p (by simp [hp]))⟩, ?_, rfl⟩
    exact trodAll_old K hsz ho (fun t ht => hT t (by simp [ht])) h2 (fun p hp => hs p (by simp [hp]))

theorem post_true {f : Func} {s : ChangeSpec} {apart fresh handsOn again : Bool} {W W' : World} {args : Array Value} {ds gs : List (DataW H)} {before : List MemPlace} {tb : TypeId} {T : TypeId → Prop}
    (K : Kids P T) (hsz : ∀ {t e : TypeId}, T t → P.underlying t = some (.slice e) → 0 < P.cellsOf e) (hT : ∀ t ∈ f.params.toList, T t)
    (hvars : s.vars = []) (hspec : s.fn H ds = { results := [.lit (.bool true)], args := ds }) (hres : f.resultTypes = #[tb]) (hb : P.underlying tb = some .bool)
    (hW : DataW.Whole enc P f.params.toList s.vars apart W args.toList ds gs before) (ho : Old W W') : s.post enc P f apart fresh handsOn again W args (.bool true) W' := by
  have hW0 := hW
  obtain ⟨p, q, hA, hV, rfl, hz, hn⟩ := hW
  rw [hvars] at hV
  obtain ⟨rfl, rfl⟩ := trodVars_none hV
  rw [List.append_nil] at hW0 hz hn
  have hspec' : s.fn H (ds ++ []) = { results := [.lit (.bool true)], args := ds } := by rw [List.append_nil]; exact hspec
  have hold : ∀ x ∈ p, (fun b => decide (b < W.heap.size)) x.block = true := fun x hx => by simpa using hW0.lt x hx
  have hargs : ∀ sp : Nat → Bool, (∀ x ∈ p, sp x.block = true) → DataW.TrodAll enc P W' 0 sp true f.params.toList args.toList ds p := fun sp hs => trodAll_old K hsz ho hT hA hs
  have hresl : ((Value.bool true).resultList f.resultTypes.size) = [.bool true] := by rw [hres]; rfl
  have hr : ∀ (b : Nat) (sp : Nat → Bool) (hd : Bool), DataW.TrodAll enc P W' b sp hd f.resultTypes.toList ((Value.bool true).resultList f.resultTypes.size) [.lit (.bool true)] [] := fun b sp hd => by
    rw [hresl, hres]
    exact trodAll_mk1 (shut_bool hb _)
  have hvm : ∀ sp : Nat → Bool, DataW.TrodVars enc P W' sp s.vars [] [] := fun sp => by rw [hvars]; rfl
  refine ⟨ds, [], p, [], p, [], hW0, ?_, ?_, ?_, World.keptBut_mono (fun x hx => ⟨hx, by simpa using hx⟩) (ho.keptBut _), fun _ => ?_⟩
  · rw [hspec']; exact hr _ _ _
  · rw [hspec']; exact hargs _ hold
  · rw [hspec']; exact hvm _
  · refine ⟨?_, _, _, ([] ++ p) ++ [], ⟨[] ++ p, [], trodAll_append (hargs _ (fun _ _ => rfl)) (hr _ _ _), hvm _, rfl, ?_, ?_⟩, ?_⟩
    · intro j t r h1 h2
      rw [hresl] at h2
      rw [hres] at h1
      have hj : j = 0 := by
        rcases j with _ | j
        · rfl
        · simp at h2
      subst hj
      simp at h1 h2
      subst h1; subst h2
      exact okWide_bool_mk hb _
    · intro b off hp
      have hp : MemPlace.cell b off ∈ p := by simpa using hp
      have := hz b off hp
      unfold World.frozen? at this ⊢
      have hlt := hW0.lt _ hp
      simp only [ho.2.2.2 b hlt]
      exact this
    · intro ha
      simpa using hn ha
    · intro x hx _
      simpa using hx

/-- No slice's elements are empty. -/
def slicesFull (P : Program) : Bool := (List.range P.types.size).all fun t => match P.underlying t with
  | some (.slice e) => decide (0 < P.cellsOf e)
  | _ => true
theorem slicesFull_ok (h : slicesFull P = true) {t e : TypeId} (ht : t < P.types.size) (hu : P.underlying t = some (.slice e)) : 0 < P.cellsOf e := by
  unfold slicesFull at h
  rw [List.all_eq_true] at h
  have := h t (List.mem_range.2 ht)
  rw [hu] at this
  exact of_decide_eq_true this

/-! ### What the form tells of an argument, and of a variable -/

theorem int_ok {t : TypeId} {k : IntKind} (hu : P.underlying t = some (.int k)) {w : World} {r : Reach} {b : Nat} {v : Value} (h : Cell.ok P w r b t v) : ∃ n, v = .int k n := by
  unfold Cell.ok at h
  rw [hu] at h
  cases v <;> simp at h
  obtain ⟨rfl, _⟩ := h
  exact ⟨_, rfl⟩
theorem int_okWide {t : TypeId} {k : IntKind} (hu : P.underlying t = some (.int k)) {w : World} {r : Reach} {b : Nat} {v : Value} (h : Cell.okWide P w r b t v) : ∃ n, v = .int k n := by
  unfold Cell.okWide at h
  rw [hu] at h
  refine int_ok (w := w) (r := r) (b := b) hu ?_
  cases v <;> exact h
theorem bool_ok {t : TypeId} (hu : P.underlying t = some .bool) {w : World} {r : Reach} {b : Nat} {v : Value} (h : Cell.ok P w r b t v) : ∃ n, v = .bool n := by
  unfold Cell.ok at h
  rw [hu] at h
  cases v <;> simp at h
  exact ⟨_, rfl⟩
theorem bool_okWide {t : TypeId} (hu : P.underlying t = some .bool) {w : World} {r : Reach} {b : Nat} {v : Value} (h : Cell.okWide P w r b t v) : ∃ n, v = .bool n := by
  unfold Cell.okWide at h
  rw [hu] at h
  refine bool_ok (w := w) (r := r) (b := b) hu ?_
  cases v <;> exact h

theorem int_okWideV {t : TypeId} {k : IntKind} (hu : P.underlying t = some (.int k)) {w : World} {r : Reach} {b : Nat} {v : Value} (h : Value.okWide P w r b t v) : ∃ n, v = .int k n := by
  unfold Value.okWide at h
  rw [hu] at h
  exact int_okWide hu h

/-- A struct (an array) of integers and bools, as a row of unknown ones; which bools it holds is told by 'bs'. -/
inductive Sc where
  | i (k : IntKind)
  | b
def Sc.fits (P : Program) (s : Sc) (t : TypeId) : Prop := match s with
  | .i k => P.underlying t = some (.int k)
  | .b => P.underlying t = some .bool
def Sc.abs (s : Sc) (c : Bool) : Value := match s with
  | .i k => unkI k
  | .b => .bool c

theorem struct_okWide {t : TypeId} {fs : Array Field} (hu : P.underlying t = some (.struct fs)) {w : World} {b : Nat} {v : Value} (h : Value.okWide P w .any b t v) {ts : List TypeId} (hts : P.cellTypes P.depth t = some ts)
    {ss : List Sc} (hss : ss.length = ts.length) (hfit : ∀ (i : Nat) (s : Sc) (u : TypeId), ss[i]? = some s → ts[i]? = some u → s.fits P u) (hc : P.cellsOf t = ts.length) :
    ∃ bs : Nat → Bool, ∀ μ, VR μ (.agg ((ss.zipIdx.map fun x => x.1.abs (bs x.2)).toArray)) v := by
  unfold Value.okWide at h
  rw [hu] at h
  obtain ⟨cs, rfl, hs, ts', hts', _, hall⟩ := h
  rw [hts] at hts'
  cases hts'
  rw [hc] at hs
  refine ⟨fun i => match cs[i]? with | some (.bool b) => b | _ => false, fun μ => .agg (by simp [hs, hss]) fun i v v' h1 h2 => ?_⟩
  have hi : i < ts.length := by
    have := (Array.getElem?_eq_some_iff.1 h2).1
    omega
  obtain ⟨u, hu', hok⟩ := hall i v' h2
  rw [Nat.mod_eq_of_lt hi] at hu'
  have hsi : ss[i]? = some (ss[i]'(by omega)) := List.getElem?_eq_getElem _
  have hf := hfit i _ u hsi hu'
  simp only [List.getElem?_toArray, List.getElem?_map, List.getElem?_zipIdx, hsi, Option.map_some, Nat.zero_add, Option.some.injEq] at h1
  subst h1
  generalize ss[i]'(by omega) = s at hf
  cases s with
  | i k =>
    obtain ⟨n, rfl⟩ := int_okWide hf hok
    exact .unkI k n
  | b =>
    obtain ⟨n, rfl⟩ := bool_okWide hf hok
    show VR μ (.bool _) _
    rw [h2]
    exact .bool n

/-- The same, off what the form tells of all arguments at once (a law over a program that is written out would else be unfolded). -/
theorem struct_arg {ps : Array TypeId} {args : Array Value} {w : World} {b : Nat} (hval : ∀ (j : Nat) t v, ps[j]? = some t → args[j]? = some v → Value.okWide P w .any b t v) (j : Nat) {t : TypeId} {v : Value} (hj : ps[j]? = some t) (ha : args[j]? = some v)
    {fs : Array Field} (hu : P.underlying t = some (.struct fs)) {ts : List TypeId} (hts : P.cellTypes P.depth t = some ts)
    {ss : List Sc} (hss : ss.length = ts.length) (hfit : ∀ (i : Nat) (s : Sc) (u : TypeId), ss[i]? = some s → ts[i]? = some u → s.fits P u) (hc : P.cellsOf t = ts.length) :
    ∃ bs : Nat → Bool, ∀ μ, VR μ (.agg ((ss.zipIdx.map fun x => x.1.abs (bs x.2)).toArray)) v := struct_okWide hu (hval j t v hj ha) hts hss hfit hc
theorem int_arg {ps : Array TypeId} {args : Array Value} {w : World} {b : Nat} (hval : ∀ (j : Nat) t v, ps[j]? = some t → args[j]? = some v → Value.okWide P w .any b t v) (j : Nat) {t : TypeId} {v : Value} (hj : ps[j]? = some t) (ha : args[j]? = some v)
    {k : IntKind} (hu : P.underlying t = some (.int k)) : ∃ n, v = .int k n := int_okWideV hu (hval j t v hj ha)

/-- A variable of one integer. -/
theorem var_int {w : World} (h : w.ShapedOpen P) {g : Nat} {t : TypeId} {k : IntKind} {zero : Array Value} (hg : g < P.globals.size)
    (h0 : ((begin P (fun _ _ => 0) default).world.heap[g]?).bind Obj.row? = some (zero, t)) (hz : zero.size = 1)
    (hb : P.buildable t = true) (hc : P.cellTypes P.depth t = some [t]) (hu : P.underlying t = some (.int k)) : ∃ m, w.heap[g]? = some (.cells #[.int k m] t) := by
  obtain ⟨cs, hh, hs, hr⟩ := h.1 g zero t hg h0
  obtain ⟨ts, hts, _, hall⟩ := hr hb
  rw [hc] at hts
  cases hts
  rw [hz] at hs
  obtain ⟨u, hu', hok⟩ := hall 0 (cs[0]'(by omega)) (by simp [hs])
  have : u = t := by simpa using hu'.symm
  subst this
  obtain ⟨m, hm⟩ := int_ok hu hok
  refine ⟨m, ?_⟩
  rw [hh]
  have : cs = #[.int k m] := by
    apply Array.ext
    · simpa using hs
    · intro i h1 h2
      have : i = 0 := by omega
      subst this
      simpa using hm
  rw [this]

/-- All the variables are there. -/
theorem vars_there {w : World} (h : w.ShapedOpen P) (hall : (List.range P.globals.size).all (fun g => (((begin P (fun _ _ => 0) default).world.heap[g]?).bind Obj.row?).isSome) = true) (g : Nat) (hg : g < P.globals.size) : g < w.heap.size := by
  rw [List.all_eq_true] at hall
  have := hall g (List.mem_range.2 hg)
  obtain ⟨x, hx⟩ := Option.isSome_iff_exists.1 this
  obtain ⟨zero, t⟩ := x
  obtain ⟨cs, hh, _⟩ := h.1 g zero t hg hx
  exact (Array.getElem?_eq_some_iff.1 hh).1

/-- The relation at a law's beginning: one variable of one integer is told of. -/
theorem hr_begin {C : Ctx} {w : World} {H : Hp} {g t : Nat} {k : IntKind} {m : Int} (hng : ∀ x, x < C.ng → x < w.heap.size) (hnext : H.next = C.ng) (hg : g < C.ng)
    (hget : ∀ b, H.get b = if g = b then some (.cells [.int k m] t false) else none) (hw : w.heap[g]? = some (.cells #[.int k m] t)) :
    HR C (fun b => if b < C.ng then some (b, 0, 0) else none) H w := by
  refine ⟨fun b x h => ?_, fun b c sh k h => ?_, fun b b' o o' c sh k sh' k' h1 h2 h3 h4 => ?_, fun b o h => ?_, fun x hx => ⟨0, by simp [hx]⟩⟩
  · by_cases hb : b < C.ng
    · omega
    · simp [hb] at h
  · by_cases hb : b < C.ng
    · simp [hb] at h; obtain ⟨rfl, _, _⟩ := h; exact hng _ hb
    · simp [hb] at h
  · rw [hget] at h1 h2
    by_cases e1 : g = b
    · by_cases e2 : g = b'
      · omega
      · rw [if_neg e2] at h2; cases h2
    · rw [if_neg e1] at h1; cases h1
  · rw [hget] at h
    by_cases e1 : g = b
    · subst e1
      rw [if_pos rfl] at h; cases h
      refine ⟨g, 0, 0, _, by simp [hg], hw, ?_⟩
      exact ⟨rfl, by simp, fun i v hv => ⟨v, by
        rcases i with _ | i
        · simpa using hv
        · simp at hv, by rcases i with _ | i <;> simp at hv; subst hv; exact .int k m⟩, fun _ => ⟨rfl, rfl, rfl⟩, (by intro h; cases h), fun i hi hh => by simp at hh⟩
    · rw [if_neg e1] at h; cases h

/-- Behind the run: what was there is as it was. -/
theorem old_of_went {C : Ctx} {w w' : World} {H H' : Hp} {μ μ' : Mu} {g t : Nat} {k : IntKind} {m : Int}
    (hget : ∀ b, H.get b = if g = b then some (.cells [.int k m] t false) else none) (hget' : H'.get g = some (.cells [.int k m] t false)) (hw : w.heap[g]? = some (.cells #[.int k m] t)) (hμ : ∃ x, μ g = some (g, 0, x)) (h : Went C μ H w H' w' μ') : Old w w' := by
  obtain ⟨hr, f⟩ := h
  refine ⟨f.os, f.output, f.size, fun b hb => ?_⟩
  obtain ⟨x, hx⟩ := hμ
  by_cases hbg : b = g
  · subst hbg
    obtain ⟨c, sh, k', o', e1, e2, e3⟩ := hr.obj b _ hget'
    rw [f.le _ _ hx] at e1
    simp only [Option.some.injEq, Prod.mk.injEq] at e1
    obtain ⟨rfl, rfl, rfl⟩ := e1
    rw [hw, e2]
    cases o' with
    | cells c e fz =>
      have e3 : CellsR C μ' 0 x [.int k m] t false c e fz := e3
      obtain ⟨_, hsz, rfl⟩ := e3.exact_ rfl
      obtain ⟨v', h1, h2⟩ := e3.row 0 _ rfl
      have hv : v' = .int k m := by cases h2; rfl
      subst hv
      have hc : c = #[.int k m] := by
        apply Array.ext
        · simpa using hsz
        · intro i h3 h4
          have : i = 0 := by simp at h4; omega
          subst this
          have h1 : c[0]? = some (.int k m) := by simpa using h1
          simpa [Array.getElem?_eq_getElem h3] using h1
      rw [hc, e3.elem]
    | _ => exact e3.elim
  · refine f.keep b hb fun b' o sh k' hg' hm => ?_
    rw [hget] at hg'
    by_cases e1 : g = b'
    · subst e1
      rw [hx] at hm
      simp only [Option.some.injEq, Prod.mk.injEq] at hm
      exact hbg hm.1.symm
    · rw [if_neg e1] at hg'; cases hg'

/-- A law's run at a heap that tells of one integer variable: the call, from every world that has the program's variables. -/
theorem law_calls {E : Env} (hE : EnvFull E) {n : Nat} {f : FuncId} {args : List Value} {H H' : Hp} {g t : Nat} {k : IntKind} {m : Int}
    (hrun : (level E n).call f args H = some (.bool true, H')) (hget : ∀ b, H.get b = if g = b then some (.cells [.int k m] t false) else none) (hget' : H'.get g = some (.cells [.int k m] t false))
    (hnext : H.next = E.C.ng) (hg : g < E.C.ng) {w : World} (hng : ∀ x, x < E.C.ng → x < w.heap.size) (hw : w.heap[g]? = some (.cells #[.int k m] t)) {args' : Array Value} (ha : ∀ μ, LR μ args args'.toList) :
    Calls E.C.P f args' w fun e w' => e = .returned (.bool true) ∧ Old w w' := by
  have h1 := ((level_ok hE n).call f args H _ H' hrun).2 _ args' w 0 (hr_begin hng hnext hg hget hw) (ha _)
  refine (callsIn_wide.1 h1).mono fun e w' he => ?_
  obtain ⟨v', μ', rfl, hwent, hv⟩ := he
  refine ⟨by cases hv; rfl, old_of_went hget hget' hw ⟨0, by simp [hg]⟩ hwent⟩

/-- 'There is an input that fits', at a world in which the listed variables are laid. -/
theorem witness_zip {C : Checked} {os : Os} {f : FuncId} {fn : Func} {s : OpenSpec} {conds : List PathCond} {apart : Bool} {laid : List (String × DataW Unit)} (w0 : World) (args : Array Value) (hos : w0.os = os)
    (hv : (w0.forCall (fun _ _ => 0) ⟨#[], args, []⟩).variablesZipB C.prog = true)
    (hr : ((w0.forCall (fun _ _ => 0) ⟨#[], args, []⟩).heap.toList.drop C.prog.globals.size).take ((begin C.prog (fun _ _ => 0) default).world.heap.size - C.prog.globals.size) =
      (begin C.prog (fun _ _ => 0) default).world.heap.toList.drop C.prog.globals.size)
    (hok : Input.okWideB C.prog (w0.forCall (fun _ _ => 0) ⟨#[], args, []⟩) f ⟨#[], args, []⟩ = true)
    (hrow : s.preRow enc C.prog fn conds apart laid (w0.forCall (fun _ _ => 0) ⟨#[], args, []⟩).memory args) :
    ∃ (w : World) (tape : Tape) (i : Input), w.os = os ∧ (w.forCall tape i).Shaped C.prog ∧ i.vars = [] ∧ Input.okWide C.prog (w.forCall tape i) .any w.heap.size f i ∧
      s.preRow enc C.prog fn conds apart laid (w.forCall tape i).memory i.args ∧ ({} : Assume).holds C.prog (lone (Frame.enter C.prog f i.args .normal) [] (w.forCall tape i)) :=
  ⟨w0, fun _ _ => 0, ⟨#[], args, []⟩, hos, World.shaped_of_ZipB hv hr, (Input.okWide_of_okWideB (base := 0) hok).1, (Input.okWide_of_okWideB hok).2, hrow, by
    simp only [Assume.holds]
    exact ⟨by simp, by simp, by simp, by simp, by simp⟩⟩

end
end Go.Ai
