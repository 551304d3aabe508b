/- A part of E, an interpreter of Go code on trees, proved sound over the model for every program. No condition beyond what each theorem states. -/
import Derived.Test.YtablhckgkgaaeaaDoorZeCall2
import Derived.Deep.Quiet
set_option linter.unusedSimpArgs false
set_option linter.unusedVariables false
namespace Go.E
open Go

/-! ### Operations that leave memory alone; in any order -/

/-- The world grew; what was there is as it was. -/
structure Grows (w w' : World) : Prop where
  os : w'.os = w.os
  tape : w'.tape = w.tape
  output : w'.output = w.output
  size : w.heap.size ≤ w'.heap.size
  old : ∀ b, b < w.heap.size → w'.heap[b]? = w.heap[b]?

theorem Grows.refl (w : World) : Grows w w := ⟨rfl, rfl, rfl, Nat.le_refl _, fun _ _ => rfl⟩
theorem Grows.drawn (w : World) (n : Nat) : Grows w { w with drawn := n } := ⟨rfl, rfl, rfl, Nat.le_refl _, fun _ _ => rfl⟩

theorem Sim.grows {w0 : World} {G0 : Ghost} {st : St} {g : Gh} {a : Act} {w w' : World} (h : Sim w0 G0 st g a w) (hg : Grows w w') : Sim w0 G0 st g a w' :=
  h.grow hg.os hg.tape hg.output hg.size hg.old

/-- Where a body starts. -/
structure Base (P : Program) [Inv P] (w0 : World) (G0 : Ghost) : Prop where
  inv : Inv.I P w0
  lab : ∀ b, G0 b = none ∨ G0 b = some .other

theorem Base.now {P : Program} [Inv P] {w0 : World} {G0 : Ghost} (h : Base P w0 G0) {w : World} {G : Ghost} (hf : Fr w0 G0 w G) : Inv.I P w :=
  Inv.stable w0 w hf.size (fun b hb => (hf.block b hb (by
    rcases h.lab b with e | e
    · exact .inl (by unfold Fz; rw [e]; trivial)
    · exact .inr e)).1) h.inv

def QuietV (P : Program) [Inv P] (o : Oper) (st : St) (x : V) : Prop :=
  ∀ (w0 : World) (G0 : Ghost) (g : Gh) (a : Act) (w : World), Base P w0 G0 → Sim w0 G0 st g a w → ∀ (K : Act → World → Prop) (Q : Exit → Act → World → Prop),
    (∀ v w', Grows w w' → VRep w' g st.as x v → K (a.put o.dst v) w') → o.wp P a w K Q

theorem PureV.quiet {P : Program} [Inv P] {o : Oper} {st : St} {x : V} (h : PureV P o st x) : QuietV P o st x := by
  intro w0 G0 g a w _ hs K Q hK
  obtain ⟨v, hrun, hx⟩ := h w0 G0 g a w hs
  unfold Oper.wp
  rw [hrun, Oper.upon_value]
  exact hK v w (Grows.refl w) hx

theorem QuietV.step {P : Program} [Inv P] {o : Oper} {st : St} {x : V} (h : QuietV P o st x) (hd : dstOk st.nt o.dst = true) {w0 : World} {G0 : Ghost} (hB : Base P w0 G0) {a : Act} {w : World} (hs : Simm w0 G0 st a w) {K : Act → World → Prop} {Q : Exit → Act → World → Prop}
    (hK : ∀ a' w', Simm w0 G0 (st.put o.dst x) a' w' → K a' w') : o.wp P a w K Q := by
  obtain ⟨g, hs⟩ := hs
  exact h w0 G0 g a w hB hs K Q fun v w' hg hx => hK _ _ ⟨g, (hs.grows hg).put hd hx⟩

theorem callRo_quiet {P : Program} [Inv P] {o : Oper} {c : Call} {st : St} {f : FuncId} {xs : List (V × Option Nat)} {ts rs : List TV} (ho : o.op = .call c) (hc : callArgs P st c = some (f, xs)) (hf : callable P f = true)
    (ht : roAll P st xs = some ts) (hsem : SemR P f ts rs) (hp : V.permL (xs.map (·.1)) = true ∨ rs.all TV.allOwn = true) : QuietV P o st (retV rs) := by
  intro w0 G0 g a w hB h K Q hK
  obtain ⟨vs, hvs, hrun⟩ := callArgs_ok h ho hc hf
  unfold Oper.wp
  rw [hrun]
  rw [Oper.upon_enter]
  have key : ∃ G : Ghost, (∀ b, G b = none ∨ G b = some .other) ∧ (∀ b, w.heap.size ≤ b → G b = none) ∧ RoArgs w (Fz G) ts vs ∧ ((∀ b, G b = none → Fz g.G b) ∨ rs.all TV.allOwn = true) := by
    rcases hp with hp | hp
    · have := Classical.propDecidable
      refine ⟨fun b => if Fz g.G b then none else some .other, fun b => ?_, fun b hb => ?_, ?_, .inl fun b hb => ?_⟩
      · by_cases hb : Fz g.G b <;> simp [hb]
      · have : Fz g.G b := by unfold Fz; rw [h.lab b hb]; trivial
        simp [this]
      · refine (roAll_perm hp hvs ht).okk fun b hb => ?_
        have e : (if Fz g.G b then (none : Option Lab) else some .other) = none := if_pos hb
        show (match (if Fz g.G b then (none : Option Lab) else some .other) with | none => True | some (.arr _ _ mu) => mu = false | some (.var _) => False | some .other => False)
        rw [e]; trivial
      · by_cases hb' : Fz g.G b
        · exact hb'
        · simp [hb'] at hb
    · exact ⟨noG, fun b => .inl rfl, fun b _ => rfl, (roAll_ok h hvs ht).okk (fun b _ => trivial), .inr hp⟩
  obtain ⟨G, hG1, hG2, hargs, hres⟩ := key
  refine (hsem w G vs (hB.now h.fr) hG1 hG2 hargs).mono fun e w' ⟨v, G', he, hfr, hlab, hret⟩ => ?_
  subst he
  have hold : ∀ b, b < w.heap.size → w'.heap[b]? = w.heap[b]? := fun b hb => (hfr.block b hb (by
    rcases hG1 b with e | e
    · exact .inl (by unfold Fz; rw [e]; trivial)
    · exact .inr e)).1
  have hnew : ∀ b, w.heap.size ≤ b → Fz g.G b := fun b hb => by unfold Fz; rw [h.lab b hb]; trivial
  refine hK _ _ ⟨hfr.os, hfr.tape, hfr.output, hfr.size, hold⟩ (hret.let_ (fun b κ p _ hb => ?_) (hres.imp (fun hr b hb hf => ?_) id))
  · rcases Nat.lt_or_ge b w.heap.size with hlt | hge
    · exfalso
      rcases hG1 b with e | e
      · have hf := (hfr.block b hlt (.inl (by unfold Fz; rw [e]; trivial))).2.1 (by unfold Fz; rw [e]; trivial)
        unfold Fz at hf
        rw [hb] at hf
        simp at hf
      · have := (hfr.block b hlt (.inr e)).2.2 e
        rw [hb] at this
        cases this
    · exact hnew b hge
  · rcases Nat.lt_or_ge b w.heap.size with hlt | hge
    · rcases hG1 b with e | e
      · exact hr b e
      · have := (hfr.block b hlt (.inr e)).2.2 e
        unfold Fz at hf
        rw [this] at hf
        exact hf.elim
    · exact hnew b hge

/-! Frames as functions. -/

abbrev Fun := Nat → Option V

def Fun.put (F : Fun) (d : Option Tmp) (x : V) : Fun :=
  match d with
  | some d => fun t => if t = d then some x else F t
  | none => F

theorem Fun.put_comm (F : Fun) {x y : Option Tmp} (v u : V) (h : ∀ d, x = some d → y ≠ some d) : (F.put x v).put y u = (F.put y u).put x v := by
  cases x with
  | none => rfl
  | some d =>
    cases y with
    | none => rfl
    | some e =>
      have hne : d ≠ e := fun he => h d rfl (he ▸ rfl)
      funext t
      simp only [Fun.put]
      by_cases h1 : t = d
      · subst h1; simp [hne]
      · simp [h1]

/-- What stands in some temporaries. -/
def Fun.only (F : Fun) (ts : List Tmp) : List (Nat × V) := ts.filterMap fun t => (F t).map fun x => (t, x)

theorem look_only (F : Fun) (t : Nat) : ∀ ts : List Tmp, ∀ x, look t (F.only ts) = some x → F t = some x
  | [], x, h => by simp [Fun.only, look] at h
  | s :: ts, x, h => by
    unfold Fun.only at h
    simp only [List.filterMap_cons] at h
    cases hs : F s with
    | none => rw [hs] at h; exact look_only F t ts x h
    | some y =>
      rw [hs] at h
      simp only [Option.map_some, look] at h
      split at h
      · rename_i e; subst e; rw [hs]; exact h
      · exact look_only F t ts x h

theorem Fun.only_put (F : Fun) (d : Option Tmp) (x : V) (ts : List Tmp) (h : ∀ e, d = some e → e ∉ ts) : (F.put d x).only ts = F.only ts := by
  cases d with
  | none => rfl
  | some d =>
    unfold Fun.only
    induction ts with
    | nil => rfl
    | cons t ts ih =>
      have hne : t ≠ d := fun e => h d rfl (by simp [e])
      have := ih fun e he => fun hm => h e he (List.mem_cons_of_mem _ hm)
      have e1 : (F.put (some d) x) t = F t := by simp [Fun.put, hne]
      simp only [List.filterMap_cons, e1, this]

/-- The state whose frame is this. -/
structure SimF (w0 : World) (G0 : Ghost) (nt : Nat) (vs : List (Key × List V)) (as : List (Key × Arr)) (F : Fun) (g : Gh) (a : Act) (w : World) : Prop where
  base : Sim w0 G0 ⟨nt, [], vs, as⟩ g a w
  frame : ∀ t x, F t = some x → VRep w g as x (a.tmps.getD t undef)

theorem SimF.only {w0 : World} {G0 : Ghost} {nt : Nat} {vs : List (Key × List V)} {as : List (Key × Arr)} {F : Fun} {g : Gh} {a : Act} {w : World} (h : SimF w0 G0 nt vs as F g a w) (ts : List Tmp) : Sim w0 G0 ⟨nt, F.only ts, vs, as⟩ g a w :=
  { fr := h.base.fr, defers := h.base.defers, nt := h.base.nt, frame := fun t x hx => h.frame t x (look_only F t ts x hx), vars := h.base.vars, arrs := h.base.arrs, lab := h.base.lab }

theorem SimF.of {w0 : World} {G0 : Ghost} {st : St} {g : Gh} {a : Act} {w : World} (h : Sim w0 G0 st g a w) : SimF w0 G0 st.nt st.vs st.as (fun t => look t st.fr) g a w :=
  ⟨{ fr := h.fr, defers := h.defers, nt := h.nt, frame := fun t x hx => by simp [look] at hx, vars := h.vars, arrs := h.arrs, lab := h.lab }, h.frame⟩
theorem SimF.to {w0 : World} {G0 : Ghost} {st : St} {F : Fun} {g : Gh} {a : Act} {w : World} (h : SimF w0 G0 st.nt st.vs st.as F g a w) (hF : ∀ t x, look t st.fr = some x → F t = some x) : Sim w0 G0 st g a w :=
  { fr := h.base.fr, defers := h.base.defers, nt := h.base.nt, frame := fun t x hx => h.frame t x (hF t x hx), vars := h.base.vars, arrs := h.base.arrs, lab := h.base.lab }

theorem SimF.put {w0 : World} {G0 : Ghost} {nt : Nat} {vs : List (Key × List V)} {as : List (Key × Arr)} {F : Fun} {g : Gh} {a : Act} {w w' : World} (h : SimF w0 G0 nt vs as F g a w) (hg : Grows w w') {d : Option Tmp} {x : V} {v : Value} (hd : dstOk nt d = true)
    (hx : VRep w' g as x v) : SimF w0 G0 nt vs as (F.put d x) g (a.put d v) w' := by
  have hb := h.base.grows hg
  have hst : Steps ff ff ff w g as w' g as := Steps.same hg.size fun b hb' _ => hg.old b hb'
  cases d with
  | none => exact ⟨hb, fun t y hy => (h.frame t y hy).keep hst⟩
  | some d =>
    have hd' : d < a.tmps.size := by rw [h.base.nt]; simpa [dstOk] using hd
    refine ⟨{ fr := hb.fr, defers := hb.defers, nt := by simpa [Act.put] using hb.nt, frame := fun t x hx => by simp [look] at hx, vars := hb.vars, arrs := hb.arrs, lab := hb.lab }, fun t y hy => ?_⟩
    simp only [Fun.put] at hy
    split at hy
    · rename_i e
      subst e
      cases hy
      have e : ((a.put (some t) v).tmps.getD t undef) = v := by simp [Act.put, Array.getD_eq_getD_getElem?, hd']
      rw [e]; exact hx
    · rename_i e
      have e' : d ≠ t := fun h => e h.symm
      have e2 : ((a.put (some d) v).tmps.getD t undef) = a.tmps.getD t undef := by simp [Act.put, Array.getD_eq_getD_getElem?, Array.getElem?_setIfInBounds, e']
      rw [e2]; exact (h.frame t y hy).keep hst

/-! Any order. -/

section
variable {P : Program} [Inv P] {ops : Array Oper} {md : Region.Mode} {nt : Nat} {vs : List (Key × List V)} {as : List (Key × Arr)}

/-- Whether an operation is carried out. -/
def wantF (ops : Array Oper) (o : Oper) (F : Nat → Option V) : Option Bool :=
  match o.guard with
  | none => some true
  | some (j, want) =>
    match (ops[j]?).bind (·.dst) with
    | some t => match F t with
      | some (.bool b) => some (b == want)
      | some (.opt c (.bool b)) => some (c && (b == want))
      | some (.tup []) => some false
      | _ => none
    | none => none

def YieldsF (P : Program) [Inv P] (ops : Array Oper) (nt : Nat) (vs : List (Key × List V)) (as : List (Key × Arr)) (o : Oper) (x : V) (F : Fun) : Prop :=
  dstOk nt o.dst = true ∧ ∃ c, wantF ops o F = some c ∧ (c = true → QuietV P o ⟨nt, F.only (o.looksAt ops), vs, as⟩ x) ∧ (c = false → ∀ w g as, VRep w g as x undef)

def aOp (P : Program) [Inv P] (ops : Array Oper) (nt : Nat) (vs : List (Key × List V)) (as : List (Key × Arr)) (i : Nat) (K : Fun → Prop) (F : Fun) : Prop :=
  match ops[i]? with
  | none => K F
  | some o => ∃ x, YieldsF P ops nt vs as o x F ∧ K (F.put o.dst x)

def aAny (P : Program) [Inv P] (md : Region.Mode) (ops : Array Oper) (nt : Nat) (vs : List (Key × List V)) (as : List (Key × Arr)) (Q : Fun → Prop) : Nat → Array Bool → Fun → Prop
  | 0, listed, F => Region.ready md ops listed = [] ∧ Q F
  | fuel + 1, listed, F =>
    (Region.ready md ops listed = [] → Q F) ∧
    ∀ i ∈ Region.ready md ops listed, aOp P ops nt vs as i (aAny P md ops nt vs as Q fuel (listed.setIfInBounds i true)) F

theorem wantF_put (o : Oper) (F : Fun) (d : Option Tmp) (x : V) (h : ∀ e, d = some e → e ∉ o.looksAt ops) : wantF ops o (F.put d x) = wantF ops o F := by
  cases d with
  | none => rfl
  | some d =>
    unfold wantF
    cases hg : o.guard with
    | none => rfl
    | some gw =>
      obtain ⟨g, want⟩ := gw
      dsimp only
      cases ht : (ops[g]?).bind (·.dst) with
      | none => rfl
      | some t =>
        have hne : t ≠ d := fun e => h d rfl (by subst e; simp [Oper.looksAt, hg, ht])
        simp [Fun.put, hne]

theorem YieldsF.put {o : Oper} {x : V} {F : Fun} (hy : YieldsF P ops nt vs as o x F) (d : Option Tmp) (y : V) (h : ∀ e, d = some e → e ∉ o.looksAt ops) : YieldsF P ops nt vs as o x (F.put d y) := by
  unfold YieldsF at *
  rw [wantF_put o F d y h, Fun.only_put F d y _ h]
  exact hy
theorem YieldsF.unput {o : Oper} {x : V} {F : Fun} (d : Option Tmp) (y : V) (hy : YieldsF P ops nt vs as o x (F.put d y)) (h : ∀ e, d = some e → e ∉ o.looksAt ops) : YieldsF P ops nt vs as o x F := by
  unfold YieldsF at *
  rw [wantF_put o F d y h, Fun.only_put F d y _ h] at hy
  exact hy

theorem aOp_mono {i : Nat} {F : Fun} {K K' : Fun → Prop} (h : ∀ a, K a → K' a) (hh : aOp P ops nt vs as i K F) : aOp P ops nt vs as i K' F := by
  unfold aOp at *
  split
  · rename_i e; simp only [e] at hh; exact h _ hh
  · rename_i o e
    simp only [e] at hh
    obtain ⟨x, h1, h2⟩ := hh
    exact ⟨x, h1, h _ h2⟩

theorem aOp_put {j : Nat} {oi oj : Oper} {x : V} (hj : ops[j]? = some oj) (hap : oi.apart ops oj = true) {K : Fun → Prop} {F : Fun}
    (hy : YieldsF P ops nt vs as oi x F) (h : aOp P ops nt vs as j K (F.put oi.dst x)) :
    aOp P ops nt vs as j (fun F' => YieldsF P ops nt vs as oi x F' ∧ K (F'.put oi.dst x)) F := by
  obtain ⟨h1, h2, h3⟩ := Oper.apart_spec hap
  unfold aOp at *
  simp only [hj] at *
  obtain ⟨y, hyy, hK⟩ := h
  exact ⟨y, hyy.unput _ _ h1, hy.put _ _ h3, by rw [← Fun.put_comm F x y h2]; exact hK⟩

theorem aAny_first {Q : Fun → Prop} {i : Nat} {oi : Oper} {x : V} (hi : ops[i]? = some oi) :
    ∀ (fuel : Nat) (listed : Array Bool) (F : Fun),
      (∀ j oj, ops[j]? = some oj → j ≠ i → listed.getD j true = false → (∀ e ∈ oj.after, Region.binds md e = true → e.on ≠ i) → oi.apart ops oj = true) →
      i ∈ Region.ready md ops listed → YieldsF P ops nt vs as oi x F →
      aAny P md ops nt vs as Q fuel (listed.setIfInBounds i true) (F.put oi.dst x) → aAny P md ops nt vs as Q (fuel + 1) listed F := by
  have self : ∀ {K : Fun → Prop} {F : Fun}, YieldsF P ops nt vs as oi x F → K (F.put oi.dst x) → aOp P ops nt vs as i K F := fun hy hK => by
    unfold aOp; simp only [hi]; exact ⟨x, hy, hK⟩
  intro fuel
  induction fuel with
  | zero =>
    intro listed F _ hr hy H
    refine ⟨fun h => (by rw [h] at hr; cases hr), fun j hj => ?_⟩
    by_cases hji : j = i
    · subst hji; exact self hy H
    · have := ready_mono hj hji
      rw [H.1] at this
      cases this
  | succ fuel ih =>
    intro listed F hfree hr hy H
    refine ⟨fun h => (by rw [h] at hr; cases hr), fun j hj => ?_⟩
    by_cases hji : j = i
    · subst hji; exact self hy H
    · have h1 := H.2 j (ready_mono hj hji)
      obtain ⟨hjun, oj, hoj, hall⟩ := mem_ready.1 hj
      have hnot : ∀ e ∈ oj.after, Region.binds md e = true → e.on ≠ i := fun e he hb heq => by
        have h1 := hall e he hb
        have h0 := (mem_ready.1 hr).1
        rw [heq] at h1
        rcases Nat.lt_or_ge i listed.size with h' | h'
        · simp [h'] at h0 h1; rw [h0] at h1; cases h1
        · simp [Array.getElem?_eq_none h'] at h1
      have h2 := aOp_put hoj (hfree j oj hoj hji hjun hnot) hy h1
      have hfree' : ∀ k ok, ops[k]? = some ok → k ≠ i → (listed.setIfInBounds j true).getD k true = false →
          (∀ e ∈ ok.after, Region.binds md e = true → e.on ≠ i) → oi.apart ops ok = true := fun k ok hk hki hun hno => by
        refine hfree k ok hk hki ?_ hno
        by_cases hjk : j = k
        · subst hjk; exact hjun
        · rw [getD_set_ne true hjk] at hun; exact hun
      refine aOp_mono (fun a' h3 => ih (listed.setIfInBounds j true) a' hfree' (ready_mono hr (Ne.symm hji)) h3.1 ?_) h2
      rw [Array.setIfInBounds_comm _ _ hji]
      exact h3.2

/-- The text's order. -/
def aLex (P : Program) [Inv P] (ops : Array Oper) (nt : Nat) (vs : List (Key × List V)) (as : List (Key × Arr)) (Q : Fun → Prop) : List Oper → Fun → Prop
  | [], F => Q F
  | o :: l, F => ∃ x, YieldsF P ops nt vs as o x F ∧ aLex P ops nt vs as Q l (F.put o.dst x)

theorem aAny_lex {Q : Fun → Prop} : ∀ (l : List Oper) (k : Nat) (listed : Array Bool) (F : Fun), (∀ j, l[j]? = ops[k + j]?) →
    Region.lexFrom md ops l.length k listed = true → aLex P ops nt vs as Q l F → aAny P md ops nt vs as Q l.length listed F
  | [], _, _, _, _, hB, h => ⟨by simpa [Region.lexFrom] using hB, h⟩
  | o :: l, k, listed, F, hl, hB, h => by
    have h0 : ops[k]? = some o := by simpa using (hl 0).symm
    simp only [List.length_cons, Region.lexFrom, Bool.and_eq_true] at hB
    obtain ⟨⟨hr, hf⟩, hB'⟩ := hB
    obtain ⟨x, hy, hK⟩ := h
    exact aAny_first h0 l.length listed F (Region.free_spec h0 hf) (by simpa using hr) hy
      (aAny_lex l (k + 1) _ _ (fun j => by have := hl (j + 1); simpa [Nat.add_assoc, Nat.add_comm 1 j] using this) hB' hK)

theorem wanted_of {w0 : World} {G0 : Ghost} {F : Fun} {g : Gh} {a : Act} {w : World} (h : SimF w0 G0 nt vs as F g a w) {o : Oper} {b : Bool} (hw : wantF ops o F = some b) : Region.wanted o (yielded ops a.tmps) = b := by
  unfold wantF at hw
  unfold Region.wanted
  split at hw
  · rename_i e; rw [e]; cases hw; rfl
  · rename_i j want e
    rw [e]; dsimp only
    split at hw
    · rename_i t ht
      have hin : ∀ v, a.tmps.getD t undef = v → v ≠ undef → a.tmps[t]? = some v := fun v hv hne => by
        rw [Array.getD_eq_getD_getElem?] at hv
        cases hc : a.tmps[t]? with
        | none => rw [hc] at hv; exact absurd hv.symm hne
        | some u => rw [hc] at hv; simp at hv; rw [hv]
      have hno : a.tmps.getD t undef = .tuple #[] → (match yielded ops a.tmps j with | x => (x == some want)) = false := fun e1 => by
        unfold yielded
        rw [ht]
        simp only [Option.bind_some]
        cases hc : a.tmps[t]? with
        | none => rfl
        | some u =>
          rw [Array.getD_eq_getD_getElem?, hc] at e1
          simp at e1
          rw [e1]
          rfl
      split at hw
      · rename_i c hF
        cases hw
        have := h.frame t _ hF
        simp only [VRep] at this
        have := hin _ this (by simp [undef])
        unfold yielded
        rw [ht]
        simp only [Option.bind_some, this]
        cases c <;> cases want <;> rfl
      · rename_i c' c hF
        cases hw
        have := h.frame t _ hF
        simp only [VRep] at this
        cases c' with
        | true =>
          have := hin _ (this.1 rfl) (by simp [undef])
          unfold yielded
          rw [ht]
          simp only [Option.bind_some, this]
          cases c <;> cases want <;> rfl
        | false => exact hno (this.2 rfl)
      · rename_i hF
        cases hw
        have := h.frame t _ hF
        simp only [VRep, VRepL] at this
        obtain ⟨cs, e1, rfl⟩ := this
        exact hno e1
      · cases hw
    · cases hw

theorem wpAny_of_aAny {w0 : World} {G0 : Ghost} (hB : Base P w0 G0) {Q : Fun → Prop} {Q' : Exit → Act → World → Prop} (hQ : ∀ F g a w, SimF w0 G0 nt vs as F g a w → Q F → Q' .normal a w) : ∀ (fuel : Nat) (listed : Array Bool) (F : Fun) (g : Gh) (a : Act) (w : World), SimF w0 G0 nt vs as F g a w →
    aAny P md ops nt vs as Q fuel listed F → wpAny P md ops Q' fuel listed a w
  | 0, _, _, _, _, _, hs, h => ⟨h.1, hQ _ _ _ _ hs h.2⟩
  | fuel + 1, listed, F, g, a, w, hs, h => by
    refine ⟨fun h0 => hQ _ _ _ _ hs (h.1 h0), fun i hi => ?_⟩
    have h2 := h.2 i hi
    unfold aOp at h2
    unfold wpOp
    split
    · rename_i e; simp only [e] at h2; exact wpAny_of_aAny hB hQ fuel _ _ g a w hs h2
    · rename_i o e
      simp only [e] at h2
      obtain ⟨x, ⟨hd, c, hw, hv1, hv2⟩, hK⟩ := h2
      cases c with
      | true =>
        have hv := hv1 rfl
        rw [wanted_of hs hw]
        simp only [if_true]
        refine .inl (hv w0 G0 g a w hB (hs.only _) _ _ fun v w' hg hx => ?_)
        exact wpAny_of_aAny hB hQ fuel _ _ g _ w' (hs.put hg hd hx) hK
      | false =>
        rw [wanted_of hs hw]
        simp only [Bool.false_eq_true, if_false]
        exact wpAny_of_aAny hB hQ fuel _ _ g _ w (hs.put (Grows.refl w) hd (hv2 rfl w g as)) hK

end

theorem wp_drawn {P : Program} [Inv P] {id : Nat} {ops : Array Oper} {st : St} {w0 : World} {G0 : Ghost} (hBa : Base P w0 G0) {a : Act} {w : World} {Q : Fun → Prop} {Q' : Exit → Act → World → Prop} (hm : P.follows .mixedOrders = true) (hB : Region.lexB .any ops = true) (hs : Simm w0 G0 st a w)
    (h : aLex P ops st.nt st.vs st.as Q ops.toList (fun t => look t st.fr)) (hQ : ∀ F g a w, SimF w0 G0 st.nt st.vs st.as F g a w → Q F → Q' .normal a w) : (Code.region id ops true).wp P Q' a w := by
  obtain ⟨g, hs⟩ := hs
  simp only [Region.lexB, Bool.and_eq_true] at hB
  refine wp_region_any hm ?_
  have := aAny_lex (P := P) (md := .any) ops.toList 0 (Array.replicate ops.size false) _ (by simp) (by simpa using hB.2) h
  exact wpAny_of_aAny hBa hQ _ _ _ g _ _ (SimF.of (hs.grows (Grows.drawn w _))) (by simpa using this)

end Go.E
