/- A part of E, an interpreter of Go code on trees, proved sound over the model for every program. No condition beyond what each theorem states. -/
import Derived.Test.YtablhckgkgaaeaaDoorZeCtl
set_option linter.unusedSimpArgs false
set_option linter.unusedVariables false
namespace Go.E
open Go

/-! ### A function's body -/

def initF : Nat → List TV → List (Nat × V)
  | _, [] => []
  | i, t :: ts => (i, t.toV) :: initF (i + 1) ts

def initS (nt : Nat) (ts : List TV) : St := ⟨nt, initF 0 ts, [], []⟩

theorem RoTV.toV {w : World} {g : Gh} {as : List (Key × Arr)} : ∀ {t : TV} {v : Value}, RoTV w (Fz g.G) t v → VRep w g as t.toV v
  | .one t, v, h => RoT.toV (dep := none) h
  | .agg ts, v, ⟨cs, e, h⟩ => by simp only [TV.toV, VRep]; exact ⟨cs, e, RoL.toV (dep := none) h⟩

theorem RoArgs.length {w : World} {ok : Nat → Prop} : ∀ {ts : List TV} {vs : List Value}, RoArgs w ok ts vs → vs.length = ts.length
  | [], vs, h => by simp only [RoArgs] at h; subst h; rfl
  | t :: ts, vs, h => by
    simp only [RoArgs] at h
    obtain ⟨u, us, rfl, _, h2⟩ := h
    simp [RoArgs.length h2]

theorem look_initF {w : World} {g : Gh} {as : List (Key × Arr)} : ∀ {ts : List TV} {vs : List Value} {i t : Nat} {x : V}, RoArgs w (Fz g.G) ts vs → look t (initF i ts) = some x → i ≤ t ∧ ∃ v, vs[t - i]? = some v ∧ VRep w g as x v
  | [], vs, i, t, x, _, h => by simp [initF, look] at h
  | y :: ys, vs, i, t, x, hr, h => by
    simp only [RoArgs] at hr
    obtain ⟨u, us, rfl, h1, h2⟩ := hr
    simp only [initF, look] at h
    split at h
    · rename_i e
      subst e
      cases h
      exact ⟨Nat.le_refl _, u, by simp, RoTV.toV h1⟩
    · obtain ⟨h3, v, h4, h5⟩ := look_initF (w := w) (g := g) (as := as) h2 h
      have e : t - i = (t - (i + 1)) + 1 := by omega
      exact ⟨by omega, v, by rw [e]; simpa using h4, h5⟩

theorem Sim.init {w : World} {G : Ghost} {ts : List TV} {vs : List Value} {nt : Nat} (hlab : ∀ b, w.heap.size ≤ b → G b = none) (hargs : RoArgs w (Fz G) ts vs) (hn : ts.length ≤ nt) :
    Simm w G (initS nt ts) { tmps := List.toArray vs ++ Array.replicate (nt - (List.toArray vs).size) undef, defers := [] } w := by
  have hl := hargs.length
  refine ⟨⟨G, fun _ => 0, fun _ => (none, 0)⟩, { fr := Fr.refl w G, defers := rfl, nt := by simp [initS]; omega, frame := ?_, vars := fun d cells h => by simp [initS, look] at h, arrs := fun d cells h => by simp [initS, look] at h, lab := hlab }⟩
  intro t x hx
  simp only [initS] at hx
  obtain ⟨_, v, h4, h5⟩ := look_initF (w := w) (g := ⟨G, fun _ => 0, fun _ => (none, 0)⟩) (as := []) (i := 0) hargs hx
  have e : (List.toArray vs ++ Array.replicate (nt - (List.toArray vs).size) undef).getD t undef = v := by
    rw [Array.getD_eq_getD_getElem?]
    have ht : t < vs.length := by
      have := (List.getElem?_eq_some_iff.1 h4).1
      simpa using this
    have : (List.toArray vs ++ Array.replicate (nt - (List.toArray vs).size) undef)[t]? = some v := by
      rw [Array.getElem?_append_left (by simpa using ht)]
      simpa using h4
    rw [this]; rfl
  rw [e]
  exact h5

/-! What is handed back: nothing is written from then on. -/

def T.notOwn : T → Bool
  | .sl .own _ _ => false
  | _ => true

theorem OwT.of_ro {w : World} {G : Ghost} {κ : Key} {at_ : Option (Nat × Nat)} {t : T} {v : Value} (hn : t.notOwn = true) (h : RoT w (Fz G) t v) : OwT w G κ at_ t v := by
  cases t with
  | int k n => simpa only [OwT, RoT] using h
  | bool b => simpa only [OwT, RoT] using h
  | str s => simpa only [OwT, RoT] using h
  | sl g sz rows =>
    cases g with
    | own => cases hn
    | lent => simpa only [OwT, RoT] using h
    | shared => simpa only [OwT] using h
  | ptr row => simpa only [OwT] using h
  | fn f caps => simpa only [OwT] using h

def V.res (P : Program) (st : St) : V → Option T
  | .nil sz => some (.sl .own sz [])
  | x => match V.ro1 P st x with
    | some t => if t.notOwn then some t else none
    | none => none

def resL (P : Program) (st : St) : List V → Option (List T)
  | [] => some []
  | x :: xs => match V.res P st x, resL P st xs with
    | some t, some ts => some (t :: ts)
    | _, _ => none

def V.resTV (P : Program) (st : St) : V → Option TV
  | .agg vs => (resL P st vs).map .agg
  | x => (V.res P st x).map .one

def collV (P : Program) (st : St) : List ResultVar → Option (List TV)
  | [] => some []
  | .tmp t :: l => match (look t st.fr).bind (V.resTV P st), collV P st l with
    | some x, some xs => some (x :: xs)
    | _, _ => none
  | .cell a t :: l => match ((look a st.fr).bind (loadV P st t)).bind (V.resTV P st), collV P st l with
    | some x, some xs => some (x :: xs)
    | _, _ => none

def frozen (G : Ghost) : Ghost := fun b => match G b with | some .other => some .other | _ => none

theorem frozen_NO {G : Ghost} {b : Nat} (h : NO G b) : Fz (frozen G) b := by
  unfold Fz frozen
  unfold NO at h
  cases e : G b with
  | none => trivial
  | some l =>
    cases l with
    | other => exact absurd e h
    | var d => trivial
    | arr κ p mu => trivial

theorem V.res_ok {P : Program} {w0 : World} {G0 : Ghost} {st : St} {g : Gh} {a : Act} {w : World} (h : Sim w0 G0 st g a w) {x : V} {v : Value} {t : T} (hx : VRep w g st.as x v) (ht : V.res P st x = some t) {κ : Key} {at_ : Option (Nat × Nat)} :
    OwT w (frozen g.G) κ at_ t v := by
  unfold V.res at ht
  split at ht
  · cases ht
    simp only [VRep] at hx
    obtain ⟨base, rfl⟩ := hx
    simp only [OwT]
    exact ⟨base, 0, [], rfl, Nat.le_refl _, Nat.zero_le _, .inl (by simp)⟩
  · split at ht
    · rename_i t' h1
      split at ht
      · rename_i hn
        cases ht
        exact OwT.of_ro hn (RoT.mono (Nat.le_refl _) (fun b _ hb => ⟨frozen_NO hb, rfl⟩) (V.ro1_ok h hx h1))
      · cases ht
    · cases ht

theorem resL_ok {P : Program} {w0 : World} {G0 : Ghost} {st : St} {g : Gh} {a : Act} {w : World} (h : Sim w0 G0 st g a w) : ∀ {xs : List V} {vs : List Value} {ts : List T} {p q : Nat}, VRepL w g st.as xs vs → resL P st xs = some ts → ResL w (frozen g.G) p q ts vs
  | [], vs, ts, p, q, hx, ht => by simp only [resL, Option.some.injEq] at ht; subst ht; simpa only [VRepL, ResL] using hx
  | x :: xs, vs, ts, p, q, hx, ht => by
    simp only [resL] at ht
    split at ht
    · rename_i t ts' h1 h2
      cases ht
      simp only [VRepL, ResL] at hx ⊢
      obtain ⟨u, us, e, h3, h4⟩ := hx
      exact ⟨u, us, e, V.res_ok h h3 h1, resL_ok h h4 h2⟩
    · cases ht

theorem V.resTV_ok {P : Program} {w0 : World} {G0 : Ghost} {st : St} {g : Gh} {a : Act} {w : World} (h : Sim w0 G0 st g a w) {x : V} {v : Value} {t : TV} {p : Nat} (hx : VRep w g st.as x v) (ht : V.resTV P st x = some t) : ResTV w (frozen g.G) p t v := by
  unfold V.resTV at ht
  split at ht
  · rename_i vs
    cases hc : resL P st vs with
    | none => rw [hc] at ht; cases ht
    | some ts =>
      rw [hc] at ht
      cases ht
      simp only [VRep] at hx
      obtain ⟨cs, e, hcs⟩ := hx
      exact ⟨cs, e, resL_ok h hcs hc⟩
  · cases hc : V.res P st x with
    | none => rw [hc] at ht; cases ht
    | some ts =>
      rw [hc] at ht
      cases ht
      exact V.res_ok h hx hc

theorem collV_ok {P : Program} {w0 : World} {G0 : Ghost} {st : St} {g : Gh} {a : Act} {w : World} (h : Sim w0 G0 st g a w) : ∀ {l : List ResultVar} {rs : List TV} {p : Nat}, collV P st l = some rs →
    ∃ vs, (l.mapM fun
      | .tmp t => pure (a.tmps.getD t undef)
      | .cell x t => do loadVar t (← asAddr (a.tmps.getD x undef)) : Sem (List Value)).run P w = .ok vs w ∧ ResTVs w (frozen g.G) p rs vs
  | [], rs, p, hc => by
    simp only [collV, Option.some.injEq] at hc
    subst hc
    exact ⟨[], rfl, by simp only [ResTVs]⟩
  | .tmp t :: l, rs, p, hc => by
    simp only [collV] at hc
    split at hc
    · rename_i x xs h1 h2
      cases hc
      cases hl : look t st.fr with
      | none => rw [hl] at h1; cases h1
      | some y =>
        rw [hl] at h1
        obtain ⟨vs, hr, hv⟩ := collV_ok h (p := p + 1) h2
        refine ⟨a.tmps.getD t undef :: vs, ?_, ?_⟩
        · rw [List.mapM_cons]
          simp only [Sem.run_bind, Sem.run_pure, Result.andThen_ok]
          rw [hr]
          simp only [Result.andThen_ok]
        · simp only [ResTVs]
          exact ⟨_, _, rfl, V.resTV_ok h (h.frame t y hl) h1, hv⟩
    · cases hc
  | .cell b t :: l, rs, p, hc => by
    simp only [collV] at hc
    split at hc
    · rename_i x xs h1 h2
      cases hc
      cases hl : look b st.fr with
      | none => rw [hl] at h1; cases h1
      | some y =>
        rw [hl] at h1
        simp only [Option.bind_some] at h1
        cases hld : loadV P st t y with
        | none => rw [hld] at h1; cases h1
        | some z =>
          rw [hld] at h1
          obtain ⟨adr, v, he, hrun, hz⟩ := loadVar_ok h (h.frame b y hl) hld
          obtain ⟨vs, hr, hv⟩ := collV_ok h (p := p + 1) h2
          refine ⟨v :: vs, ?_, ?_⟩
          · rw [List.mapM_cons]
            have ha : (asAddr (a.tmps.getD b undef)).run P w = .ok adr w := by rw [he]; rfl
            simp only [Sem.run_bind, Sem.run_pure, Result.andThen_ok, ha, hrun]
            rw [hr]
            simp only [Result.andThen_ok]
          · simp only [ResTVs]
            exact ⟨_, _, rfl, V.resTV_ok h hz h1, hv⟩
    · cases hc

/-- Where a body ends. -/
def endW (P : Program) (res : List ResultVar) (rs : List TV) : Ex → St → Prop
  | .exit _, _ => False
  | _, st => collV P st res = some rs

theorem Fr.frozen {w0 w : World} {G0 G : Ghost} (h : Fr w0 G0 w G) : Fr w0 G0 w (E.frozen G) :=
  ⟨h.os, h.tape, h.output, h.size, fun b hb hs => by
    obtain ⟨h1, h2, h3⟩ := h.block b hb hs
    refine ⟨h1, fun e => frozen_NO fun e' => ?_, fun e => ?_⟩
    · have := h2 e
      unfold Fz at this
      rw [e'] at this
      exact this
    · unfold E.frozen
      rw [h3 e]⟩

/-- **A body's walk tells what its calls do.** -/
theorem SemR.of_body {P : Program} [Inv P] {f : FuncId} {fn : Func} {c : Code} {sc : SC} {ts rs : List TV} (hf : P.funcs[f]? = some fn) (hb : fn.body = some c) (hsc : stripC c = some sc) (hn : ts.length ≤ fn.ntmps)
    (h : CW P sc (endW P fn.results.toList rs) (initS fn.ntmps ts)) : SemR P f ts rs := by
  intro w G vs hI hG hlab hargs
  refine calls_of_wp hf hb (wp_mono (CW_ok ⟨hI, hG⟩ hsc h (Sim.init hlab hargs hn)) ?_)
  intro e a w' he
  have fin : ∀ st, collV P st fn.results.toList = some rs → Simm w G st a w' → a.defers = [] ∧ ∃ v, (results fn a.tmps).run P w' = .ok v w' ∧ ∃ v' G', Ending.returned v = .returned v' ∧ Fr w G w' G' ∧ (∀ b, w'.heap.size ≤ b → G' b = none) ∧ RetRep w' G' rs v' := by
    intro st hst ⟨g, hs⟩
    obtain ⟨vs', hr, hv⟩ := collV_ok hs (p := 0) hst
    refine ⟨hs.defers, (if h : vs'.length = 1 then vs'[0] else .tuple (List.toArray vs')), ?_, _, frozen g.G, rfl, hs.fr.frozen, fun b hb => by unfold frozen; rw [hs.lab b hb], vs', hv, rfl⟩
    unfold results
    have e : fn.results = List.toArray fn.results.toList := by simp
    rw [e, List.mapM_toArray, map_eq_pure_bind]
    simp only [Sem.run_bind]
    refine (congrArg (fun r => Result.andThen (Result.andThen r _) _) hr).trans ?_
    simp only [Result.andThen_ok, Sem.run_pure]
    congr 1
  cases e <;> simp only [postC] at he
  · obtain ⟨st, h1, h2⟩ := he
    exact fin st h1 h2
  · obtain ⟨st, h1, h2⟩ := he
    exact h1.elim
  · obtain ⟨st, h1, h2⟩ := he
    exact fin st h1 h2

theorem SemR.of_code {P : Program} [Inv P] {f : FuncId} {fn : Func} {sc : SC} {ts rs : List TV} (hf : P.funcs[f]? = some fn) (hsc : fn.body.bind stripC = some sc) (hn : ts.length ≤ fn.ntmps)
    (h : CW P sc (endW P fn.results.toList rs) (initS fn.ntmps ts)) : SemR P f ts rs := by
  cases hb : fn.body with
  | none => rw [hb] at hsc; cases hsc
  | some c => exact SemR.of_body hf hb (by rw [hb] at hsc; exact hsc) hn h

end Go.E
