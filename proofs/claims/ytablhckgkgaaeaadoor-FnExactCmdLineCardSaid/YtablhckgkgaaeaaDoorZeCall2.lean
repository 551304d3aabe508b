/- A part of E, an interpreter of Go code on trees, proved sound over the model for every program. No condition beyond what each theorem states. -/
import Derived.Test.YtablhckgkgaaeaaDoorZeCall
set_option linter.unusedSimpArgs false
set_option linter.unusedVariables false
namespace Go.E
open Go

/-! ### Calling -/

mutual
/-- Ours altogether. -/
def T.allOwn : T → Bool
  | .int .. | .bool _ | .str _ => true
  | .sl .own _ rows => T.allOwnR rows
  | _ => false
def T.allOwnL : List T → Bool
  | [] => true
  | t :: ts => t.allOwn && T.allOwnL ts
def T.allOwnR : List (List T) → Bool
  | [] => true
  | r :: rs => T.allOwnL r && T.allOwnR rs
end

def TV.allOwn : TV → Bool
  | .one t => t.allOwn
  | .agg ts => T.allOwnL ts

theorem allOwnL_all (ts : List T) : T.allOwnL ts = ts.all T.allOwn := by
  induction ts with
  | nil => rfl
  | cons t ts ih => simp [T.allOwnL, ih]
theorem allOwnR_all (ts : List (List T)) : T.allOwnR ts = ts.all (fun r => r.all T.allOwn) := by
  induction ts with
  | nil => rfl
  | cons t ts ih => simp [T.allOwnR, ih, allOwnL_all]

mutual
/-- What is ours can be let go: read only from then on. -/
theorem OwT.let_ {w : World} {G : Ghost} {κ : Key} {ok : Nat → Prop} (hk : ∀ b p, b < w.heap.size → G b = some (.arr κ p true) → ok b) : ∀ {t : T} {at_ : Option (Nat × Nat)} {v : Value},
    ((∀ b, b < w.heap.size → Fz G b → ok b) ∨ t.allOwn = true) → OwT w G κ at_ t v → RoT w ok t v
  | .int .., _, v, _, h => by simpa only [OwT, RoT] using h
  | .bool _, _, v, _, h => by simpa only [OwT, RoT] using h
  | .str _, _, v, _, h => by simpa only [OwT, RoT] using h
  | .sl .own sz rows, at_, v, ha, h => by
    simp only [OwT, RoT] at h ⊢
    obtain ⟨base, cap, xs, e, hc, hm, hrow⟩ := h
    rcases hrow with ⟨h1, h2, h3⟩ | ⟨b, cur, el, e1, hG, hb, hsz, htk, hrow⟩
    · subst h1; subst h3
      exact ⟨base, cap, [], e, hc, hm, by simp [RoRows], fun hne => absurd rfl hne⟩
    · refine ⟨base, cap, xs, e, hc, hm, OwRows.let_ hk (ha.imp id (fun e => by simpa only [T.allOwn] using e)) hrow, fun _ => ⟨b, 0, e1, lt_of_heap hb, hk b at_ (lt_of_heap hb) hG, fun j u hj => ?_⟩⟩
      rw [cell_of_row w b (0 + j) cur el (0, 0) hb]
      rw [← htk, List.getElem?_take] at hj
      split at hj
      · simpa using hj
      · cases hj
  | .sl .lent sz rows, _, v, ha, h => by
    simp only [OwT] at h
    rcases ha with ha | ha
    · exact RoT.mono (Nat.le_refl _) (fun b hb hf => ⟨ha b hb hf, rfl⟩) (by simpa only [RoT] using h)
    · simp [T.allOwn] at ha
  | .sl .shared sz rows, _, v, ha, h => by
    simp only [OwT] at h
    rcases ha with ha | ha
    · exact RoT.mono (Nat.le_refl _) (fun b hb hf => ⟨ha b hb hf, rfl⟩) (by simpa only [RoT] using h)
    · simp [T.allOwn] at ha
  | .ptr row, _, v, ha, h => by
    simp only [OwT] at h
    rcases ha with ha | ha
    · exact RoT.mono (Nat.le_refl _) (fun b hb hf => ⟨ha b hb hf, rfl⟩) h
    · simp [T.allOwn] at ha
  | .fn f caps, _, v, ha, h => by
    simp only [OwT] at h
    rcases ha with ha | ha
    · exact RoT.mono (Nat.le_refl _) (fun b hb hf => ⟨ha b hb hf, rfl⟩) h
    · simp [T.allOwn] at ha
theorem OwL.let_ {w : World} {G : Ghost} {κ : Key} {ok : Nat → Prop} (hk : ∀ b p, b < w.heap.size → G b = some (.arr κ p true) → ok b) : ∀ {ts : List T} {b o : Nat} {vs : List Value},
    ((∀ b, b < w.heap.size → Fz G b → ok b) ∨ T.allOwnL ts = true) → OwL w G κ b o ts vs → RoL w ok ts vs
  | [], _, _, vs, _, h => by simpa only [OwL, RoL] using h
  | t :: ts, b, o, vs, ha, h => by
    simp only [OwL, RoL] at h ⊢
    obtain ⟨u, us, e, h1, h2⟩ := h
    exact ⟨u, us, e, OwT.let_ hk (ha.imp id (fun e => by simp only [T.allOwnL, Bool.and_eq_true] at e; exact e.1)) h1, OwL.let_ hk (ha.imp id (fun e => by simp only [T.allOwnL, Bool.and_eq_true] at e; exact e.2)) h2⟩
theorem OwRows.let_ {w : World} {G : Ghost} {κ : Key} {ok : Nat → Prop} (hk : ∀ b p, b < w.heap.size → G b = some (.arr κ p true) → ok b) : ∀ {rs : List (List T)} {b o sz : Nat} {vs : List Value},
    ((∀ b, b < w.heap.size → Fz G b → ok b) ∨ T.allOwnR rs = true) → OwRows w G κ b o sz rs vs → RoRows w ok sz rs vs
  | [], _, _, _, vs, _, h => by simpa only [OwRows, RoRows] using h
  | r :: rs, b, o, sz, vs, ha, h => by
    simp only [OwRows, RoRows] at h ⊢
    obtain ⟨c, d, e, hl, h1, h2⟩ := h
    exact ⟨c, d, e, hl, OwL.let_ hk (ha.imp id (fun e => by simp only [T.allOwnR, Bool.and_eq_true] at e; exact e.1)) h1, OwRows.let_ hk (ha.imp id (fun e => by simp only [T.allOwnR, Bool.and_eq_true] at e; exact e.2)) h2⟩
end

theorem ResL.let_ {w : World} {G : Ghost} {ok : Nat → Prop} (hk : ∀ b κ p, b < w.heap.size → G b = some (.arr κ p true) → ok b) : ∀ {ts : List T} {p q : Nat} {vs : List Value},
    ((∀ b, b < w.heap.size → Fz G b → ok b) ∨ T.allOwnL ts = true) → ResL w G p q ts vs → RoL w ok ts vs
  | [], _, _, vs, _, h => by simpa only [ResL, RoL] using h
  | t :: ts, p, q, vs, ha, h => by
    simp only [ResL, RoL] at h ⊢
    obtain ⟨u, us, e, h1, h2⟩ := h
    exact ⟨u, us, e, OwT.let_ (fun b p => hk b _ p) (ha.imp id (fun e => by simp only [T.allOwnL, Bool.and_eq_true] at e; exact e.1)) h1, ResL.let_ hk (ha.imp id (fun e => by simp only [T.allOwnL, Bool.and_eq_true] at e; exact e.2)) h2⟩

/-! What came back, held to be read only. -/

def TV.toV : TV → V
  | .one t => t.toV none
  | .agg ts => .agg (T.toVL none ts)

def retV (rs : List TV) : V :=
  match rs with
  | [r] => r.toV
  | rs => .tup (rs.map TV.toV)

/-- No component that is several cells among several results (a tuple's parts are told one by one). -/
theorem ResTVs.let_ {w : World} {g : Gh} {as : List (Key × Arr)} {G : Ghost} (hk : ∀ b κ p, b < w.heap.size → G b = some (.arr κ p true) → Fz g.G b) : ∀ {rs : List TV} {p : Nat} {vs : List Value},
    ((∀ b, b < w.heap.size → Fz G b → Fz g.G b) ∨ rs.all TV.allOwn = true) → ResTVs w G p rs vs → VRepL w g as (rs.map TV.toV) vs
  | [], _, vs, _, h => by simpa only [ResTVs, VRepL, List.map_nil] using h
  | r :: rs, p, vs, ha, h => by
    simp only [ResTVs, VRepL, List.map_cons] at h ⊢
    obtain ⟨u, us, e, h1, h2⟩ := h
    refine ⟨u, us, e, ?_, ResTVs.let_ hk (ha.imp id (fun e => by simp only [List.all_cons, Bool.and_eq_true] at e; exact e.2)) h2⟩
    have ha' : (∀ b, b < w.heap.size → Fz G b → Fz g.G b) ∨ r.allOwn = true := ha.imp id (fun e => by simp only [List.all_cons, Bool.and_eq_true] at e; exact e.1)
    cases r with
    | one t => exact RoT.toV (dep := none) (OwT.let_ (fun b p => hk b _ p) ha' h1)
    | agg ts =>
      simp only [ResTV] at h1
      obtain ⟨cs, e, hc⟩ := h1
      simp only [TV.toV, VRep]
      exact ⟨cs, e, RoL.toV (dep := none) (ResL.let_ hk ha' hc)⟩

theorem RetRep.let_ {w : World} {g : Gh} {as : List (Key × Arr)} {G : Ghost} {rs : List TV} {v : Value} (hk : ∀ b κ p, b < w.heap.size → G b = some (.arr κ p true) → Fz g.G b)
    (ha : (∀ b, b < w.heap.size → Fz G b → Fz g.G b) ∨ rs.all TV.allOwn = true) (h : RetRep w G rs v) : VRep w g as (retV rs) v := by
  obtain ⟨vs, h1, h2⟩ := h
  have h3 := ResTVs.let_ (as := as) hk ha h1
  have hl := h3.length
  simp only [List.length_map] at hl
  unfold retV
  split
  · rename_i r
    simp only [List.map_cons, List.map_nil, VRepL] at h3
    obtain ⟨u, us, rfl, h4, rfl⟩ := h3
    simp only [List.length_singleton, List.getElem_cons_zero, dite_true] at h2
    subst h2
    exact h4
  · rename_i rs' hne
    have : ¬ vs.length = 1 := by
      intro e
      rw [e] at hl
      match rs, hl with
      | [r], _ => exact hne r rfl
    rw [dif_neg this] at h2
    simp only [VRep]
    exact ⟨vs, h2, h3⟩

mutual
/-- What does not hang on our own memory. -/
def V.perm : V → Bool
  | .int .. | .bool _ | .str _ | .nil _ | .sl none _ _ | .rptr none _ _ => true
  | .fn _ caps => V.permL caps
  | .agg vs => V.permL vs
  | _ => false
def V.permL : List V → Bool
  | [] => true
  | x :: xs => x.perm && V.permL xs
end

mutual
theorem V.perm_ro {P : Program} {w : World} {g : Gh} {st : St} : ∀ {x : V} {v : Value} {t : T}, x.perm = true → VRep w g st.as x v → V.ro P st x = some t → RoT w (Fz g.G) t v
  | .int .., v, t, _, hx, ht => by simp only [V.ro, Option.some.injEq] at ht; subst ht; simpa only [VRep, RoT] using hx
  | .bool _, v, t, _, hx, ht => by simp only [V.ro, Option.some.injEq] at ht; subst ht; simpa only [VRep, RoT] using hx
  | .str _, v, t, _, hx, ht => by simp only [V.ro, Option.some.injEq] at ht; subst ht; simpa only [VRep, RoT] using hx
  | .nil sz, v, t, _, hx, ht => by
    simp only [V.ro, Option.some.injEq] at ht
    subst ht
    simp only [VRep] at hx
    obtain ⟨base, rfl⟩ := hx
    simp only [RoT]
    exact ⟨base, 0, [], rfl, Nat.le_refl _, Nat.zero_le _, by simp [RoRows], fun e => absurd rfl e⟩
  | .sl none sz rows, v, t, _, hx, ht => by
    simp only [V.ro, Option.some.injEq] at ht
    subst ht
    simp only [VRep] at hx
    exact RoT.share hx
  | .sl (some κ) sz rows, v, t, hp, hx, ht => by simp [V.perm] at hp
  | .ref .., v, t, hp, hx, ht => by simp [V.perm] at hp
  | .vptr .., v, t, hp, hx, ht => by simp [V.perm] at hp
  | .eptr .., v, t, hp, hx, ht => by simp [V.perm] at hp
  | .tup .., v, t, hp, hx, ht => by simp [V.perm] at hp
  | .undef, v, t, hp, hx, ht => by simp [V.perm] at hp
  | .agg _, v, t, _, hx, ht => by simp [V.ro] at ht
  | .rptr none row j, v, t, _, hx, ht => by
    simp only [V.ro, Option.some.injEq] at ht
    subst ht
    simp only [VRep] at hx
    obtain ⟨b, o, xs, e, hlt, hok, hrow, hcell⟩ := hx
    subst e
    exact RoT.share (ptr_ro hlt hok hrow hcell j)
  | .rptr (some κ) row j, v, t, hp, hx, ht => by simp [V.perm] at hp
  | .fn f caps, v, t, hp, hx, ht => by
    simp only [V.ro] at ht
    simp only [V.perm] at hp
    cases hc : V.roL P st caps with
    | none => rw [hc] at ht; cases ht
    | some ts =>
      rw [hc] at ht
      cases ht
      simp only [VRep] at hx
      obtain ⟨cs, e, hcs⟩ := hx
      simp only [RoT]
      exact ⟨cs, e, V.permL_ro hp hcs hc⟩
theorem V.permL_ro {P : Program} {w : World} {g : Gh} {st : St} : ∀ {xs : List V} {vs : List Value} {ts : List T}, V.permL xs = true → VRepL w g st.as xs vs → V.roL P st xs = some ts → RoL w (Fz g.G) ts vs
  | [], vs, ts, _, hx, ht => by simp only [V.roL, Option.some.injEq] at ht; subst ht; simpa only [VRepL, RoL] using hx
  | x :: xs, vs, ts, hp, hx, ht => by
    simp only [V.permL, Bool.and_eq_true] at hp
    simp only [V.roL] at ht
    split at ht
    · rename_i t ts' h1 h2
      cases ht
      simp only [VRepL, RoL] at hx ⊢
      obtain ⟨u, us, e, h3, h4⟩ := hx
      exact ⟨u, us, e, V.perm_ro hp.1 h3 h1, V.permL_ro hp.2 h4 h2⟩
    · cases ht
end

theorem roL1_perm {P : Program} {st : St} : ∀ {xs : List V}, V.permL xs = true → V.ro1.roL1 P st xs = V.roL P st xs
  | [], _ => rfl
  | x :: xs, hp => by
    simp only [V.permL, Bool.and_eq_true] at hp
    have := roL1_perm (P := P) (st := st) hp.2
    cases x <;> simp only [V.perm, Bool.false_eq_true, false_and] at hp <;> simp only [V.ro1.roL1, V.roL, this]

theorem V.perm_roTV {P : Program} {w : World} {g : Gh} {st : St} {n : Option Nat} {x : V} {v : Value} {t : TV} (hp : x.perm = true) (hx : VRep w g st.as x v) (ht : V.roTV P st n x = some t) : RoTV w (Fz g.G) t v := by
  unfold V.roTV at ht
  split at ht
  · rename_i vs
    cases hc : V.roL P st vs with
    | none => rw [hc] at ht; cases ht
    | some ts =>
      rw [hc] at ht
      cases ht
      simp only [VRep] at hx
      obtain ⟨cs, e, hcs⟩ := hx
      exact ⟨cs, e, V.permL_ro (by simpa only [V.perm] using hp) hcs hc⟩
  · have e1 : V.ro1 P st x = V.ro P st x := by
      cases x <;> simp only [V.perm, Bool.false_eq_true] at hp <;> simp only [V.ro1, V.ro]
      rw [roL1_perm hp]
    rw [e1] at ht
    split at ht
    · rename_i row m h1
      split at ht
      · cases ht
        have := V.perm_ro hp hx h1
        simp only [RoTV, RoT] at this ⊢
        obtain ⟨b, o, xs, e, hlt, hok, hrow, hcell⟩ := this
        refine ⟨b, o, xs.take m, e, hlt, hok, hrow.take m, fun i u hi => ?_⟩
        rw [List.getElem?_take] at hi
        split at hi
        · exact hcell i u hi
        · cases hi
      · cases ht
    · rename_i t' h1
      cases ht
      exact V.perm_ro hp hx h1
    · cases ht

/-! The operation. -/

def ptN (P : Program) (t : TypeId) : Option Nat :=
  match P.underlying t with
  | some (.pointer e) => tySz P e
  | _ => none

/-- The arguments: each under its type; what is captured stands behind. -/
def argVs (P : Program) (st : St) : List Operand → List TypeId → Option (List (V × Option Nat))
  | [], _ => some []
  | o :: os, t :: ts => match evT P st t o, argVs P st os ts with
    | some x, some xs => some ((x, ptN P t) :: xs)
    | _, _ => none
  | _ :: _, [] => none

def calleeV (st : St) : Operand → Option (FuncId × List V)
  | .func f => some (f, [])
  | o => match evO st o with
    | some (.fn f caps) => some (f, caps)
    | _ => none

def callArgs (P : Program) (st : St) (c : Call) : Option (FuncId × List (V × Option Nat)) :=
  match c.callee with
  | .value fo =>
    match calleeV st fo, argVs P st c.args.toList c.argTypes.toList with
    | some (f, caps), some xs => some (f, xs ++ caps.map fun x => (x, none))
    | _, _ => none
  | _ => none

def roAll (P : Program) (st : St) : List (V × Option Nat) → Option (List TV)
  | [] => some []
  | (x, n) :: xs => match V.roTV P st n x, roAll P st xs with
    | some t, some ts => some (t :: ts)
    | _, _ => none

def callable (P : Program) (f : FuncId) : Bool :=
  match P.funcs[f]? with
  | some fn => fn.name != "runtime.NumGoroutine" && fn.body.isSome
  | none => false

theorem argVs_ok {P : Program} {w0 : World} {G0 : Ghost} {st : St} {g : Gh} {a : Act} {w : World} (h : Sim w0 G0 st g a w) : ∀ {os : List Operand} {ts : List TypeId} {xs : List (V × Option Nat)}, argVs P st os ts = some xs →
    VRepL w g st.as (xs.map (·.1)) (os.map a.eval)
  | [], ts, xs, e => by simp only [argVs, Option.some.injEq] at e; subst e; simp [VRepL]
  | o :: os, [], xs, e => by simp [argVs] at e
  | o :: os, t :: ts, xs, e => by
    simp only [argVs] at e
    split at e
    · rename_i x ys h1 h2
      cases e
      simp only [List.map_cons, VRepL]
      exact ⟨_, _, rfl, evT_ok h h1, argVs_ok h h2⟩
    · cases e

theorem callArgs_ok {P : Program} {w0 : World} {G0 : Ghost} {st : St} {g : Gh} {a : Act} {w : World} (h : Sim w0 G0 st g a w) {o : Oper} {c : Call} (ho : o.op = .call c) {f : FuncId} {xs : List (V × Option Nat)}
    (hc : callArgs P st c = some (f, xs)) (hf : callable P f = true) : ∃ vs, VRepL w g st.as (xs.map (·.1)) vs ∧ (execOp a.eval o).run P w = .ok (.enter f (List.toArray vs)) w := by
  unfold callArgs at hc
  split at hc
  · rename_i fo hfo
    split at hc
    · rename_i f' caps ys h1 h2
      simp only [Option.some.injEq, Prod.mk.injEq] at hc
      obtain ⟨rfl, rfl⟩ := hc
      have hargs := argVs_ok h h2
      have hcal : ∃ cs, a.eval fo = .func (.func f') #[] (List.toArray cs) ∧ VRepL w g st.as caps cs := by
        unfold calleeV at h1
        split at h1
        · cases h1
          exact ⟨[], rfl, rfl⟩
        · split at h1
          · rename_i hev
            cases h1
            have := evO_ok h hev
            simpa only [VRep] using this
          · cases h1
      obtain ⟨cs, hcs, hrep⟩ := hcal
      refine ⟨c.args.toList.map a.eval ++ cs, ?_, ?_⟩
      · simpa [Function.comp_def] using hargs.append hrep
      · unfold execOp
        rw [ho]; dsimp only
        have hfn : ∃ fn, P.funcs[f']? = some fn ∧ (fn.name == "runtime.NumGoroutine") = false ∧ fn.body.isNone = false := by
          unfold callable at hf
          split at hf
          · rename_i fn hfn
            simp only [Bool.and_eq_true, bne_iff_ne, ne_eq] at hf
            exact ⟨fn, hfn, by simpa using hf.1, by simpa [Option.isNone_iff_eq_none, Option.isSome_iff_ne_none] using hf.2⟩
          · cases hf
        obtain ⟨fn, hfn, hn, hb⟩ := hfn
        have ea : c.args.map a.eval = List.toArray (c.args.toList.map a.eval) := by
          apply Array.ext'
          simp
        simp only [resolve, hfo, hcs, Deferred.ofValue, Sem.run_bind, Sem.run_pure, Result.andThen_ok, invoke, callFunc, run_program, hfn, hn, hb, Bool.false_eq_true, if_false]
        simp [ea]
    · cases hc
  · cases hc

theorem roAll_ok {P : Program} {w0 : World} {G0 : Ghost} {st : St} {g : Gh} {a : Act} {w : World} (h : Sim w0 G0 st g a w) : ∀ {xs : List (V × Option Nat)} {vs : List Value} {ts : List TV}, VRepL w g st.as (xs.map (·.1)) vs → roAll P st xs = some ts →
    RoArgs w (NO g.G) ts vs
  | [], vs, ts, hx, ht => by simp only [roAll, Option.some.injEq] at ht; subst ht; simpa only [VRepL, RoArgs, List.map_nil] using hx
  | (x, n) :: xs, vs, ts, hx, ht => by
    simp only [roAll] at ht
    split at ht
    · rename_i t ts' h1 h2
      cases ht
      simp only [List.map_cons, VRepL, RoArgs] at hx ⊢
      obtain ⟨u, us, e, h3, h4⟩ := hx
      exact ⟨u, us, e, V.roTV_ok h h3 h1, roAll_ok h h4 h2⟩
    · cases ht

theorem roAll_perm {P : Program} {w : World} {g : Gh} {st : St} : ∀ {xs : List (V × Option Nat)} {vs : List Value} {ts : List TV}, V.permL (xs.map (·.1)) = true → VRepL w g st.as (xs.map (·.1)) vs → roAll P st xs = some ts → RoArgs w (Fz g.G) ts vs
  | [], vs, ts, _, hx, ht => by simp only [roAll, Option.some.injEq] at ht; subst ht; simpa only [VRepL, RoArgs, List.map_nil] using hx
  | (x, n) :: xs, vs, ts, hp, hx, ht => by
    simp only [List.map_cons, V.permL, Bool.and_eq_true] at hp
    simp only [roAll] at ht
    split at ht
    · rename_i t ts' h1 h2
      cases ht
      simp only [List.map_cons, VRepL, RoArgs] at hx ⊢
      obtain ⟨u, us, e, h3, h4⟩ := hx
      exact ⟨u, us, e, V.perm_roTV hp.1 h3 h1, roAll_perm hp.2 h4 h2⟩
    · cases ht

theorem RoTV.okk {w : World} {ok ok' : Nat → Prop} (h : ∀ b, ok b → ok' b) : ∀ {t : TV} {v : Value}, RoTV w ok t v → RoTV w ok' t v
  | .one t, v, hr => RoT.mono (Nat.le_refl _) (fun b _ hb => ⟨h b hb, rfl⟩) hr
  | .agg ts, v, ⟨cs, e, hr⟩ => ⟨cs, e, RoL.mono (Nat.le_refl _) (fun b _ hb => ⟨h b hb, rfl⟩) hr⟩
theorem RoArgs.okk {w : World} {ok ok' : Nat → Prop} (h : ∀ b, ok b → ok' b) : ∀ {t : List TV} {v : List Value}, RoArgs w ok t v → RoArgs w ok' t v
  | [], v, hr => hr
  | t :: ts, v, ⟨u, us, e, h1, h2⟩ => ⟨u, us, e, RoTV.okk h h1, RoArgs.okk h h2⟩

/-- A world that grew, all that was there being as it was. -/
theorem Sim.grow {w0 : World} {G0 : Ghost} {st : St} {g : Gh} {a : Act} {w w' : World} (h : Sim w0 G0 st g a w) (ho : w'.os = w.os) (ht : w'.tape = w.tape) (hout : w'.output = w.output) (hs : w.heap.size ≤ w'.heap.size)
    (hb : ∀ b, b < w.heap.size → w'.heap[b]? = w.heap[b]?) : Sim w0 G0 st g a w' := by
  have hst : Steps ff ff ff w g st.as w' g st.as := Steps.same hs fun b hb' _ => hb b hb'
  refine { fr := h.fr.step ho ht hout hs (fun b hb' _ => ⟨hb b hb', id, id⟩), defers := h.defers, nt := h.nt, frame := fun t x hx => (h.frame t x hx).keep hst, vars := ?_, arrs := ?_, lab := fun b hb' => h.lab b (by omega) }
  · intro d cells hd
    obtain ⟨hG, cur, el, hbb, hr⟩ := h.vars d cells hd
    exact ⟨hG, cur, el, by rw [hb _ (lt_of_heap hbb)]; exact hbb, hr.keep hst⟩
  · intro κ A hA
    exact (h.arrs κ A hA).keep hs rfl (fun b hb' hf => ⟨hf, hb b hb'⟩) (fun b p mu hb' hf => ⟨hf, hb b hb'⟩)

end Go.E
