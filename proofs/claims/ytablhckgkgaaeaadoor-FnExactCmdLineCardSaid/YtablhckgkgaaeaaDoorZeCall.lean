/- A part of E, an interpreter of Go code on trees, proved sound over the model for every program. No condition beyond what each theorem states. -/
import Derived.Test.YtablhckgkgaaeaaDoorZeOpF
set_option linter.unusedSimpArgs false
set_option linter.unusedVariables false
namespace Go.E
open Go

/-! ### Contracts: what a call does, told by trees -/

inductive TV where
  | one (t : T)
  | agg (ts : List T)

def RoTV (w : World) (ok : Nat → Prop) : TV → Value → Prop
  | .one t, v => RoT w ok t v
  | .agg ts, v => ∃ cs, v = .agg (List.toArray cs) ∧ RoL w ok ts cs

def RoArgs (w : World) (ok : Nat → Prop) : List TV → List Value → Prop
  | [], vs => vs = []
  | x :: xs, vs => ∃ u us, vs = u :: us ∧ RoTV w ok x u ∧ RoArgs w ok xs us

/-- The cells of a result: each tree by itself. -/
def ResL (w : World) (G : Ghost) (p : Nat) : Nat → List T → List Value → Prop
  | _, [], vs => vs = []
  | q, t :: ts, vs => ∃ u us, vs = u :: us ∧ OwT w G [p, q] none t u ∧ ResL w G p (q + 1) ts us

def ResTV (w : World) (G : Ghost) (p : Nat) : TV → Value → Prop
  | .one t, v => OwT w G [p, 0] none t v
  | .agg ts, v => ∃ cs, v = .agg (List.toArray cs) ∧ ResL w G p 0 ts cs

def ResTVs (w : World) (G : Ghost) : Nat → List TV → List Value → Prop
  | _, [], vs => vs = []
  | p, x :: xs, vs => ∃ u us, vs = u :: us ∧ ResTV w G p x u ∧ ResTVs w G (p + 1) xs us

/-- A call's value: one result, or several. -/
def RetRep (w : World) (G : Ghost) (rs : List TV) (v : Value) : Prop :=
  ∃ vs, ResTVs w G 0 rs vs ∧ v = (if h : vs.length = 1 then vs[0] else .tuple (List.toArray vs))

def noG : Ghost := fun _ => none

/-- What holds of the memory that a program starts from (its listed tables), and stays. -/
class Inv (P : Program) where
  I : World → Prop
  stable : ∀ w w' : World, w.heap.size ≤ w'.heap.size → (∀ b, b < w.heap.size → w'.heap[b]? = w.heap[b]?) → I w → I w'
  mixed : P.follows .mixedOrders = true

/-- **What a call of 'f' does that writes into nothing that was there.** -/
def SemR (P : Program) [Inv P] (f : FuncId) (as : List TV) (rs : List TV) : Prop :=
  ∀ (w : World) (G : Ghost) (vs : List Value), Inv.I P w → (∀ b, G b = none ∨ G b = some .other) → (∀ b, w.heap.size ≤ b → G b = none) → RoArgs w (Fz G) as vs →
    Calls P f (List.toArray vs) w fun e w' => ∃ v G', e = .returned v ∧ Fr w G w' G' ∧ (∀ b, w'.heap.size ≤ b → G' b = none) ∧ RetRep w' G' rs v

/-! What is handed in, to be read only. -/

mutual
def V.ro (P : Program) (st : St) : V → Option T
  | .int k n => some (.int k n)
  | .bool b => some (.bool b)
  | .str s => some (.str s)
  | .nil sz => some (.sl .shared sz [])
  | .sl _ sz rows => some (.sl .shared sz (T.shareR rows))
  | .ref κ off len => (look κ st.as).map fun A => .sl .shared A.sz (T.shareR ((A.rows.drop off).take len))
  | .rptr _ row j => some (.ptr (T.shareL (row.drop j)))
  | .eptr κ i j => (look κ st.as).bind fun A => A.rows[i]?.map fun r => .ptr (T.shareL (r.drop j))
  | .fn f caps => (V.roL P st caps).map (.fn f)
  | _ => none
def V.roL (P : Program) (st : St) : List V → Option (List T)
  | [] => some []
  | x :: xs => match V.ro P st x, V.roL P st xs with
    | some t, some ts => some (t :: ts)
    | _, _ => none
end

/-- A variable's address: what the variable holds. One step deep. -/
def V.ro1 (P : Program) (st : St) : V → Option T
  | .vptr d j => (look d st.vs).bind fun cells => (V.roL P st (cells.drop j)).map .ptr
  | .fn f caps => (roL1 caps).map (.fn f)
  | x => V.ro P st x
where
  roL1 : List V → Option (List T)
    | [] => some []
    | .vptr d j :: xs => match (look d st.vs).bind fun cells => (V.roL P st (cells.drop j)).map T.ptr, roL1 xs with
      | some t, some ts => some (t :: ts)
      | _, _ => none
    | x :: xs => match V.ro P st x, roL1 xs with
      | some t, some ts => some (t :: ts)
      | _, _ => none

def V.roTV (P : Program) (st : St) (n : Option Nat) : V → Option TV
  | .agg vs => (V.roL P st vs).map .agg
  | x => match V.ro1 P st x, n with
    | some (.ptr row), some n => if n ≤ row.length then some (.one (.ptr (row.take n))) else none
    | some t, none => some (.one t)
    | _, _ => none

/-- A block of which something is known. -/
def NO (G : Ghost) (b : Nat) : Prop := G b ≠ some .other

theorem okd_NO {G : Ghost} {dep : Option Key} {b : Nat} (h : okd G dep b) : NO G b := by
  unfold NO
  intro e
  cases dep with
  | none =>
    have h' : Fz G b := h
    unfold Fz at h'
    rw [e] at h'
    exact h'
  | some κ =>
    rcases h with h | ⟨p, mu, h⟩
    · unfold Fz at h
      rw [e] at h
      exact h
    · rw [e] at h; cases h

theorem RoT.none {w : World} {G : Ghost} {dep : Option Key} {t : T} {v : Value} (h : RoT w (okd G dep) t v) : RoT w (NO G) t v :=
  RoT.mono (Nat.le_refl _) (fun b _ hb => ⟨okd_NO hb, rfl⟩) h
theorem RoL.none {w : World} {G : Ghost} {dep : Option Key} {t : List T} {v : List Value} (h : RoL w (okd G dep) t v) : RoL w (NO G) t v :=
  RoL.mono (Nat.le_refl _) (fun b _ hb => ⟨okd_NO hb, rfl⟩) h
theorem RoRows.none {w : World} {G : Ghost} {dep : Option Key} {sz : Nat} {t : List (List T)} {v : List Value} (h : RoRows w (okd G dep) sz t v) : RoRows w (NO G) sz t v :=
  RoRows.mono (Nat.le_refl _) (fun b _ hb => ⟨okd_NO hb, rfl⟩) h

theorem RoL.drop {w : World} {ok : Nat → Prop} : ∀ {ts : List T} {vs : List Value} (n : Nat), RoL w ok ts vs → RoL w ok (ts.drop n) (vs.drop n)
  | ts, vs, 0, h => by simpa using h
  | [], vs, n + 1, h => by simp only [RoL] at h; subst h; simp [RoL]
  | t :: ts, vs, n + 1, h => by
    simp only [RoL] at h
    obtain ⟨u, us, rfl, h1, h2⟩ := h
    simpa using RoL.drop n h2
theorem RoL.take {w : World} {ok : Nat → Prop} : ∀ {ts : List T} {vs : List Value} (n : Nat), RoL w ok ts vs → RoL w ok (ts.take n) (vs.take n)
  | ts, vs, 0, h => by simp [RoL]
  | [], vs, n + 1, h => by simp only [RoL] at h; subst h; simp [RoL]
  | t :: ts, vs, n + 1, h => by
    simp only [RoL] at h
    obtain ⟨u, us, rfl, h1, h2⟩ := h
    simp only [List.take_succ_cons, RoL]
    exact ⟨u, _, rfl, h1, RoL.take n h2⟩

theorem shareL_length : ∀ ts : List T, (T.shareL ts).length = ts.length
  | [] => rfl
  | t :: ts => by simp [T.shareL, shareL_length ts]
theorem shareR_length : ∀ ts : List (List T), (T.shareR ts).length = ts.length
  | [] => rfl
  | t :: ts => by simp [T.shareR, shareR_length ts]

/-- An address whose cells are known: as something to read. -/
theorem ptr_ro {w : World} {ok : Nat → Prop} {b o : Nat} {row : List T} {cs : List Value} (hlt : b < w.heap.size) (hok : ok b) (hr : RoL w ok row cs) (hc : ∀ i u, cs[i]? = some u → w.cell? ⟨b, o + i, none⟩ = some u) (j : Nat) :
    RoT w ok (.ptr (row.drop j)) (.pointer (some ⟨b, o + j, none⟩)) := by
  simp only [RoT]
  refine ⟨b, o + j, cs.drop j, rfl, hlt, hok, hr.drop j, fun i u hi => ?_⟩
  rw [List.getElem?_drop] at hi
  have := hc (j + i) u hi
  rwa [← Nat.add_assoc] at this

mutual
theorem V.ro_ok {P : Program} {w0 : World} {G0 : Ghost} {st : St} {g : Gh} {a : Act} {w : World} (h : Sim w0 G0 st g a w) : ∀ {x : V} {v : Value} {t : T}, VRep w g st.as x v → V.ro P st x = some t → RoT w (NO g.G) t v
  | .int .., v, t, hx, ht => by simp only [V.ro, Option.some.injEq] at ht; subst ht; simpa only [VRep, RoT] using hx
  | .bool _, v, t, hx, ht => by simp only [V.ro, Option.some.injEq] at ht; subst ht; simpa only [VRep, RoT] using hx
  | .str _, v, t, hx, ht => by simp only [V.ro, Option.some.injEq] at ht; subst ht; simpa only [VRep, RoT] using hx
  | .nil sz, v, t, hx, ht => by
    simp only [V.ro, Option.some.injEq] at ht
    subst ht
    simp only [VRep] at hx
    obtain ⟨base, rfl⟩ := hx
    simp only [RoT]
    exact ⟨base, 0, [], rfl, Nat.le_refl _, Nat.zero_le _, by simp [RoRows], fun e => absurd rfl e⟩
  | .sl dep sz rows, v, t, hx, ht => by
    simp only [V.ro, Option.some.injEq] at ht
    subst ht
    simp only [VRep] at hx
    exact (RoT.share hx).none
  | .ref κ off len, v, t, hx, ht => by
    simp only [V.ro] at ht
    cases hl : look κ st.as with
    | none => rw [hl] at ht; cases ht
    | some A =>
      rw [hl] at ht
      cases ht
      simp only [VRep] at hx
      obtain ⟨A', base', hA', hle, hv, hb0, hb⟩ := hx
      rw [hl] at hA'
      cases hA'
      obtain ⟨base, cap, hab, hown⟩ := h.arrs κ A hl
      simp only [OwT] at hown
      obtain ⟨b1, c1, xs, e1, hcap, hm, hrow⟩ := hown
      cases e1
      have hlen : ((A.rows.drop off).take len).length = len := by simp; omega
      have key : RoT w (okd g.G (some κ)) (.sl .shared A.sz ((A.rows.drop off).take len)) v ∨ RoT w (NO g.G) (.sl .shared A.sz ((A.rows.drop off).take len)) v := by
        right
        simp only [RoT, hlen]
        rcases hrow with ⟨h1, h2, h3⟩ | ⟨b, cur, el, e1, hG, hbb, hsz, htk, hrow⟩
        · have hl0 : len = 0 := by rw [h1] at hle; simp at hle; omega
          subst hl0
          exact ⟨base', _, [], hv, by omega, by rw [hab]; simp only; omega, by simp [RoRows], fun e => by simp at e⟩
        · have hro := (OwRows.ro hrow).none
          have htd := hro.take_drop off (off + len)
          have e3 : ((A.rows.take (off + len)).drop off) = (A.rows.drop off).take len := by rw [List.drop_take]; congr 1; omega
          rw [e3] at htd
          refine ⟨base', _, _, hv, by rw [hab]; simp only; omega, by rw [hab]; simp only; omega, htd, fun hne => ?_⟩
          have hl0 : len ≠ 0 := by intro e; subst e; simp at hne
          have := hb hl0
          rw [hab, e1] at this
          refine ⟨b, off * A.sz, by rw [this]; simp [add_mk], lt_of_heap hbb, by unfold NO; rw [hG]; simp, fun j u hj => ?_⟩
          rw [List.getElem?_drop, List.getElem?_take] at hj
          split at hj
          · rw [cell_of_row w b _ cur el (0, 0) hbb]
            rw [← htk, List.getElem?_take] at hj
            split at hj
            · simpa using hj
            · cases hj
          · cases hj
      rcases key with key | key
      · exact (RoT.share key).none
      · exact RoT.share key
  | .rptr dep row j, v, t, hx, ht => by
    simp only [V.ro, Option.some.injEq] at ht
    subst ht
    simp only [VRep] at hx
    obtain ⟨b, o, xs, e, hlt, hok, hrow, hcell⟩ := hx
    subst e
    have := ptr_ro hlt hok hrow hcell j
    exact (RoT.share this).none
  | .eptr κ i j, v, t, hx, ht => by
    simp only [V.ro] at ht
    cases hl : look κ st.as with
    | none => rw [hl] at ht; cases ht
    | some A =>
      rw [hl] at ht
      simp only [Option.bind_some] at ht
      cases hr : A.rows[i]? with
      | none => rw [hr] at ht; cases ht
      | some r =>
        rw [hr] at ht
        cases ht
        simp only [VRep] at hx
        obtain ⟨A', base, hA', hbase, hv⟩ := hx
        rw [hl] at hA'
        cases hA'
        obtain ⟨base', cap, hab, hown⟩ := h.arrs κ A hl
        rw [hab] at hbase
        simp only at hbase
        subst hbase
        simp only [OwT] at hown
        obtain ⟨b1, c1, xs, e, hcc, hm, hrow⟩ := hown
        cases e
        rcases hrow with ⟨h1, h2, h3⟩ | ⟨b, cur, el, e1, hG, hb, hsz, htk, hrow⟩
        · rw [h1] at hr; simp at hr
        · cases e1
          obtain ⟨c, hcl, hlen, hget⟩ := hrow.get hr
          subst hv
          have hcell : ∀ k u, c[k]? = some u → w.cell? ⟨b, 0 + i * A.sz + k, none⟩ = some u := fun k u hk => by
            rw [cell_of_row w b _ cur el (0, 0) hb]
            have := hget k u hk
            rw [← htk, List.getElem?_take] at this
            split at this
            · simpa [Nat.add_assoc] using this
            · cases this
          have := ptr_ro (w := w) (ok := NO g.G) (lt_of_heap hb) (by unfold NO; rw [hG]; simp) (OwL.ro hcl).none hcell j
          exact RoT.share this
  | .fn f caps, v, t, hx, ht => by
    simp only [V.ro] at ht
    cases hc : V.roL P st caps with
    | none => rw [hc] at ht; cases ht
    | some ts =>
      rw [hc] at ht
      cases ht
      simp only [VRep] at hx
      obtain ⟨cs, e, hcs⟩ := hx
      simp only [RoT]
      exact ⟨cs, e, V.roL_ok h hcs hc⟩
theorem V.roL_ok {P : Program} {w0 : World} {G0 : Ghost} {st : St} {g : Gh} {a : Act} {w : World} (h : Sim w0 G0 st g a w) : ∀ {xs : List V} {vs : List Value} {ts : List T}, VRepL w g st.as xs vs → V.roL P st xs = some ts → RoL w (NO g.G) ts vs
  | [], vs, ts, hx, ht => by simp only [V.roL, Option.some.injEq] at ht; subst ht; simpa only [VRepL, RoL] using hx
  | x :: xs, vs, ts, hx, ht => by
    simp only [V.roL] at ht
    split at ht
    · rename_i t ts' h1 h2
      cases ht
      simp only [VRepL, RoL] at hx ⊢
      obtain ⟨u, us, e, h3, h4⟩ := hx
      exact ⟨u, us, e, V.ro_ok h h3 h1, V.roL_ok h h4 h2⟩
    · cases ht
end

theorem vptr_ro {P : Program} {w0 : World} {G0 : Ghost} {st : St} {g : Gh} {a : Act} {w : World} (h : Sim w0 G0 st g a w) {d : Key} {j : Nat} {v : Value} {t : T} (hx : VRep w g st.as (.vptr d j) v)
    (ht : ((look d st.vs).bind fun cells => (V.roL P st (cells.drop j)).map T.ptr) = some t) : RoT w (NO g.G) t v := by
  cases hl : look d st.vs with
  | none => rw [hl] at ht; cases ht
  | some cells0 =>
    rw [hl] at ht
    simp only [Option.bind_some] at ht
    cases hr : V.roL P st (cells0.drop j) with
    | none => rw [hr] at ht; cases ht
    | some ts =>
      rw [hr] at ht
      cases ht
      obtain ⟨hG, cur, el, hb, hrep⟩ := h.vars d _ hl
      simp only [VRep] at hx
      subst hx
      have hts := V.roL_ok h (hrep.drop j) hr
      simp only [RoT]
      refine ⟨g.bv d, j, _, rfl, lt_of_heap hb, by unfold NO; rw [hG]; simp, hts, fun i u hi => ?_⟩
      rw [cell_of_row w _ _ cur el (0, 0) hb]
      rw [List.getElem?_drop] at hi
      simpa using hi

theorem roL1_ok {P : Program} {w0 : World} {G0 : Ghost} {st : St} {g : Gh} {a : Act} {w : World} (h : Sim w0 G0 st g a w) : ∀ {xs : List V} {vs : List Value} {ts : List T}, VRepL w g st.as xs vs → V.ro1.roL1 P st xs = some ts → RoL w (NO g.G) ts vs
  | [], vs, ts, hx, ht => by simp only [V.ro1.roL1, Option.some.injEq] at ht; subst ht; simpa only [VRepL, RoL] using hx
  | x :: xs, vs, ts, hx, ht => by
    simp only [VRepL] at hx
    obtain ⟨u, us, rfl, h3, h4⟩ := hx
    unfold V.ro1.roL1 at ht
    split at ht
    · rename_i e; cases e
    · rename_i d j xs' e
      cases e
      split at ht
      · rename_i t ts' h1 h2
        cases ht
        simp only [RoL]
        exact ⟨u, us, rfl, vptr_ro h h3 h1, roL1_ok h h4 h2⟩
      · cases ht
    · rename_i x' xs' _ e
      cases e
      split at ht
      · rename_i t ts' h1 h2
        cases ht
        simp only [RoL]
        exact ⟨u, us, rfl, V.ro_ok h h3 h1, roL1_ok h h4 h2⟩
      · cases ht

theorem V.ro1_ok {P : Program} {w0 : World} {G0 : Ghost} {st : St} {g : Gh} {a : Act} {w : World} (h : Sim w0 G0 st g a w) {x : V} {v : Value} {t : T} (hx : VRep w g st.as x v) (ht : V.ro1 P st x = some t) : RoT w (NO g.G) t v := by
  unfold V.ro1 at ht
  split at ht
  · exact vptr_ro h hx ht
  · rename_i f caps
    cases hc : V.ro1.roL1 P st caps with
    | none => rw [hc] at ht; cases ht
    | some ts =>
      rw [hc] at ht
      cases ht
      simp only [VRep] at hx
      obtain ⟨cs, e, hcs⟩ := hx
      simp only [RoT]
      exact ⟨cs, e, roL1_ok h hcs hc⟩
  · exact V.ro_ok h hx ht

theorem V.roTV_ok {P : Program} {w0 : World} {G0 : Ghost} {st : St} {g : Gh} {a : Act} {w : World} (h : Sim w0 G0 st g a w) {n : Option Nat} {x : V} {v : Value} {t : TV} (hx : VRep w g st.as x v) (ht : V.roTV P st n x = some t) :
    RoTV w (NO g.G) t v := by
  unfold V.roTV at ht
  split at ht
  · rename_i vs
    cases hc : V.roL P st vs with
    | none => rw [hc] at ht; cases ht
    | some ts =>
      rw [hc] at ht
      cases ht
      simp only [VRep] at hx
      obtain ⟨cs, e, hcs⟩ := hx
      exact ⟨cs, e, V.roL_ok h hcs hc⟩
  · split at ht
    · rename_i row m h1
      split at ht
      · cases ht
        have := V.ro1_ok h hx h1
        simp only [RoTV, RoT] at this ⊢
        obtain ⟨b, o, xs, e, hlt, hok, hrow, hcell⟩ := this
        refine ⟨b, o, xs.take m, e, hlt, hok, hrow.take m, fun i u hi => ?_⟩
        rw [List.getElem?_take] at hi
        split at hi
        · exact hcell i u hi
        · cases hi
      · cases ht
    · rename_i t' h1
      cases ht
      exact V.ro1_ok h hx h1
    · cases ht

end Go.E
