/- A part of E, an interpreter of Go code on trees, proved sound over the model for every program. No condition beyond what each theorem states. -/
import Derived.Test.YtablhckgkgaaeaaDoorZeOpB
set_option linter.unusedSimpArgs false
set_option linter.unusedVariables false
namespace Go.E
open Go

/-! ### Memory: variables, loads, stores -/

def V.scalar : V → Bool
  | .agg _ | .tup _ | .opt .. | .undef => false
  | _ => true

def V.cells : V → List V
  | .agg vs => vs
  | x => [x]

theorem VRep.one {w : World} {g : Gh} {as : List (Key × Arr)} {x : V} {v : Value} (h : VRep w g as x v) (hs : x.scalar = true) : v.oneCell' = true ∧ v.cells = #[v] := by
  cases x <;> simp only [V.scalar, Bool.false_eq_true] at hs <;> simp only [VRep] at h
  case int | bool | str | vptr => subst h; exact ⟨rfl, rfl⟩
  case nil => obtain ⟨b, rfl⟩ := h; exact ⟨rfl, rfl⟩
  case sl => simp only [RoT] at h; obtain ⟨_, _, _, rfl, _⟩ := h; exact ⟨rfl, rfl⟩
  case ref => obtain ⟨_, _, _, _, rfl, _⟩ := h; exact ⟨rfl, rfl⟩
  case eptr => obtain ⟨_, _, _, _, rfl⟩ := h; exact ⟨rfl, rfl⟩
  case rptr => obtain ⟨_, _, _, rfl, _⟩ := h; exact ⟨rfl, rfl⟩
  case fn => obtain ⟨_, rfl, _⟩ := h; exact ⟨rfl, rfl⟩

theorem VRepL.one {w : World} {g : Gh} {as : List (Key × Arr)} : ∀ {xs : List V} {vs : List Value}, VRepL w g as xs vs → xs.all V.scalar = true → ∀ v ∈ vs, v.oneCell' = true
  | [], vs, h, _ => by simp only [VRepL] at h; subst h; simp
  | x :: xs, vs, h, hs => by
    simp only [VRepL] at h
    obtain ⟨u, us, rfl, h1, h2⟩ := h
    simp only [List.all_cons, Bool.and_eq_true] at hs
    intro v hv
    rcases List.mem_cons.1 hv with rfl | hv
    · exact (h1.one hs.1).1
    · exact VRepL.one h2 hs.2 v hv

/-- A value's cells, as the machine counts them. -/
theorem VRep.cells {w : World} {g : Gh} {as : List (Key × Arr)} {x : V} {v : Value} (h : VRep w g as x v) (hs : x.cells.all V.scalar = true) :
    VRepL w g as x.cells v.cells.toList ∧ ∀ u ∈ v.cells.toList, u.oneCell' = true := by
  have key : VRepL w g as x.cells v.cells.toList := by
    cases x with
    | agg vs =>
      simp only [VRep] at h
      obtain ⟨cs, rfl, hc⟩ := h
      exact hc
    | tup vs => simp [V.cells, V.scalar] at hs
    | opt c x => simp [V.cells, V.scalar] at hs
    | undef => simp [V.cells, V.scalar] at hs
    | _ =>
      have := (h.one (by simpa [V.cells] using hs)).2
      simp only [V.cells, this, VRepL]
      exact ⟨_, _, rfl, h, rfl⟩
  exact ⟨key, key.one hs⟩

/-! Steps that leave all labels alone. -/

theorem Steps.same {w w' : World} {g : Gh} {as : List (Key × Arr)} (hs : w.heap.size ≤ w'.heap.size)
    (hb : ∀ b, b < w.heap.size → (Fz g.G b ∨ ∃ κ p mu, g.G b = some (.arr κ (some p) mu)) → w'.heap[b]? = w.heap[b]?) : Steps ff ff ff w g as w' g as where
  size := hs
  fz b hb' hf := ⟨hf, hb b hb' (.inl hf)⟩
  inner κ _ b p mu hb' hg := ⟨⟨p, mu, hg⟩, hb b hb' (.inr ⟨κ, p, mu, hg⟩)⟩
  arr κ _ A hA := ⟨rfl, A, hA, rfl, Nat.le_refl _⟩
  var d _ := rfl

theorem Fr.step {w0 w w' : World} {G0 G G' : Ghost} (h : Fr w0 G0 w G) (ho : w'.os = w.os) (ht : w'.tape = w.tape) (hout : w'.output = w.output) (hs : w.heap.size ≤ w'.heap.size)
    (hb : ∀ b, b < w.heap.size → Still G b → w'.heap[b]? = w.heap[b]? ∧ (Fz G b → Fz G' b) ∧ (G b = some .other → G' b = some .other)) : Fr w0 G0 w' G' :=
  h.trans ⟨ho, ht, hout, hs, hb⟩

/-- An array's tree, whose top block is as it was. -/
theorem ArrRep.keep {w w' : World} {g g' : Gh} {κ : Key} {A : Arr} (h : ArrRep w g κ A) (hs : w.heap.size ≤ w'.heap.size) (hab : g'.ab κ = g.ab κ)
    (hf : ∀ b, b < w.heap.size → Fz g.G b → Fz g'.G b ∧ w'.heap[b]? = w.heap[b]?)
    (hk : ∀ b p mu, b < w.heap.size → g.G b = some (.arr κ p mu) → g'.G b = some (.arr κ p mu) ∧ w'.heap[b]? = w.heap[b]?) : ArrRep w' g' κ A := by
  obtain ⟨base, cap, hb, h⟩ := h
  refine ⟨base, cap, hab.trans hb, ?_⟩
  simp only [OwT] at h ⊢
  obtain ⟨base', cap', xs, e, hc, hm, hrow⟩ := h
  refine ⟨base', cap', xs, e, hc, hm, ?_⟩
  rcases hrow with hrow | ⟨b, cur, el, e1, hG, hbb, hsz, htk, hrow⟩
  · exact .inl hrow
  · have hlt : b < w.heap.size := (Array.getElem?_eq_some_iff.1 hbb).1
    obtain ⟨h1, h2⟩ := hk b none true hlt hG
    exact .inr ⟨b, cur, el, e1, h1, by rw [h2]; exact hbb, hsz, htk, OwRows.mono hs hf (fun b p mu hb hg => hk b (some p) mu hb hg) hrow⟩

/-! A store into a variable -/

theorem lt_of_heap {w : World} {b : Nat} {o : Obj} (h : w.heap[b]? = some o) : b < w.heap.size := (Array.getElem?_eq_some_iff.1 h).1

theorem size_setRow (w : World) (b : Nat) (cs : Array Value) : (w.setRow b cs).heap.size = w.heap.size := by simp [World.setRow]

theorem Sim.storeVar {w0 : World} {G0 : Ghost} {st : St} {g : Gh} {a : Act} {w : World} (h : Sim w0 G0 st g a w) {d : Key} {cells cs : List V} {j : Nat} {news : List Value} {cur : Array Value} {e : TypeId}
    (hd : look d st.vs = some cells) (hb : w.heap[g.bv d]? = some (.cells cur e (0, 0))) (hcur : VRepL w g st.as cells cur.toList) (hn : VRepL w g st.as cs news) :
    Sim w0 G0 { st with vs := E.put d (cells.take j ++ cs ++ cells.drop (j + cs.length)) st.vs } g a (w.setRow (g.bv d) (cur.toList.take j ++ news ++ cur.toList.drop (j + news.length)).toArray) := by
  have hG := (h.vars d cells hd).1
  have hlt := lt_of_heap hb
  have hoth : ∀ b, b ≠ g.bv d → (w.setRow (g.bv d) (cur.toList.take j ++ news ++ cur.toList.drop (j + news.length)).toArray).heap[b]? = w.heap[b]? := fun b hne => setRow_other w _ b _ hne
  have hlen : news.length = cs.length := hn.length
  have hfz : ∀ b, Fz g.G b → b ≠ g.bv d := fun b hf e => by subst e; simp only [Fz, hG] at hf
  have hstill : ∀ b, Still g.G b → b ≠ g.bv d := fun b hf e => by subst e; rcases hf with hf | hf; exact hfz _ hf rfl; rw [hG] at hf; cases hf
  have hin : ∀ b κ p mu, g.G b = some (.arr κ p mu) → b ≠ g.bv d := fun b κ p mu hf e => by subst e; rw [hG] at hf; cases hf
  have hst : Steps ff ff ff w g st.as (w.setRow (g.bv d) (cur.toList.take j ++ news ++ cur.toList.drop (j + news.length)).toArray) g st.as := by
    refine Steps.same (by rw [size_setRow]; exact Nat.le_refl _) fun b _ hf => hoth b ?_
    rcases hf with hf | ⟨κ, p, mu, hf⟩
    · exact hfz b hf
    · exact hin b κ _ mu hf
  refine { fr := h.fr.step rfl rfl rfl (by rw [size_setRow]; exact Nat.le_refl _) (fun b _ hf => ⟨hoth b (hstill b hf), id, id⟩), defers := h.defers, nt := h.nt,
           frame := fun t x hx => (h.frame t x hx).keep hst, vars := ?_, arrs := ?_, lab := fun b hb' => h.lab b (by rw [size_setRow] at hb'; exact hb') }
  · intro d' cells' hd'
    simp only [look_put] at hd'
    by_cases e' : d' = d
    · subst e'
      simp only [if_true] at hd'
      cases hd'
      refine ⟨hG, _, e, setRow_heap w _ cur _ e _ hb, ?_⟩
      have h1 := (hcur.take j).keep hst
      have h2 := hn.keep hst
      have h3 := (hcur.drop (j + cs.length)).keep hst
      have := (h1.append h2).append h3
      simpa [hlen] using this
    · simp only [e', if_false] at hd'
      obtain ⟨hG', cur', el', hb', hr'⟩ := h.vars d' cells' hd'
      have hne : g.bv d' ≠ g.bv d := fun ee => by rw [ee, hG] at hG'; cases hG'; exact e' rfl
      exact ⟨hG', cur', el', by rw [hoth _ hne]; exact hb', hr'.keep hst⟩
  · intro κ A hA
    exact (h.arrs κ A hA).keep (by rw [size_setRow]; exact Nat.le_refl _) rfl (fun b _ hf => ⟨hf, hoth b (hfz b hf)⟩) (fun b p mu _ hf => ⟨hf, hoth b (hin b κ p mu hf)⟩)

/-- The state behind a store into a variable. -/
def storeVarV (st : St) (d : Key) (j n : Nat) (x : V) : Option St :=
  match look d st.vs with
  | some cells => if x.cells.length = n ∧ x.cells.all V.scalar = true ∧ j + n ≤ cells.length then some { st with vs := E.put d (cells.take j ++ x.cells ++ cells.drop (j + x.cells.length)) st.vs } else none
  | none => none

theorem storeVarV_ok {P : Program} {o : Oper} {st st' : St} {t : TypeId} {ad va : Operand} {d : Key} {j n : Nat} {x : V} (ho : o.op = .store t ad va) (hdst : o.dst = none) (had : evO st ad = some (.vptr d j))
    (hx : evT P st t va = some x) (hn : tySz P t = some n) (hs : storeVarV st d j n x = some st') : OpOk P o st st' := by
  intro w0 G0 a w ⟨g, h⟩
  unfold storeVarV at hs
  split at hs
  · rename_i cells hd
    split at hs
    · rename_i hc
      obtain ⟨hl, hsc, hle⟩ := hc
      cases hs
      have h1 := evO_ok h had
      have h2 := evT_ok h hx
      simp only [VRep] at h1
      obtain ⟨hG, cur, e, hb, hcur⟩ := h.vars d cells hd
      obtain ⟨hcells, hone⟩ := h2.cells hsc
      have hlen := hcells.length
      have hcl := hcur.length
      simp only [Array.length_toList] at hlen hcl
      refine ⟨undef, w.setRow (g.bv d) (cur.toList.take j ++ (a.eval va).cells.toList ++ cur.toList.drop (j + (a.eval va).cells.toList.length)).toArray, .inr ⟨?_, rfl⟩, ?_⟩
      rotate_left
      · rw [hdst]
        exact ⟨g, h.storeVar hd hb hcur hcells⟩
      · unfold execOp
        rw [ho]; dsimp only
        have hrun := run_storeCells_at P (g.bv d) j e (a.eval va).cells.toList 0 cur w hb (by simp only [Array.length_toList]; omega) hone
        simp only [Nat.add_zero] at hrun
        simp only [Instr.storeAt, h1, Instr.sureAddr, storeVar, Sem.run_bind, Sem.run_pure, Result.andThen_ok, run_sizeOf' hn]
        rw [if_neg (by omega)]
        simp only [hrun, Result.andThen_ok, Sem.run_pure, pure_bind]
    · cases hs
  · cases hs

end Go.E
