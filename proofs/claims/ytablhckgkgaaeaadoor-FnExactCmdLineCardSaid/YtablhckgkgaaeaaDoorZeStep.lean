/- A part of E, an interpreter of Go code on trees, proved sound over the model for every program. No condition beyond what each theorem states. -/
import Derived.Test.YtablhckgkgaaeaaDoorZeSim
namespace Go.E
open Go

/-! ### How what is held comes through a step -/

mutual
/-- What a step may have made wrong is forgotten: arrays (pa), variables (pv), what lies inside arrays (pd). -/
def V.kill (pa pv pd : Key → Bool) : V → V
  | .sl (some κ) sz rows => if pd κ then .undef else .sl (some κ) sz rows
  | .ref κ off len => if pa κ then .undef else .ref κ off len
  | .vptr d j => if pv d then .undef else .vptr d j
  | .eptr κ i j => if pa κ then .undef else .eptr κ i j
  | .rptr (some κ) row j => if pd κ then .undef else .rptr (some κ) row j
  | .fn f caps => .fn f (V.killL pa pv pd caps)
  | .agg vs => .agg (V.killL pa pv pd vs)
  | .tup vs => .tup (V.killL pa pv pd vs)
  | .opt c x => .opt c (x.kill pa pv pd)
  | x => x
def V.killL (pa pv pd : Key → Bool) : List V → List V
  | [] => []
  | x :: xs => x.kill pa pv pd :: V.killL pa pv pd xs
end

/-- What must hold of a step for all that is not forgotten. -/
structure Steps (pa pv pd : Key → Bool) (w : World) (g : Gh) (as : List (Key × Arr)) (w' : World) (g' : Gh) (as' : List (Key × Arr)) : Prop where
  size : w.heap.size ≤ w'.heap.size
  fz : ∀ b, b < w.heap.size → Fz g.G b → Fz g'.G b ∧ w'.heap[b]? = w.heap[b]?
  inner : ∀ κ, pd κ = false → ∀ b p mu, b < w.heap.size → g.G b = some (.arr κ (some p) mu) → (∃ p' mu', g'.G b = some (.arr κ (some p') mu')) ∧ w'.heap[b]? = w.heap[b]?
  arr : ∀ κ, pa κ = false → ∀ A, look κ as = some A → g'.ab κ = g.ab κ ∧ ∃ A', look κ as' = some A' ∧ A'.sz = A.sz ∧ A.rows.length ≤ A'.rows.length
  var : ∀ d, pv d = false → g'.bv d = g.bv d

theorem Steps.ok {pa pv pd : Key → Bool} {w w' : World} {g g' : Gh} {as as' : List (Key × Arr)} (h : Steps pa pv pd w g as w' g' as') {dep : Option Key}
    (hd : ∀ κ, dep = some κ → pd κ = false) : ∀ b, b < w.heap.size → okd g.G dep b → okd g'.G dep b ∧ w'.heap[b]? = w.heap[b]? := by
  intro b hb hk
  cases dep with
  | none => exact h.fz b hb hk
  | some κ =>
    rcases hk with hk | ⟨p, mu, hk⟩
    · obtain ⟨h1, h2⟩ := h.fz b hb hk
      exact ⟨.inl h1, h2⟩
    · obtain ⟨h1, h2⟩ := h.inner κ (hd κ rfl) b p mu hb hk
      exact ⟨.inr h1, h2⟩

mutual
theorem VRep.step {pa pv pd : Key → Bool} {w w' : World} {g g' : Gh} {as as' : List (Key × Arr)} (h : Steps pa pv pd w g as w' g' as') :
    ∀ {x : V} {v : Value}, VRep w g as x v → VRep w' g' as' (x.kill pa pv pd) v
  | .int k n, v, hr => by simpa only [VRep, V.kill] using hr
  | .bool b, v, hr => by simpa only [VRep, V.kill] using hr
  | .str s, v, hr => by simpa only [VRep, V.kill] using hr
  | .nil _, v, hr => by simpa only [VRep, V.kill] using hr
  | .undef, v, hr => by simp only [VRep, V.kill]
  | .sl none sz rows, v, hr => by
    simp only [VRep, V.kill] at hr ⊢
    exact RoT.mono h.size (h.ok (dep := none) (fun _ e => by cases e)) hr
  | .sl (some κ) sz rows, v, hr => by
    simp only [V.kill]
    cases hp : pd κ with
    | true => simp only [if_true, VRep]
    | false =>
      simp only [VRep, if_false, Bool.false_eq_true] at hr ⊢
      exact RoT.mono h.size (h.ok (dep := some κ) (fun _ e => by cases e; exact hp)) hr
  | .ref κ off len, v, hr => by
    simp only [V.kill]
    cases hp : pa κ with
    | true => simp only [if_true, VRep]
    | false =>
      simp only [VRep, if_false, Bool.false_eq_true] at hr ⊢
      obtain ⟨A, base', hA, hl, e, h1, h2⟩ := hr
      obtain ⟨hab, A', hA', hs, hle⟩ := h.arr κ hp A hA
      exact ⟨A', base', hA', Nat.le_trans hl hle, by rw [hab]; exact e, by rw [hab]; exact h1, by rw [hab, hs]; exact h2⟩
  | .vptr d j, v, hr => by
    simp only [V.kill]
    cases hp : pv d with
    | true => simp only [if_true, VRep]
    | false =>
      simp only [VRep, if_false, Bool.false_eq_true] at hr ⊢
      rw [h.var d hp]; exact hr
  | .eptr κ i j, v, hr => by
    simp only [V.kill]
    cases hp : pa κ with
    | true => simp only [if_true, VRep]
    | false =>
      simp only [VRep, if_false, Bool.false_eq_true] at hr ⊢
      obtain ⟨A, base, hA, hb, e⟩ := hr
      obtain ⟨hab, A', hA', hs, hle⟩ := h.arr κ hp A hA
      exact ⟨A', base, hA', by rw [hab]; exact hb, by rw [hs]; exact e⟩
  | .rptr none row j, v, hr => by
    simp only [VRep, V.kill] at hr ⊢
    obtain ⟨b, o, xs, e, hlt, hok, hrow, hcell⟩ := hr
    have hall := h.ok (dep := none) (fun _ e => by cases e)
    have := hall b hlt hok
    exact ⟨b, o, xs, e, Nat.lt_of_lt_of_le hlt h.size, this.1, RoL.mono h.size hall hrow, fun i u hi => (World.cell?_of_block (a := ⟨b, o + i, none⟩) this.2).trans (hcell i u hi)⟩
  | .rptr (some κ) row j, v, hr => by
    simp only [V.kill]
    cases hp : pd κ with
    | true => simp only [if_true, VRep]
    | false =>
      simp only [VRep, if_false, Bool.false_eq_true] at hr ⊢
      obtain ⟨b, o, xs, e, hlt, hok, hrow, hcell⟩ := hr
      have hall := h.ok (dep := some κ) (fun _ e => by cases e; exact hp)
      have := hall b hlt hok
      exact ⟨b, o, xs, e, Nat.lt_of_lt_of_le hlt h.size, this.1, RoL.mono h.size hall hrow, fun i u hi => (World.cell?_of_block (a := ⟨b, o + i, none⟩) this.2).trans (hcell i u hi)⟩
  | .fn f caps, v, hr => by
    simp only [VRep, V.kill] at hr ⊢
    obtain ⟨cs, e, hc⟩ := hr
    exact ⟨cs, e, VRepL.step h hc⟩
  | .agg vs, v, hr => by
    simp only [VRep, V.kill] at hr ⊢
    obtain ⟨cs, e, hc⟩ := hr
    exact ⟨cs, e, VRepL.step h hc⟩
  | .tup vs, v, hr => by
    simp only [VRep, V.kill] at hr ⊢
    obtain ⟨cs, e, hc⟩ := hr
    exact ⟨cs, e, VRepL.step h hc⟩
  | .opt c x, v, hr => by
    simp only [VRep, V.kill] at hr ⊢
    exact ⟨fun e => VRep.step h (hr.1 e), hr.2⟩
theorem VRepL.step {pa pv pd : Key → Bool} {w w' : World} {g g' : Gh} {as as' : List (Key × Arr)} (h : Steps pa pv pd w g as w' g' as') :
    ∀ {xs : List V} {vs : List Value}, VRepL w g as xs vs → VRepL w' g' as' (V.killL pa pv pd xs) vs
  | [], vs, hr => by simpa only [VRepL, V.killL] using hr
  | x :: xs, vs, hr => by
    simp only [VRepL, V.killL] at hr ⊢
    obtain ⟨u, us, e, h1, h2⟩ := hr
    exact ⟨u, us, e, VRep.step h h1, VRepL.step h h2⟩
end

abbrev ff : Key → Bool := fun _ => false
abbrev one (κ : Key) : Key → Bool := fun x => decide (x = κ)

mutual
theorem V.kill_ff : ∀ x : V, x.kill ff ff ff = x
  | .int .. | .bool _ | .str _ | .nil _ | .undef | .sl none _ _ | .rptr none _ _ => by simp only [V.kill]
  | .sl (some _) _ _ | .ref .. | .vptr .. | .eptr .. | .rptr (some _) _ _ => by simp [V.kill]
  | .fn f caps => by simp only [V.kill]; rw [V.killL_ff caps]
  | .agg caps => by simp only [V.kill]; rw [V.killL_ff caps]
  | .tup caps => by simp only [V.kill]; rw [V.killL_ff caps]
  | .opt c x => by simp only [V.kill]; rw [V.kill_ff x]
theorem V.killL_ff : ∀ xs : List V, V.killL ff ff ff xs = xs
  | [] => rfl
  | x :: xs => by simp only [V.killL]; rw [V.kill_ff x, V.killL_ff xs]
end

theorem VRep.keep {w w' : World} {g g' : Gh} {as as' : List (Key × Arr)} (h : Steps ff ff ff w g as w' g' as') {x : V} {v : Value} (hr : VRep w g as x v) : VRep w' g' as' x v := by
  have := VRep.step h hr
  rwa [V.kill_ff] at this
theorem VRepL.keep {w w' : World} {g g' : Gh} {as as' : List (Key × Arr)} (h : Steps ff ff ff w g as w' g' as') {xs : List V} {vs : List Value} (hr : VRepL w g as xs vs) : VRepL w' g' as' xs vs := by
  have := VRepL.step h hr
  rwa [V.killL_ff] at this

mutual
/-- What is ours, of a tree that the step leaves alone. -/
theorem OwT.mono {w w' : World} {G G' : Ghost} {κ : Key} (hs : w.heap.size ≤ w'.heap.size) (hf : ∀ b, b < w.heap.size → Fz G b → Fz G' b ∧ w'.heap[b]? = w.heap[b]?)
    (hk : ∀ b p mu, b < w.heap.size → G b = some (.arr κ (some p) mu) → G' b = some (.arr κ (some p) mu) ∧ w'.heap[b]? = w.heap[b]?) :
    ∀ {t : T} {at_ : Nat × Nat} {v : Value}, OwT w G κ (some at_) t v → OwT w' G' κ (some at_) t v
  | .int .., _, v, hr => by simpa only [OwT] using hr
  | .bool _, _, v, hr => by simpa only [OwT] using hr
  | .str _, _, v, hr => by simpa only [OwT] using hr
  | .sl .own sz rows, at_, v, hr => by
    simp only [OwT] at hr ⊢
    obtain ⟨base, cap, xs, e, hc, hm, hrow⟩ := hr
    refine ⟨base, cap, xs, e, hc, hm, ?_⟩
    rcases hrow with hrow | ⟨b, cur, el, e1, hG, hb, hsz, htk, hrow⟩
    · exact .inl hrow
    · have hlt : b < w.heap.size := (Array.getElem?_eq_some_iff.1 hb).1
      obtain ⟨h1, h2⟩ := hk b at_ true hlt hG
      exact .inr ⟨b, cur, el, e1, h1, by rw [h2]; exact hb, hsz, htk, OwRows.mono hs hf hk hrow⟩
  | .sl .lent sz rows, _, v, hr => by
    simp only [OwT] at hr ⊢
    exact RoT.mono hs hf hr
  | .sl .shared sz rows, _, v, hr => by
    simp only [OwT] at hr ⊢
    exact RoT.mono hs hf hr
  | .ptr row, _, v, hr => by
    simp only [OwT] at hr ⊢
    exact RoT.mono hs hf hr
  | .fn f caps, _, v, hr => by
    simp only [OwT] at hr ⊢
    exact RoT.mono hs hf hr
theorem OwL.mono {w w' : World} {G G' : Ghost} {κ : Key} (hs : w.heap.size ≤ w'.heap.size) (hf : ∀ b, b < w.heap.size → Fz G b → Fz G' b ∧ w'.heap[b]? = w.heap[b]?)
    (hk : ∀ b p mu, b < w.heap.size → G b = some (.arr κ (some p) mu) → G' b = some (.arr κ (some p) mu) ∧ w'.heap[b]? = w.heap[b]?) :
    ∀ {ts : List T} {b o : Nat} {xs : List Value}, OwL w G κ b o ts xs → OwL w' G' κ b o ts xs
  | [], _, _, xs, hr => by simpa only [OwL] using hr
  | t :: ts, b, o, xs, hr => by
    simp only [OwL] at hr ⊢
    obtain ⟨u, us, e, h1, h2⟩ := hr
    exact ⟨u, us, e, OwT.mono hs hf hk h1, OwL.mono hs hf hk h2⟩
theorem OwRows.mono {w w' : World} {G G' : Ghost} {κ : Key} (hs : w.heap.size ≤ w'.heap.size) (hf : ∀ b, b < w.heap.size → Fz G b → Fz G' b ∧ w'.heap[b]? = w.heap[b]?)
    (hk : ∀ b p mu, b < w.heap.size → G b = some (.arr κ (some p) mu) → G' b = some (.arr κ (some p) mu) ∧ w'.heap[b]? = w.heap[b]?) :
    ∀ {rs : List (List T)} {b o sz : Nat} {xs : List Value}, OwRows w G κ b o sz rs xs → OwRows w' G' κ b o sz rs xs
  | [], _, _, _, xs, hr => by simpa only [OwRows] using hr
  | r :: rs, b, o, sz, xs, hr => by
    simp only [OwRows] at hr ⊢
    obtain ⟨c, d, e, hl, h1, h2⟩ := hr
    exact ⟨c, d, e, hl, OwL.mono hs hf hk h1, OwRows.mono hs hf hk h2⟩
end

/-- Forget, in a whole state. -/
def killF (pa pv pd : Key → Bool) : List (Nat × V) → List (Nat × V)
  | [] => []
  | (t, x) :: l => (t, x.kill pa pv pd) :: killF pa pv pd l
def killVs (pa pv pd : Key → Bool) : List (Key × List V) → List (Key × List V)
  | [] => []
  | (t, x) :: l => (t, V.killL pa pv pd x) :: killVs pa pv pd l

theorem look_killF (pa pv pd : Key → Bool) (t : Nat) : ∀ l, look t (killF pa pv pd l) = (look t l).map (V.kill pa pv pd)
  | [] => rfl
  | (a, x) :: l => by
    simp only [killF, look]
    split <;> simp [look_killF pa pv pd t l]
theorem look_killVs (pa pv pd : Key → Bool) (t : Key) : ∀ l, look t (killVs pa pv pd l) = (look t l).map (V.killL pa pv pd)
  | [] => rfl
  | (a, x) :: l => by
    simp only [killVs, look]
    split <;> simp [look_killVs pa pv pd t l]

def St.kill (st : St) (pa pv pd : Key → Bool) : St := { st with fr := killF pa pv pd st.fr, vs := killVs pa pv pd st.vs }

/-- The frame and the variables behind a step: what was held, forgotten in part. -/
theorem frame_step {pa pv pd : Key → Bool} {w w' : World} {g g' : Gh} {fr : List (Nat × V)} {as as' : List (Key × Arr)} {tmps : Array Value} (h : Steps pa pv pd w g as w' g' as')
    (hf : ∀ t x, look t fr = some x → VRep w g as x (tmps.getD t undef)) : ∀ t x, look t (killF pa pv pd fr) = some x → VRep w' g' as' x (tmps.getD t undef) := by
  intro t x hx
  rw [look_killF] at hx
  cases hy : look t fr with
  | none => rw [hy] at hx; cases hx
  | some y => rw [hy] at hx; cases hx; exact VRep.step h (hf t y hy)

end Go.E
