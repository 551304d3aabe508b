/- A part of E, an interpreter of Go code on trees, proved sound over the model for every program. No condition beyond what each theorem states. -/
import Derived.Test.YtablhckgkgaaeaaDoorZeOpC
set_option linter.unusedSimpArgs false
set_option linter.unusedVariables false
namespace Go.E
open Go

/-! ### New variables; loads -/

def upd {α β : Type} [DecidableEq α] (f : α → β) (k : α) (v : β) : α → β := fun x => if x = k then v else f x

/-- The state with a new variable. -/
def St.newVar (st : St) (d : Key) (cs : List V) : St :=
  { st with fr := killF ff (one d) ff st.fr, vs := E.put d (V.killL ff (one d) ff cs) (killVs ff (one d) ff st.vs) }

theorem Sim.newVar {w0 : World} {G0 : Ghost} {st : St} {g : Gh} {a : Act} {w : World} (h : Sim w0 G0 st g a w) (d : Key) {cs : List V} {news : Array Value} (t : TypeId)
    (hn : VRepL w g st.as cs news.toList) :
    ∃ g', Sim w0 G0 (st.newVar d cs) g' a (w.alloc (.cells news t)) ∧ g'.bv d = w.heap.size ∧ g'.ab = g.ab := by
  refine ⟨{ g with G := fun b => if b = w.heap.size then some (.var d) else (match g.G b with | some (.var d') => if d' = d then none else g.G b | _ => g.G b), bv := upd g.bv d w.heap.size }, ?_, by simp [upd], rfl⟩
  generalize hg' : ({ g with G := fun b => if b = w.heap.size then some (.var d) else (match g.G b with | some (.var d') => if d' = d then none else g.G b | _ => g.G b), bv := upd g.bv d w.heap.size } : Gh) = g'
  have hnew : g'.G w.heap.size = some (.var d) := by subst hg'; simp
  have hab : g'.ab = g.ab := by subst hg'; rfl
  have hbvd : g'.bv d = w.heap.size := by subst hg'; simp [upd]
  have hbv : ∀ d', d' ≠ d → g'.bv d' = g.bv d' := fun d' hd => by subst hg'; simp [upd, hd]
  have hold : ∀ b, b < w.heap.size → (∀ d', g.G b ≠ some (.var d')) → g'.G b = g.G b := by
    intro b hb hv
    subst hg'
    simp only [Nat.ne_of_lt hb, if_false]
  have hvar : ∀ b d', b < w.heap.size → d' ≠ d → g.G b = some (.var d') → g'.G b = some (.var d') := by
    intro b d' hb hd hv
    subst hg'
    simp [Nat.ne_of_lt hb, hv, hd]
  have hfz : ∀ b, b < w.heap.size → Fz g.G b → Fz g'.G b ∧ (w.alloc (.cells news t)).heap[b]? = w.heap[b]? := by
    intro b hb hf
    refine ⟨?_, heap_alloc_old w _ hb⟩
    unfold Fz at *
    rw [hold b hb (fun d' e => by rw [e] at hf; exact hf)]
    exact hf
  have harr : ∀ b κ p mu, b < w.heap.size → g.G b = some (.arr κ p mu) → g'.G b = some (.arr κ p mu) ∧ (w.alloc (.cells news t)).heap[b]? = w.heap[b]? := by
    intro b κ p mu hb hf
    exact ⟨by rw [hold b hb (fun d' e => by rw [e] at hf; cases hf)]; exact hf, heap_alloc_old w _ hb⟩
  have hst : Steps ff (one d) ff w g st.as (w.alloc (.cells news t)) g' st.as := {
    size := by simp
    fz := hfz
    inner := fun κ _ b p mu hb hf => by
      obtain ⟨h1, h2⟩ := harr b κ _ mu hb hf
      exact ⟨⟨p, mu, h1⟩, h2⟩
    arr := fun κ _ A hA => ⟨by rw [hab], A, hA, rfl, Nat.le_refl _⟩
    var := fun d' hd' => hbv d' (by simpa [one] using hd') }
  refine { fr := h.fr.step rfl rfl rfl (by simp) (fun b hb hf => ⟨heap_alloc_old w _ hb, fun e => (hfz b hb e).1, fun e => by rw [hold b hb (fun d' e' => by rw [e] at e'; cases e')]; exact e⟩), defers := h.defers, nt := h.nt, frame := frame_step hst h.frame, vars := ?_, arrs := ?_, lab := ?_ }
  · intro d' cells hd'
    simp only [St.newVar, look_put] at hd'
    by_cases e : d' = d
    · subst e
      simp only [if_true] at hd'
      cases hd'
      rw [hbvd]
      exact ⟨hnew, news, t, heap_alloc_new w _, VRepL.step hst hn⟩
    · simp only [e, if_false, look_killVs] at hd'
      cases hl : look d' st.vs with
      | none => rw [hl] at hd'; cases hd'
      | some cells' =>
        rw [hl] at hd'
        cases hd'
        obtain ⟨hG, cur, el, hb, hr⟩ := h.vars d' cells' hl
        have hlt := lt_of_heap hb
        rw [hbv d' e]
        exact ⟨hvar _ d' hlt e hG, cur, el, by rw [heap_alloc_old w _ hlt]; exact hb, VRepL.step hst hr⟩
  · intro κ A hA
    exact (h.arrs κ A hA).keep (by simp) (by rw [hab]) hfz (fun b p mu hb hf => harr b κ p mu hb hf)
  · intro b hb
    simp only [World.size_alloc] at hb
    subst hg'
    have h1 : g.G b = none := h.lab b (by omega)
    have h2 : b ≠ w.heap.size := by omega
    simp [h1, h2]

/-- A type's zero value, cell by cell. -/
def zeroCs (P : Program) : Nat → TypeId → Option (List V)
  | 0, _ => none
  | n + 1, t =>
    match P.underlying t with
    | some .bool => some [.bool false]
    | some (.int k) => some [.int k 0]
    | some .string => some [.str ByteArray.empty]
    | some (.slice e) => (tySz P e).map fun s => [.nil s]
    | some (.struct fs) => (fs.toList.mapM fun f => zeroCs P n f.type).map List.flatten
    | some (.array len e) => (zeroCs P n e).map fun z => (List.replicate len z).flatten
    | _ => none

def zeroOne : V → Value → Bool
  | .int k 0, .int k' 0 => decide (k = k')
  | .bool false, .bool false => true
  | .str s, .string s' => decide (s.size = 0) && decide (s'.size = 0)
  | .nil _, .slice none 0 0 => true
  | _, _ => false

def zeroLike : List V → List Value → Bool
  | [], [] => true
  | x :: xs, y :: ys => zeroOne x y && zeroLike xs ys
  | _, _ => false

theorem ba_empty {s : ByteArray} (h : s.size = 0) : s = ByteArray.empty := by
  cases s with
  | mk d =>
    have : d = #[] := Array.eq_empty_of_size_eq_zero (by simpa [ByteArray.size] using h)
    subst this; rfl

theorem zeroOne_ok {w : World} {g : Gh} {as : List (Key × Arr)} {x : V} {y : Value} (h : zeroOne x y = true) : VRep w g as x y := by
  unfold zeroOne at h
  split at h
  · simp only [decide_eq_true_eq] at h; subst h; simp only [VRep]
  · simp only [VRep]
  · rename_i s s'
    simp only [Bool.and_eq_true, decide_eq_true_eq] at h
    simp only [VRep]
    rw [ba_empty h.1, ba_empty h.2]
  · exact ⟨none, rfl⟩
  · cases h

def zeroOf (P : Program) (t : TypeId) : Option (List V) :=
  match zeroCs P 12 t, (P.info? t).bind (·.zero) with
  | some vs, some z => if zeroLike vs z.cells.toList then some vs else none
  | _, _ => none

theorem zeroLike_ok {w : World} {g : Gh} {as : List (Key × Arr)} : ∀ {vs : List V} {cs : List Value}, zeroLike vs cs = true → VRepL w g as vs cs
  | [], [], _ => by simp only [VRepL]
  | [], _ :: _, h => by simp [zeroLike] at h
  | _ :: _, [], h => by simp [zeroLike] at h
  | x :: vs, y :: cs, h => by
    simp only [zeroLike, Bool.and_eq_true] at h
    exact ⟨_, _, rfl, zeroOne_ok h.1, zeroLike_ok h.2⟩

theorem zeroOf_spec {P : Program} {t : TypeId} {vs : List V} (h : zeroOf P t = some vs) : ∃ z, (∀ w, (zeroValue t).run P w = .ok z w) ∧ ∀ w g as, VRepL w g as vs z.cells.toList := by
  unfold zeroOf at h
  split at h
  · rename_i vs' z hv hz
    split at h
    · rename_i hl
      cases h
      refine ⟨z, fun w => ?_, fun w g as => zeroLike_ok hl⟩
      cases hi : P.info? t with
      | none => rw [hi] at hz; cases hz
      | some i =>
        rw [hi] at hz
        have hz : i.zero = some z := hz
        simp [zeroValue, typeInfo, hi, hz]
    · cases h
  · cases h

/-- 'alloc' and 'box'. -/
theorem alloc_ok {P : Program} {o : Oper} {st : St} {t : TypeId} {d : Tmp} {cs : List V} (ho : o.op = .alloc t) (hdst : o.dst = some d) (hd : d < st.nt) (hz : zeroOf P t = some cs) :
    OpOk P o st ((st.newVar [d] cs).put (some d) (.vptr [d] 0)) := by
  intro w0 G0 a w ⟨g, h⟩
  obtain ⟨z, hrun, hrep⟩ := zeroOf_spec hz
  obtain ⟨g', h', hbv, _⟩ := h.newVar [d] (cs := cs) (news := z.cells) t (hrep w g st.as)
  refine ⟨.pointer (some ⟨w.heap.size, 0, none⟩), w.alloc (.cells z.cells t), .inl ?_, g', ?_⟩
  · unfold execOp
    rw [ho]; dsimp only
    simp only [Instr.alloc, Sem.run_bind, hrun, Result.andThen_ok, newVar, newRow, run_newObj, Sem.run_pure]
    rfl
  · rw [hdst]
    exact h'.put (by simp only [dstOk, St.newVar]; exact decide_eq_true hd) (by simp only [VRep]; rw [hbv])

theorem box_ok {P : Program} {o : Oper} {st : St} {t : TypeId} {y : Operand} {d : Tmp} {x : V} (ho : o.op = .box t y) (hdst : o.dst = some d) (hd : d < st.nt) (hx : evT P st t y = some x)
    (hsc : x.cells.all V.scalar = true) : OpOk P o st ((st.newVar [d] x.cells).put (some d) (.vptr [d] 0)) := by
  intro w0 G0 a w ⟨g, h⟩
  have hv := evT_ok h hx
  obtain ⟨g', h', hbv, _⟩ := h.newVar [d] (cs := x.cells) (news := (a.eval y).cells) t (hv.cells hsc).1
  refine ⟨.pointer (some ⟨w.heap.size, 0, none⟩), w.alloc (.cells (a.eval y).cells t), .inl ?_, g', ?_⟩
  · unfold execOp
    rw [ho]; dsimp only
    simp only [Instr.box, Sem.run_bind, newVar, newRow, run_newObj, Result.andThen_ok, Sem.run_pure]
    rfl
  · rw [hdst]
    exact h'.put (by simp only [dstOk, St.newVar]; exact decide_eq_true hd) (by simp only [VRep]; rw [hbv])

/-! Loads -/

mutual
/-- What is read of data that nobody writes. -/
def T.toV (dep : Option Key) : T → V
  | .int k n => .int k n
  | .bool b => .bool b
  | .str s => .str s
  | .sl _ sz rows => .sl dep sz rows
  | .ptr row => .rptr dep row 0
  | .fn f caps => .fn f (T.toVL dep caps)
def T.toVL (dep : Option Key) : List T → List V
  | [] => []
  | t :: ts => t.toV dep :: T.toVL dep ts
end

mutual
theorem RoT.toV {w : World} {g : Gh} {as : List (Key × Arr)} {dep : Option Key} : ∀ {t : T} {v : Value}, RoT w (okd g.G dep) t v → VRep w g as (t.toV dep) v
  | .int .., v, h => by simpa only [T.toV, VRep, RoT] using h
  | .bool _, v, h => by simpa only [T.toV, VRep, RoT] using h
  | .str _, v, h => by simpa only [T.toV, VRep, RoT] using h
  | .sl _ sz rows, v, h => by simpa only [T.toV, VRep, RoT] using h
  | .ptr row, v, h => by
    simp only [T.toV, VRep, RoT] at h ⊢
    obtain ⟨b, o, xs, e, rest⟩ := h
    exact ⟨b, o, xs, by simpa using e, rest⟩
  | .fn f caps, v, h => by
    simp only [T.toV, VRep, RoT] at h ⊢
    obtain ⟨cs, e, hc⟩ := h
    exact ⟨cs, e, RoL.toV hc⟩
theorem RoL.toV {w : World} {g : Gh} {as : List (Key × Arr)} {dep : Option Key} : ∀ {ts : List T} {vs : List Value}, RoL w (okd g.G dep) ts vs → VRepL w g as (T.toVL dep ts) vs
  | [], vs, h => by simpa only [T.toVL, VRepL, RoL] using h
  | t :: ts, vs, h => by
    simp only [T.toVL, VRepL, RoL] at h ⊢
    obtain ⟨u, us, e, h1, h2⟩ := h
    exact ⟨u, us, e, RoT.toV h1, RoL.toV h2⟩
end

theorem RoT.okd_none {w : World} {G : Ghost} {κ : Key} {t : T} {v : Value} (h : RoT w (Fz G) t v) : RoT w (okd G (some κ)) t v :=
  RoT.mono (Nat.le_refl _) (fun b _ hb => ⟨.inl hb, rfl⟩) h

mutual
/-- What is ours can be read, too. -/
theorem OwT.ro {w : World} {G : Ghost} {κ : Key} : ∀ {t : T} {at_ : Nat × Nat} {v : Value}, OwT w G κ (some at_) t v → RoT w (okd G (some κ)) t v
  | .int .., _, v, h => by simpa only [OwT, RoT] using h
  | .bool _, _, v, h => by simpa only [OwT, RoT] using h
  | .str _, _, v, h => by simpa only [OwT, RoT] using h
  | .sl .own sz rows, at_, v, h => by
    simp only [OwT, RoT] at h ⊢
    obtain ⟨base, cap, xs, e, hc, hm, hrow⟩ := h
    rcases hrow with ⟨h1, h2, h3⟩ | ⟨b, cur, el, e1, hG, hb, hsz, htk, hrow⟩
    · subst h1; subst h3
      exact ⟨base, cap, [], e, hc, hm, by simp [RoRows], fun hne => absurd rfl hne⟩
    · refine ⟨base, cap, xs, e, hc, hm, OwRows.ro hrow, fun _ => ⟨b, 0, e1, lt_of_heap hb, .inr ⟨at_, true, hG⟩, fun j u hj => ?_⟩⟩
      rw [cell_of_row w b (0 + j) cur el (0, 0) hb]
      rw [← htk, List.getElem?_take] at hj
      split at hj
      · simpa using hj
      · cases hj
  | .sl .lent sz rows, _, v, h => by
    simp only [OwT] at h
    exact RoT.okd_none (by simpa only [RoT] using h)
  | .sl .shared sz rows, _, v, h => by
    simp only [OwT] at h
    exact RoT.okd_none (by simpa only [RoT] using h)
  | .ptr row, _, v, h => by
    simp only [OwT] at h
    exact RoT.okd_none h
  | .fn f caps, _, v, h => by
    simp only [OwT] at h
    exact RoT.okd_none h
theorem OwL.ro {w : World} {G : Ghost} {κ : Key} : ∀ {ts : List T} {b o : Nat} {vs : List Value}, OwL w G κ b o ts vs → RoL w (okd G (some κ)) ts vs
  | [], _, _, vs, h => by simpa only [OwL, RoL] using h
  | t :: ts, b, o, vs, h => by
    simp only [OwL, RoL] at h ⊢
    obtain ⟨u, us, e, h1, h2⟩ := h
    exact ⟨u, us, e, OwT.ro h1, OwL.ro h2⟩
theorem OwRows.ro {w : World} {G : Ghost} {κ : Key} : ∀ {rs : List (List T)} {b o sz : Nat} {vs : List Value}, OwRows w G κ b o sz rs vs → RoRows w (okd G (some κ)) sz rs vs
  | [], _, _, _, vs, h => by simpa only [OwRows, RoRows] using h
  | r :: rs, b, o, sz, vs, h => by
    simp only [OwRows, RoRows] at h ⊢
    obtain ⟨c, d, e, hl, h1, h2⟩ := h
    exact ⟨c, d, e, hl, OwL.ro h1, OwRows.ro h2⟩
end

/-- A row of an array, out of its cells. -/
theorem RoRows.get {w : World} {ok : Nat → Prop} {sz : Nat} : ∀ {rs : List (List T)} {xs : List Value} {i : Nat} {r : List T}, RoRows w ok sz rs xs → rs[i]? = some r →
    ∃ c, RoL w ok r c ∧ r.length = sz ∧ ∀ j u, c[j]? = some u → xs[i * sz + j]? = some u
  | [], _, i, r, _, h => by simp at h
  | r' :: rs, xs, i, r, hr, h => by
    simp only [RoRows] at hr
    obtain ⟨c, d, rfl, hl, h1, h2⟩ := hr
    cases i with
    | zero =>
      simp at h
      subst h
      refine ⟨c, h1, hl, fun j u hj => ?_⟩
      have : j < c.length := by rcases Nat.lt_or_ge j c.length with h' | h'; exact h'; simp [List.getElem?_eq_none h'] at hj
      simpa [List.getElem?_append, this] using hj
    | succ i =>
      obtain ⟨c', hc', hl', hx⟩ := RoRows.get h2 (by simpa using h)
      refine ⟨c', hc', hl', fun j u hj => ?_⟩
      have hcl : c.length = sz := by rw [h1.length, hl]
      have e : (i + 1) * sz + j = c.length + (i * sz + j) := by rw [hcl, Nat.add_mul]; omega
      rw [e, List.getElem?_append_right (by omega)]
      simpa using hx j u hj
theorem OwRows.get {w : World} {G : Ghost} {κ : Key} {b sz : Nat} : ∀ {rs : List (List T)} {o : Nat} {xs : List Value} {i : Nat} {r : List T}, OwRows w G κ b o sz rs xs → rs[i]? = some r →
    ∃ c, OwL w G κ b (o + i * sz) r c ∧ r.length = sz ∧ ∀ j u, c[j]? = some u → xs[i * sz + j]? = some u
  | [], _, _, i, r, _, h => by simp at h
  | r' :: rs, o, xs, i, r, hr, h => by
    simp only [OwRows] at hr
    obtain ⟨c, d, rfl, hl, h1, h2⟩ := hr
    cases i with
    | zero =>
      simp at h
      subst h
      refine ⟨c, by simpa using h1, hl, fun j u hj => ?_⟩
      have : j < c.length := by rcases Nat.lt_or_ge j c.length with h' | h'; exact h'; simp [List.getElem?_eq_none h'] at hj
      simpa [List.getElem?_append, this] using hj
    | succ i =>
      obtain ⟨c', hc', hl', hx⟩ := OwRows.get h2 (by simpa using h)
      have eo : o + sz + i * sz = o + (i + 1) * sz := by rw [Nat.add_mul]; omega
      rw [eo] at hc'
      refine ⟨c', hc', hl', fun j u hj => ?_⟩
      have hcl : c.length = sz := by rw [h1.length, hl]
      have e : (i + 1) * sz + j = c.length + (i * sz + j) := by rw [hcl, Nat.add_mul]; omega
      rw [e, List.getElem?_append_right (by omega)]
      simpa using hx j u hj

/-- The cells that an address leads into. -/
def cellsAt (st : St) : V → Option (List V × Nat)
  | .vptr d j => (look d st.vs).map fun cs => (cs, j)
  | .eptr κ i j => (look κ st.as).bind fun A => A.rows[i]?.map fun r => (T.toVL (some κ) r, j)
  | .rptr dep row j => some (T.toVL dep row, j)
  | _ => none

theorem T.toVL_length (dep : Option Key) : ∀ ts : List T, (T.toVL dep ts).length = ts.length
  | [] => rfl
  | t :: ts => by simp [T.toVL, T.toVL_length dep ts]

theorem cellsAt_ok {w0 : World} {G0 : Ghost} {st : St} {g : Gh} {a : Act} {w : World} (h : Sim w0 G0 st g a w) {x : V} {v : Value} (hx : VRep w g st.as x v) {vs : List V} {j : Nat} (hc : cellsAt st x = some (vs, j)) :
    ∃ b o cs, v = .pointer (some ⟨b, o + j, none⟩) ∧ VRepL w g st.as vs cs ∧ ∀ i u, cs[i]? = some u → w.cell? ⟨b, o + i, none⟩ = some u := by
  cases x <;> simp only [cellsAt, reduceCtorEq] at hc
  case vptr d j' =>
    cases hl : look d st.vs with
    | none => rw [hl] at hc; cases hc
    | some cells0 =>
      rw [hl] at hc
      cases hc
      obtain ⟨hG, cur, el, hb, hr⟩ := h.vars d _ hl
      simp only [VRep] at hx
      refine ⟨g.bv d, 0, cur.toList, by simpa using hx, hr, fun i u hi => ?_⟩
      rw [cell_of_row w _ (0 + i) cur el (0, 0) hb]
      simpa using hi
  case eptr κ i j' =>
    cases hl : look κ st.as with
    | none => rw [hl] at hc; cases hc
    | some A =>
      rw [hl] at hc
      simp only [Option.bind_some] at hc
      cases hr : A.rows[i]? with
      | none => rw [hr] at hc; cases hc
      | some r =>
        rw [hr] at hc
        cases hc
        simp only [VRep] at hx
        obtain ⟨A', base, hA', hbase, hv⟩ := hx
        rw [hl] at hA'
        cases hA'
        obtain ⟨base', cap, hab, hown⟩ := h.arrs κ A hl
        rw [hab] at hbase
        simp only at hbase
        subst hbase
        simp only [OwT] at hown
        obtain ⟨b1, c1, xs, e, hcc, hm, hrow⟩ := hown
        cases e
        rcases hrow with ⟨h1, h2, h3⟩ | ⟨b, cur, el, e1, hG, hb, hsz, htk, hrow⟩
        · rw [h1] at hr; simp at hr
        · cases e1
          obtain ⟨c, hcl, hlen, hget⟩ := hrow.get hr
          refine ⟨b, 0 + i * A.sz, c, by rw [hv], (OwL.ro hcl).toV, fun k u hk => ?_⟩
          rw [cell_of_row w b _ cur el (0, 0) hb]
          have := hget k u hk
          rw [← htk, List.getElem?_take] at this
          split at this
          · simpa [Nat.add_assoc] using this
          · cases this
  case rptr dep row j' =>
    cases hc
    simp only [VRep] at hx
    obtain ⟨b, o, xs, e, hlt, hok, hrow, hcell⟩ := hx
    exact ⟨b, o, xs, e, hrow.toV, hcell⟩

def loadV (P : Program) (st : St) (t : TypeId) (x : V) : Option V :=
  match cellsAt st x, tySz P t, isAggT P t with
  | some (vs, j), some n, some b => partV vs j n b
  | _, _, _ => none

theorem loadVar_ok {P : Program} {st : St} {t : TypeId} {x y : V} {p : Value} {w0 : World} {G0 : Ghost} {g : Gh} {a : Act} {w : World} (h : Sim w0 G0 st g a w) (hv : VRep w g st.as x p) (hy : loadV P st t x = some y) :
    ∃ adr v, p = .pointer (some adr) ∧ (loadVar t adr).run P w = .ok v w ∧ VRep w g st.as y v := by
  unfold loadV at hy
  split at hy
  · rename_i vs j n b hc hn hb
    obtain ⟨bl, off, cs, he, hr, hcell⟩ := cellsAt_ok h hv hc
    unfold partV at hy
    cases b with
    | true =>
      simp only [if_true] at hy
      split at hy
      · rename_i hle
        cases hy
        have hcl := hr.length
        have hk : ((cs.drop j).take n).length = n := by simp [hcl]; omega
        have hld := run_loadCells_list (P := P) w ⟨bl, off + j, none⟩ ((cs.drop j).take n) (fun i u hi => by
          rw [add_mk]
          rw [List.getElem?_take] at hi
          split at hi
          · rw [List.getElem?_drop] at hi
            have := hcell (j + i) u hi
            rwa [← Nat.add_assoc] at this
          · cases hi)
        rw [hk] at hld
        refine ⟨_, .agg ((cs.drop j).take n).toArray, he, ?_, ?_⟩
        · simp only [Sem.run_bind, Sem.run_pure, Result.andThen_ok, loadVar, run_isAgg hb, if_true, run_sizeOf' hn, hld]
        · simp only [VRep]
          exact ⟨_, rfl, (hr.drop j).take n⟩
      · cases hy
    | false =>
      simp only [Bool.false_eq_true, if_false] at hy
      obtain ⟨v, hv', hxv⟩ := hr.get hy
      refine ⟨_, v, he, ?_, hxv⟩
      simp only [Sem.run_bind, Sem.run_pure, Result.andThen_ok, loadVar, run_isAgg hb, Bool.false_eq_true, if_false, run_load, hcell j v hv']
  · cases hy

theorem loadV_ok {P : Program} {o : Oper} {st : St} {t : TypeId} {ad : Operand} {x y : V} (ho : o.op = .load t ad) (hx : evO st ad = some x) (hy : loadV P st t x = some y) :
    PureV P o st y := by
  intro w0 G0 g a w h
  obtain ⟨adr, v, he, hr, hyv⟩ := loadVar_ok h (evO_ok h hx) hy
  refine ⟨v, ?_, hyv⟩
  unfold execOp
  rw [ho]; dsimp only
  simp only [he, Instr.loadAt, Instr.sureAddr, Sem.run_bind, Sem.run_pure, Result.andThen_ok, hr]

end Go.E
