/- A part of E, an interpreter of Go code on trees, proved sound over the model for every program. No condition beyond what each theorem states. -/
import Derived.Test.YtablhckgkgaaeaaDoorZeOpE
set_option linter.unusedSimpArgs false
set_option linter.unusedVariables false
namespace Go.E
open Go

/-! ### Struct values, slice literals, make -/

def fillV (place : Nat → Option (Nat × Nat)) (cells : List V) : List (Nat × V) → Option (List V)
  | [] => some cells
  | (i, x) :: rest =>
    match place i with
    | none => none
    | some (off, size) =>
      if x.cells.length = size ∧ x.cells.all V.scalar = true ∧ off + size ≤ cells.length then fillV place (cells.take off ++ x.cells ++ cells.drop (off + size)) rest else none

theorem setAll_toList (off : Nat) : ∀ (l : List Value) (k : Nat) (cs : Array Value), off + k + l.length ≤ cs.size →
    ((l.zipIdx k).foldl (fun (cs : Array Value) (p : Value × Nat) => cs.setIfInBounds (off + p.2) p.1) cs).toList = cs.toList.take (off + k) ++ l ++ cs.toList.drop (off + k + l.length)
  | [], k, cs, _ => by simp
  | v :: l, k, cs, h => by
    simp only [List.length_cons] at h
    have ih := setAll_toList off l (k + 1) (cs.setIfInBounds (off + k) v) (by simp; omega)
    simp only [List.zipIdx_cons, List.foldl_cons]
    rw [ih]
    have e := list_seg_step cs.toList (off + k) v l (by simp; omega)
    simpa [Array.toList_setIfInBounds, Nat.add_assoc] using e

theorem fillV_ok {w : World} {g : Gh} {as : List (Key × Arr)} {place : Nat → Option (Nat × Nat)} : ∀ {xs : List (Nat × V)} {vs : List (Nat × Value)} {cells out : List V} {cs : Array Value},
    fillV place cells xs = some out → xs.map (·.1) = vs.map (·.1) → VRepL w g as (xs.map (·.2)) (vs.map (·.2)) → VRepL w g as cells cs.toList → ∃ cs', Instr.fill place cs vs = some cs' ∧ VRepL w g as out cs'.toList
  | [], vs, cells, out, cs, h, hi, hx, hc => by
    cases vs with
    | nil => simp only [fillV, Option.some.injEq] at h; subst h; exact ⟨cs, rfl, hc⟩
    | cons => simp at hi
  | (i, x) :: xs, vs, cells, out, cs, h, hi, hx, hc => by
    cases vs with
    | nil => simp at hi
    | cons p vs =>
      obtain ⟨j, v⟩ := p
      simp only [List.map_cons, List.cons.injEq] at hi
      obtain ⟨rfl, hi⟩ := hi
      simp only [List.map_cons, VRepL, List.cons.injEq] at hx
      obtain ⟨u, us, ⟨rfl, rfl⟩, h1, h2⟩ := hx
      simp only [fillV] at h
      split at h
      · cases h
      · rename_i off size hp
        split at h
        · rename_i hk
          obtain ⟨k1, k2, k3⟩ := hk
          obtain ⟨hcells, _⟩ := h1.cells k2
          have hl := hcells.length
          have hcl := hc.length
          simp only [Array.length_toList] at hl hcl
          have hset : (v.cells.zipIdx.foldl (fun (cs : Array Value) (p : Value × Nat) => cs.setIfInBounds (off + p.2) p.1) cs).toList = cs.toList.take off ++ v.cells.toList ++ cs.toList.drop (off + v.cells.toList.length) := by
            have := setAll_toList off v.cells.toList 0 cs (by simp; omega)
            simp only [Nat.add_zero] at this
            rw [← this, ← Array.foldl_toList]
            simp
          have hrep : VRepL w g as (cells.take off ++ x.cells ++ cells.drop (off + size)) (v.cells.zipIdx.foldl (fun (cs : Array Value) (p : Value × Nat) => cs.setIfInBounds (off + p.2) p.1) cs).toList := by
            rw [hset]
            have e : v.cells.toList.length = size := by simp; omega
            rw [e]
            exact ((hc.take off).append hcells).append (hc.drop (off + size))
          obtain ⟨cs', hf, ho⟩ := fillV_ok h hi h2 hrep
          refine ⟨cs', ?_, ho⟩
          simp only [Instr.fill, hp]
          rw [if_neg]
          · exact hf
          · simp
            omega
        · cases h

def placesOf (P : Program) (fs : List Field) : Option (List (Nat × Nat)) := fs.mapM fun f => (P.info? f.type).map fun i => (f.offset, i.size)

def evParts (P : Program) (st : St) (ty : Nat → TypeId) : List (Nat × Operand) → Option (List (Nat × V))
  | [] => some []
  | (i, o) :: rest =>
    match evT P st (ty i) o, evParts P st ty rest with
    | some x, some xs => some ((i, x) :: xs)
    | _, _ => none

theorem evParts_ok {P : Program} {w0 : World} {G0 : Ghost} {st : St} {g : Gh} {a : Act} {w : World} (h : Sim w0 G0 st g a w) {ty : Nat → TypeId} : ∀ {l : List (Nat × Operand)} {xs : List (Nat × V)}, evParts P st ty l = some xs →
    xs.map (·.1) = (l.map fun p => (p.1, a.eval p.2)).map (·.1) ∧ VRepL w g st.as (xs.map (·.2)) ((l.map fun p => (p.1, a.eval p.2)).map (·.2))
  | [], xs, e => by simp only [evParts, Option.some.injEq] at e; subst e; simp [VRepL]
  | (i, o) :: l, xs, e => by
    simp only [evParts] at e
    split at e
    · rename_i x ys hx hys
      cases e
      obtain ⟨h1, h2⟩ := evParts_ok h hys
      simp only [List.map_cons, VRepL]
      exact ⟨by rw [h1], _, _, rfl, evT_ok h hx, h2⟩
    · cases e

def buildV (P : Program) (st : St) (t : TypeId) (parts : List (Nat × Operand)) : Option V :=
  match P.underlying t with
  | some (.struct fs) =>
    match placesOf P fs.toList, zeroOf P t, evParts P st (fun i => ((fs[i]?).map (·.type)).getD 0) parts with
    | some places, some z, some xs => (fillV (places[·]?) z xs).map .agg
    | _, _, _ => none
  | some (.array _ e) =>
    match tySz P e, zeroOf P t, evParts P st (fun _ => e) parts with
    | some s, some z, some xs => (fillV (fun i => some (i * s, s)) z xs).map .agg
    | _, _, _ => none
  | _ => none

theorem zeroOf_info {P : Program} {t : TypeId} {vs : List V} (h : zeroOf P t = some vs) : ∃ i z, P.info? t = some i ∧ i.zero = some z ∧ ∀ w g as, VRepL w g as vs z.cells.toList := by
  unfold zeroOf at h
  split at h
  · rename_i vs' z hv hz
    split at h
    · rename_i hl
      cases h
      cases hi : P.info? t with
      | none => rw [hi] at hz; cases hz
      | some i => rw [hi] at hz; exact ⟨i, z, rfl, hz, fun w g as => zeroLike_ok hl⟩
    · cases h
  · cases h

theorem buildV_ok {P : Program} {o : Oper} {st : St} {t : TypeId} {parts : Array (Nat × Operand)} {x : V} (ho : o.op = .build t parts) (hx : buildV P st t parts.toList = some x) :
    PureV P o st x := by
  intro w0 G0 g a w h
  have hm : (parts.map fun (i, x) => (i, a.eval x)).toList = parts.toList.map fun p => (p.1, a.eval p.2) := by simp
  unfold buildV at hx
  have key : ∃ cs, P.built t (parts.map fun (i, x) => (i, a.eval x)).toList = some cs ∧ ∃ out, x = .agg out ∧ VRepL w g st.as out cs.toList := by
    rw [hm]
    split at hx
    · rename_i fs hu
      split at hx
      · rename_i places z xs hp hz hxs
        obtain ⟨i, zv, hi, hzv, hrep⟩ := zeroOf_info hz
        cases hf : fillV (fun x => places[x]?) z xs with
        | none => rw [hf] at hx; cases hx
        | some out =>
          rw [hf] at hx
          cases hx
          obtain ⟨h1, h2⟩ := evParts_ok h hxs
          obtain ⟨cs', hf', ho'⟩ := fillV_ok hf h1 h2 (hrep w g st.as)
          refine ⟨cs', ?_, out, rfl, ho'⟩
          unfold Program.built
          simp only [hi, hu, hzv]
          unfold placesOf at hp
          rw [hp]
          simpa using hf'
      · cases hx
    · rename_i n e hu
      split at hx
      · rename_i s z xs hs hz hxs
        obtain ⟨i, zv, hi, hzv, hrep⟩ := zeroOf_info hz
        cases hf : fillV (fun i => some (i * s, s)) z xs with
        | none => rw [hf] at hx; cases hx
        | some out =>
          rw [hf] at hx
          cases hx
          obtain ⟨h1, h2⟩ := evParts_ok h hxs
          obtain ⟨cs', hf', ho'⟩ := fillV_ok hf h1 h2 (hrep w g st.as)
          refine ⟨cs', ?_, out, rfl, ho'⟩
          unfold Program.built
          unfold tySz at hs
          cases hie : P.info? e with
          | none => rw [hie] at hs; cases hs
          | some ie =>
            rw [hie] at hs
            cases hs
            simp only [hi, hu, hzv, hie]
            exact hf'
      · cases hx
    · cases hx
  obtain ⟨cs, hb, out, rfl, hr⟩ := key
  refine ⟨.agg cs, ?_, ?_⟩
  · unfold execOp
    rw [ho]; dsimp only
    simp only [Sem.run_bind, run_build w t _ cs hb, Result.andThen_ok, Sem.run_pure]
  · simp only [VRep]
    exact ⟨cs.toList, rfl, hr⟩

/-! ### New arrays -/

def V.toT : V → Option T
  | .int k n => some (.int k n)
  | .bool b => some (.bool b)
  | .str s => some (.str s)
  | .nil sz => some (.sl .own sz [])
  | .sl none sz rows => some (.sl .shared sz rows)
  | _ => none

theorem V.toT_ok {w w' : World} {g : Gh} {G' : Ghost} {as : List (Key × Arr)} {κ : Key} {at_ : Option (Nat × Nat)} {x : V} {v : Value} {t : T} (hs : w.heap.size ≤ w'.heap.size)
    (hf : ∀ b, b < w.heap.size → Fz g.G b → Fz G' b ∧ w'.heap[b]? = w.heap[b]?) (h : VRep w g as x v) (ht : x.toT = some t) : OwT w' G' κ at_ t v := by
  unfold V.toT at ht
  split at ht <;> cases ht <;> simp only [VRep] at h <;> simp only [OwT]
  · exact h
  · exact h
  · exact h
  · obtain ⟨base, rfl⟩ := h
    exact ⟨base, 0, [], rfl, Nat.le_refl _, Nat.zero_le _, .inl (by simp)⟩
  · exact RoT.mono hs hf h

def toTs : List V → Option (List T)
  | [] => some []
  | x :: xs => match x.toT, toTs xs with
    | some t, some ts => some (t :: ts)
    | _, _ => none

theorem toTs_ok {w w' : World} {g : Gh} {G' : Ghost} {as : List (Key × Arr)} {κ : Key} {b : Nat} (hs : w.heap.size ≤ w'.heap.size)
    (hf : ∀ b, b < w.heap.size → Fz g.G b → Fz G' b ∧ w'.heap[b]? = w.heap[b]?) : ∀ {xs : List V} {vs : List Value} {ts : List T} {o : Nat}, VRepL w g as xs vs → toTs xs = some ts → OwL w' G' κ b o ts vs
  | [], vs, ts, o, h, ht => by simp only [toTs, Option.some.injEq] at ht; subst ht; simpa only [VRepL, OwL] using h
  | x :: xs, vs, ts, o, h, ht => by
    simp only [toTs] at ht
    split at ht
    · rename_i t ts' h1 h2
      cases ht
      simp only [VRepL, OwL] at h ⊢
      obtain ⟨u, us, e, h3, h4⟩ := h
      exact ⟨u, us, e, V.toT_ok hs hf h3 h1, toTs_ok hs hf h4 h2⟩
    · cases ht

def chunk (sz : Nat) : Nat → List T → List (List T)
  | 0, _ => []
  | n + 1, l => l.take sz :: chunk sz n (l.drop sz)

theorem chunk_length (sz : Nat) : ∀ (n : Nat) (l : List T), (chunk sz n l).length = n
  | 0, _ => rfl
  | n + 1, l => by simp [chunk, chunk_length sz n]

theorem OwL.split {w : World} {G : Ghost} {κ : Key} {b : Nat} : ∀ {ts : List T} {o : Nat} {xs : List Value} (n : Nat), OwL w G κ b o ts xs → n ≤ ts.length →
    OwL w G κ b o (ts.take n) (xs.take n) ∧ OwL w G κ b (o + n) (ts.drop n) (xs.drop n)
  | ts, o, xs, 0, h, _ => by simpa [OwL] using h
  | [], o, xs, n + 1, h, hl => by simp at hl
  | t :: ts, o, xs, n + 1, h, hl => by
    simp only [OwL] at h
    obtain ⟨u, us, rfl, h1, h2⟩ := h
    obtain ⟨h3, h4⟩ := OwL.split n h2 (by simpa using hl)
    simp only [List.take_succ_cons, List.drop_succ_cons, OwL]
    exact ⟨⟨u, _, rfl, h1, h3⟩, by rw [Nat.add_assoc, Nat.add_comm 1 n] at h4; exact h4⟩

theorem chunk_ok {w : World} {G : Ghost} {κ : Key} {b sz : Nat} : ∀ {n o : Nat} {ts : List T} {xs : List Value}, OwL w G κ b o ts xs → ts.length = n * sz → OwRows w G κ b o sz (chunk sz n ts) xs
  | 0, o, ts, xs, h, hl => by
    have : ts = [] := List.eq_nil_of_length_eq_zero (by simpa using hl)
    subst this
    simpa only [chunk, OwRows, OwL] using h
  | n + 1, o, ts, xs, h, hl => by
    have hl' : ts.length = sz + n * sz := by rw [hl, Nat.add_mul, Nat.one_mul, Nat.add_comm]
    obtain ⟨h1, h2⟩ := h.split sz (by omega)
    simp only [chunk, OwRows]
    exact ⟨xs.take sz, xs.drop sz, (List.take_append_drop _ _).symm, by simp; omega, h1, chunk_ok h2 (by simp; omega)⟩

/-- The state with a new array. -/
def St.newArr (st : St) (κ : Key) (A : Arr) : St :=
  { st with fr := killF (one κ) ff (one κ) st.fr, vs := killVs (one κ) ff (one κ) st.vs, as := E.put κ A st.as }

def newG (G : Ghost) (n : Nat) (κ : Key) : Ghost := fun b => if b = n then some (.arr κ none true) else (match G b with | some (.arr κ' p mu) => if κ' = κ then none else some (.arr κ' p mu) | x => x)

theorem Sim.newArr {w0 : World} {G0 : Ghost} {st : St} {g : Gh} {a : Act} {w w' : World} (h : Sim w0 G0 st g a w) (κ : Key) {A : Arr} {cap : Nat} {cur : Array Value} {e : TypeId}
    (ho : w'.os = w.os) (ht : w'.tape = w.tape) (hout : w'.output = w.output) (hsz : w'.heap.size = w.heap.size + 1) (hold : ∀ b, b < w.heap.size → w'.heap[b]? = w.heap[b]?)
    (hnew : w'.heap[w.heap.size]? = some (.cells cur e (0, 0))) (hcap : A.rows.length ≤ cap) (hm : cap ≤ maxLen) (hfit : cap * A.sz ≤ cur.size)
    (hrow : ∀ G', (∀ b, b < w.heap.size → Fz g.G b → Fz G' b ∧ w'.heap[b]? = w.heap[b]?) → OwRows w' G' κ w.heap.size 0 A.sz A.rows (cur.toList.take (A.rows.length * A.sz))) :
    ∃ g', Sim w0 G0 (st.newArr κ A) g' a w' ∧ g'.ab κ = (some ⟨w.heap.size, 0, none⟩, cap) := by
  refine ⟨{ g with G := newG g.G w.heap.size κ, ab := upd g.ab κ (some ⟨w.heap.size, 0, none⟩, cap) }, ?_, by simp [upd]⟩
  have hG : ∀ b, b < w.heap.size → newG g.G w.heap.size κ b = (match g.G b with | some (.arr κ' p mu) => if κ' = κ then none else some (.arr κ' p mu) | x => x) := fun b hb => by simp [newG, Nat.ne_of_lt hb]
  have hfz : ∀ b, b < w.heap.size → Fz g.G b → Fz (newG g.G w.heap.size κ) b ∧ w'.heap[b]? = w.heap[b]? := by
    intro b hb hf
    refine ⟨?_, hold b hb⟩
    unfold Fz at *
    rw [hG b hb]
    cases hx : g.G b with
    | none => trivial
    | some l =>
      rw [hx] at hf
      cases l with
      | var d => exact hf.elim
      | other => exact hf.elim
      | arr κ' p mu =>
        simp only at hf ⊢
        by_cases hk : κ' = κ
        · simp [hk]
        · simp [hk, hf]
  have harr : ∀ b κ' p mu, κ' ≠ κ → b < w.heap.size → g.G b = some (.arr κ' p mu) → newG g.G w.heap.size κ b = some (.arr κ' p mu) ∧ w'.heap[b]? = w.heap[b]? := by
    intro b κ' p mu hk hb hf
    exact ⟨by rw [hG b hb, hf]; simp [hk], hold b hb⟩
  have hst : Steps (one κ) ff (one κ) w g st.as w' { g with G := newG g.G w.heap.size κ, ab := upd g.ab κ (some ⟨w.heap.size, 0, none⟩, cap) } (E.put κ A st.as) := {
    size := by omega
    fz := hfz
    inner := fun κ' hk b p mu hb hf => by
      obtain ⟨h1, h2⟩ := harr b κ' _ mu (by simpa [one] using hk) hb hf
      exact ⟨⟨p, mu, h1⟩, h2⟩
    arr := fun κ' hk A' hA' => by
      have hk' : κ' ≠ κ := by simpa [one] using hk
      exact ⟨by simp [upd, hk'], A', by rw [look_put]; simp [hk', hA'], rfl, Nat.le_refl _⟩
    var := fun d _ => rfl }
  refine { fr := h.fr.step ho ht hout (by omega) (fun b hb hf => ⟨hold b hb, fun e => (hfz b hb e).1, fun e => by show newG g.G w.heap.size κ b = _; rw [hG b hb, e]⟩), defers := h.defers, nt := h.nt, frame := frame_step hst h.frame, vars := ?_, arrs := ?_, lab := ?_ }
  · intro d cells hd
    simp only [St.newArr, look_killVs] at hd
    cases hl : look d st.vs with
    | none => rw [hl] at hd; cases hd
    | some cells' =>
      rw [hl] at hd
      cases hd
      obtain ⟨hGd, cur', el, hb, hr⟩ := h.vars d cells' hl
      have hlt := lt_of_heap hb
      refine ⟨?_, cur', el, by rw [hold _ hlt]; exact hb, VRepL.step hst hr⟩
      show newG g.G w.heap.size κ (g.bv d) = _
      rw [hG _ hlt, hGd]
  · intro κ' A' hA'
    simp only [St.newArr, look_put] at hA'
    by_cases hk : κ' = κ
    · subst hk
      simp only [if_true] at hA'
      cases hA'
      refine ⟨some ⟨w.heap.size, 0, none⟩, cap, by simp [upd], ?_⟩
      simp only [OwT]
      refine ⟨_, cap, _, rfl, hcap, hm, .inr ⟨w.heap.size, cur, e, rfl, by simp [newG], hnew, hfit, rfl, hrow _ hfz⟩⟩
    · simp only [hk, if_false] at hA'
      exact (h.arrs κ' A' hA').keep (by omega) (by simp [upd, hk]) hfz (fun b p mu hb hf => harr b κ' p mu hk hb hf)
  · intro b hb
    have h1 : g.G b = none := h.lab b (by omega)
    have h2 : b ≠ w.heap.size := by omega
    simp [newG, h1, h2]

/-- A slice literal. -/
def buildSliceV (P : Program) (st : St) (t : TypeId) (len : Nat) (parts : List (Nat × Operand)) (κ : Key) : Option St :=
  match P.underlying t with
  | some (.slice e) =>
    match tySz P e, zeroOf P e, evParts P st (fun _ => e) parts with
    | some s, some z, some xs =>
      if s = 0 ∨ len * s > 16777216 ∨ z.length ≠ s then none else
      match fillV (fun i => some (i * s, s)) ((List.replicate len z).flatten) xs with
      | some cells =>
        match toTs cells with
        | some ts => some (st.newArr κ ⟨s, chunk s len ts⟩)
        | none => none
      | none => none
    | _, _, _ => none
  | _ => none

theorem VRepL.replicate {w : World} {g : Gh} {as : List (Key × Arr)} {xs : List V} {vs : List Value} (h : VRepL w g as xs vs) : ∀ n, VRepL w g as (List.replicate n xs).flatten (List.replicate n vs).flatten
  | 0 => by simp [VRepL]
  | n + 1 => by simpa [List.replicate_succ] using h.append (VRepL.replicate h n)

theorem madeCells_flat (z : Array Value) (hz : z.size ≠ 0) : ∀ n, ((Array.range (n * z.size)).map (z[· % z.size]!)).toList = (List.replicate n z.toList).flatten := by
  intro n
  apply List.ext_getElem?
  intro i
  have hlen : ((List.replicate n z.toList).flatten).length = n * z.size := by simp
  by_cases hi : i < n * z.size
  · have h1 : i % z.size < z.size := Nat.mod_lt _ (Nat.pos_of_ne_zero hz)
    have e1 : ((Array.range (n * z.size)).map (z[· % z.size]!)).toList[i]? = some z[i % z.size] := by
      simp [hi, h1]
    rw [e1]
    clear e1 hlen
    induction n generalizing i with
    | zero => simp at hi
    | succ n ih =>
      rw [List.replicate_succ, List.flatten_cons]
      by_cases hlt : i < z.size
      · rw [List.getElem?_append_left (by simpa using hlt)]
        simp [Nat.mod_eq_of_lt hlt, hlt]
      · rw [List.getElem?_append_right (by simpa using hlt)]
        have hi' : i - z.size < n * z.size := by rw [Nat.add_mul] at hi; omega
        have h2 : (i - z.size) % z.size < z.size := Nat.mod_lt _ (Nat.pos_of_ne_zero hz)
        have := ih (i - z.size) hi' h2
        simp only [Array.length_toList]
        rw [← this]
        congr 2
        exact (Nat.mod_eq_sub_mod (by omega))
  · rw [List.getElem?_eq_none (by simp; omega), List.getElem?_eq_none (by rw [hlen]; omega)]

theorem fillV_length {place : Nat → Option (Nat × Nat)} : ∀ {xs : List (Nat × V)} {cells out : List V}, fillV place cells xs = some out → out.length = cells.length
  | [], cells, out, h => by simp only [fillV, Option.some.injEq] at h; rw [h]
  | (i, x) :: xs, cells, out, h => by
    simp only [fillV] at h
    split at h
    · cases h
    · split at h
      · rename_i hk
        rw [fillV_length h]
        simp
        omega
      · cases h

theorem toTs_length : ∀ {xs : List V} {ts : List T}, toTs xs = some ts → ts.length = xs.length
  | [], ts, h => by simp only [toTs, Option.some.injEq] at h; subst h; rfl
  | x :: xs, ts, h => by
    simp only [toTs] at h
    split at h
    · rename_i t ts' _ h2
      cases h
      simp [toTs_length h2]
    · cases h

theorem buildSliceV_ok {P : Program} {o : Oper} {st st' : St} {t : TypeId} {len : Nat} {parts : Array (Nat × Operand)} {d : Tmp} (ho : o.op = .buildSlice t len parts) (hdst : o.dst = some d) (hd : d < st.nt)
    (hx : buildSliceV P st t len parts.toList [d] = some st') : OpOk P o st (st'.put (some d) (.ref [d] 0 len)) := by
  intro w0 G0 a w ⟨g, h⟩
  unfold buildSliceV at hx
  split at hx
  · rename_i e hu
    split at hx
    · rename_i s z xs hs hz hxs
      split at hx
      · cases hx
      · rename_i hns
        split at hx
        · rename_i cells hf
          split at hx
          · rename_i ts hts
            cases hx
            obtain ⟨i, zv, hi, hzv, hrep⟩ := zeroOf_info hz
            have hsi : i.size = s := by unfold tySz at hs; rw [hi] at hs; simpa using hs
            have hzl := (hrep w g st.as).length
            simp only [Array.length_toList] at hzl
            have hs0 : s ≠ 0 := fun e => hns (.inl e)
            have hsmall : ¬ len * s > 16777216 := fun e => hns (.inr (.inl e))
            have hzs : z.length = s := Classical.byContradiction fun e => hns (.inr (.inr e))
            obtain ⟨h1, h2⟩ := evParts_ok h hxs
            have hzero : VRepL w g st.as (List.replicate len z).flatten ((Array.range (len * s)).map (zv.cells[· % zv.cells.size]!)).toList := by
              have hsz : s = zv.cells.size := by omega
              rw [hsz, madeCells_flat zv.cells (by omega)]
              exact (hrep w g st.as).replicate len
            obtain ⟨cs', hf', ho'⟩ := fillV_ok hf h1 h2 hzero
            have hcl := ho'.length
            simp only [Array.length_toList] at hcl
            have htl := toTs_length hts
            have hol : cells.length = len * s := by rw [fillV_length hf]; simp [hzs]
            by_cases hl0 : len = 0
            · subst hl0
              have hrun : (Instr.buildSlice t 0 (parts.map fun (i, x) => (i, a.eval x))).run P w = .ok (.slice (some ⟨w.heap.size, 0, none⟩) 0 0) (w.alloc (.cells cs' e)) := by
                have hm : (parts.map fun (i, x) => (i, a.eval x)).toList = parts.toList.map fun p => (p.1, a.eval p.2) := by simp
                have hf'' : Instr.fill (fun i => some (i * s, s)) #[] (parts.toList.map fun p => (p.1, a.eval p.2)) = some cs' := by simpa [Array.range_zero'] using hf'
                simp [Instr.buildSlice, run_underlying hu, run_sizeOf' hs, newRow, hf'', Array.range_zero']
              obtain ⟨g', h', hab⟩ := h.newArr (w' := w.alloc (.cells cs' e)) [d] (A := ⟨s, chunk s 0 ts⟩) (cap := 0) (cur := cs') (e := e) rfl rfl rfl (by simp) (fun b hb => heap_alloc_old w _ hb)
                (heap_alloc_new w _) (by simp [chunk]) (Nat.zero_le _) (by simp) (fun G' hG' => by simp [chunk, OwRows])
              refine ⟨.slice (some ⟨w.heap.size, 0, none⟩) 0 0, w.alloc (.cells cs' e), .inl ?_, g', ?_⟩
              · unfold execOp
                rw [ho]; dsimp only
                simp only [Sem.run_bind, hrun, Result.andThen_ok, Sem.run_pure]
              · rw [hdst]
                refine h'.put (d := some d) (by simp only [dstOk, St.newArr]; exact decide_eq_true hd) ?_
                simp only [VRep, St.newArr, look_put, if_true]
                exact ⟨_, some ⟨w.heap.size, 0, none⟩, rfl, by simp, by rw [hab]; rfl, fun _ => by rw [hab], fun e => absurd rfl e⟩
            · have hpos : ¬ len * s = 0 := by intro e; rcases Nat.mul_eq_zero.1 e with e | e; exact hl0 e; exact hs0 e
              have hrun : (Instr.buildSlice t len (parts.map fun (i, x) => (i, a.eval x))).run P w = .ok (.slice (some ⟨w.heap.size, 0, none⟩) len len) (w.alloc (.cells cs' e)) := by
                have hm : (parts.map fun (i, x) => (i, a.eval x)).toList = parts.toList.map fun p => (p.1, a.eval p.2) := by simp
                simp only [Instr.buildSlice, Sem.run_bind, run_underlying hu, Result.andThen_ok, run_sizeOf' hs, if_neg hsmall, if_neg hpos, zeroValue, typeInfo, run_program, hi, hzv, Sem.run_pure, hm]
                simp only [if_neg hsmall, pure_bind, Sem.run_bind, Sem.run_pure, run_program, Result.andThen_ok, hi, hzv, hf', newRow, run_newObj]
                rfl
              obtain ⟨g', h', hab⟩ := h.newArr (w' := w.alloc (.cells cs' e)) [d] (A := ⟨s, chunk s len ts⟩) (cap := len) (cur := cs') (e := e) rfl rfl rfl (by simp) (fun b hb => heap_alloc_old w _ hb)
                (heap_alloc_new w _) (by simp [chunk_length]) (by simp only [maxLen]; have := Nat.le_mul_of_pos_right len (Nat.pos_of_ne_zero hs0); omega) (by simp; omega)
                (fun G' hG' => by
                  simp only [chunk_length]
                  rw [List.take_of_length_le (by simp; omega)]
                  exact chunk_ok (toTs_ok (w := w) (g := g) (by simp) hG' ho' hts) (by omega))
              refine ⟨.slice (some ⟨w.heap.size, 0, none⟩) len len, w.alloc (.cells cs' e), .inl ?_, g', ?_⟩
              · unfold execOp
                rw [ho]; dsimp only
                simp only [Sem.run_bind, hrun, Result.andThen_ok, Sem.run_pure]
              · rw [hdst]
                refine h'.put (d := some d) (by simp only [dstOk, St.newArr]; exact decide_eq_true hd) ?_
                simp only [VRep, St.newArr, look_put, if_true]
                refine ⟨_, some ⟨w.heap.size, 0, none⟩, rfl, by simp [chunk_length], by rw [hab]; rfl, fun _ => by rw [hab], fun _ => ?_⟩
                rw [hab]; simp [Addr.add]
          · cases hx
        · cases hx
    · cases hx
  · cases hx

end Go.E
