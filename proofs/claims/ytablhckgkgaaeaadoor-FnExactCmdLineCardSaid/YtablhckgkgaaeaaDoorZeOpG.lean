/- A part of E, an interpreter of Go code on trees, proved sound over the model for every program. No condition beyond what each theorem states. -/
import Derived.Test.YtablhckgkgaaeaaDoorZeQuiet
set_option linter.unusedSimpArgs false
set_option linter.unusedVariables false
namespace Go.E
open Go

/-! ### Bytes as a string; a slice literal that nobody writes -/

def rowInts : List (List T) → Option (List Int)
  | [] => some []
  | [.int .u8 n] :: rs => match rowInts rs with
    | some ns => some (n :: ns)
    | none => none
  | _ => none

def strOf (ns : List Int) : ByteArray := ns.foldl (fun r n => r.push (UInt8.ofNat n.toNat)) ByteArray.empty

theorem rowInts_ok {w : World} {ok : Nat → Prop} : ∀ {rs : List (List T)} {ns : List Int} {xs : List Value}, rowInts rs = some ns → RoRows w ok 1 rs xs → xs = ns.map (Value.int .u8)
  | [], ns, xs, h, hr => by
    simp only [rowInts, Option.some.injEq] at h
    subst h
    simpa only [RoRows, List.map_nil] using hr
  | r :: rs, ns, xs, h, hr => by
    unfold rowInts at h
    split at h
    · rename_i e; cases e
    · rename_i n rs' e
      cases e
      split at h
      · rename_i ms hm
        cases h
        simp only [RoRows, RoL, RoT] at hr
        obtain ⟨a, b, rfl, _, ⟨u, us, rfl, rfl, rfl⟩, h2⟩ := hr
        rw [rowInts_ok hm h2]
        simp
      · cases h
    · cases h

def strV (P : Program) (st : St) (s d : TypeId) (x : V) : Option V :=
  match P.underlying s, P.underlying d with
  | some (.slice e), some .string =>
    match P.underlying e with
    | some (.int .u8) =>
      match x with
      | .sl _ 1 rows => (rowInts rows).map fun ns => .str (strOf ns)
      | .ref κ off len => (look κ st.as).bind fun A => if A.sz = 1 then (rowInts ((A.rows.drop off).take len)).map fun ns => .str (strOf ns) else none
      | .nil _ => some (.str ByteArray.empty)
      | _ => none
    | _ => none
  | _, _ => none

theorem strV_ok {P : Program} {o : Oper} {st : St} {s d : TypeId} {xo : Operand} {x y : V} (ho : o.op = .convert s d xo) (hx : evO st xo = some x) (hy : strV P st s d x = some y) : PureV P o st y := by
  intro w0 G0 g a w h
  have hv := evO_ok h hx
  unfold strV at hy
  split at hy
  · rename_i e hs hd
    split at hy
    · rename_i he
      have fin : ∀ ns base len cap, a.eval xo = .slice base len cap → (len ≠ 0 → ∃ b off, base = some ⟨b, off, none⟩ ∧ (loadCells ⟨b, off, none⟩ len).run P w = .ok (ns.map (Value.int .u8)).toArray w) → (len = 0 → ns = []) →
          ∃ v, (execOp a.eval o).run P w = .ok (.value v) w ∧ VRep w g st.as (.str (strOf ns)) v := by
        intro ns base len cap hb hl h0
        refine ⟨.string (strOf ns), ?_, by simp only [VRep]⟩
        unfold execOp
        rw [ho]; dsimp only
        rw [hb]
        have : (convert s d (.slice base len cap)).run P w = .ok (.string (strOf ns)) w := by
          rw [run_convert_bytes_string w s d e base len cap hs he hd]
          by_cases hl0 : len = 0
          · subst hl0
            have := h0 rfl
            subst this
            cases base with
            | none => rfl
            | some ad => exact run_bytesToString w ad 0 cap [] (by simp [loadCells, loadCellsFrom])
          · obtain ⟨b, off, rfl, hc⟩ := hl hl0
            exact run_bytesToString w _ len cap ns hc
        simp only [Sem.run_bind, this, Result.andThen_ok, Sem.run_pure]
      have len_of : ∀ {rs : List (List T)} {ns : List Int}, rowInts rs = some ns → ns.length = rs.length := by
        intro rs
        induction rs with
        | nil => intro ns h; simp only [rowInts, Option.some.injEq] at h; subst h; rfl
        | cons r rs ih =>
          intro ns h
          unfold rowInts at h
          split at h
          · rename_i e; cases e
          · rename_i n rs' e
            cases e
            split at h
            · rename_i ms hm; cases h; simp [ih hm]
            · cases h
          · cases h
      have ro : ∀ (ok : Nat → Prop) {rows : List (List T)} {ns : List Int}, RoT w ok (.sl .shared 1 rows) (a.eval xo) → rowInts rows = some ns → ∃ v, (execOp a.eval o).run P w = .ok (.value v) w ∧ VRep w g st.as (.str (strOf ns)) v := by
        intro ok rows ns hr hn
        simp only [RoT] at hr
        obtain ⟨base, cap, xs, e1, _, _, hrow, hcell⟩ := hr
        refine fin ns base rows.length cap e1 (fun hne => ?_) (fun h0 => ?_)
        · obtain ⟨b, off, e2, _, _, hc⟩ := hcell (by intro e; rw [e] at hne; exact hne rfl)
          refine ⟨b, off, e2, ?_⟩
          have hx := rowInts_ok hn hrow
          have := run_loadCells_list (P := P) w ⟨b, off, none⟩ xs (fun i u hi => by rw [add_mk]; exact hc i u hi)
          rw [hx] at this
          rw [List.length_map, len_of hn] at this
          exact this
        · have := len_of hn
          rw [h0] at this
          simpa using this
      split at hy
      · rename_i dep rows
        cases hn : rowInts rows with
        | none => rw [hn] at hy; cases hy
        | some ns =>
          rw [hn] at hy
          cases hy
          simp only [VRep] at hv
          exact ro _ hv hn
      · rename_i κ off len
        cases hl : look κ st.as with
        | none => rw [hl] at hy; cases hy
        | some A =>
          rw [hl] at hy
          simp only [Option.bind_some] at hy
          split at hy
          · rename_i hsz
            cases hn : rowInts ((A.rows.drop off).take len) with
            | none => rw [hn] at hy; cases hy
            | some ns =>
              rw [hn] at hy
              cases hy
              have hr := V.ro_ok (P := P) (t := .sl .shared A.sz (T.shareR ((A.rows.drop off).take len))) h hv (by simp only [V.ro, hl, Option.map_some])
              have sh : ∀ {rs : List (List T)} {ns : List Int}, rowInts rs = some ns → rowInts (T.shareR rs) = some ns := by
                intro rs
                induction rs with
                | nil => intro ns h; exact h
                | cons r rs ih =>
                  intro ns h
                  unfold rowInts at h
                  split at h
                  · rename_i e; cases e
                  · rename_i n rs' e
                    cases e
                    split at h
                    · rename_i ms hm; cases h; simp only [T.shareR, T.shareL, T.share, rowInts, ih hm]
                    · cases h
                  · cases h
              rw [hsz] at hr
              exact ro _ hr (sh hn)
          · cases hy
      · cases hy
        simp only [VRep] at hv
        obtain ⟨base, hv⟩ := hv
        exact fin [] base 0 0 hv (fun h => absurd rfl h) (fun _ => rfl)
      · cases hy
    · cases hy
  · cases hy

/-- Cells that nobody will write. -/
theorem toTs_ro {w : World} {g : Gh} {as : List (Key × Arr)} : ∀ {xs : List V} {vs : List Value} {ts : List T}, VRepL w g as xs vs → toTs xs = some ts → RoL w (Fz g.G) ts vs
  | [], vs, ts, h, ht => by simp only [toTs, Option.some.injEq] at ht; subst ht; simpa only [VRepL, RoL] using h
  | x :: xs, vs, ts, h, ht => by
    simp only [toTs] at ht
    split at ht
    · rename_i t ts' h1 h2
      cases ht
      simp only [VRepL, RoL] at h ⊢
      obtain ⟨u, us, e, h3, h4⟩ := h
      refine ⟨u, us, e, ?_, toTs_ro h4 h2⟩
      unfold V.toT at h1
      split at h1 <;> cases h1 <;> simp only [VRep] at h3 <;> simp only [RoT]
      · exact h3
      · exact h3
      · exact h3
      · obtain ⟨base, rfl⟩ := h3
        exact ⟨base, 0, [], rfl, Nat.le_refl _, Nat.zero_le _, by simp [RoRows], fun e => absurd rfl e⟩
      · exact h3
    · cases ht

theorem chunk_ro {w : World} {ok : Nat → Prop} {sz : Nat} : ∀ {n : Nat} {ts : List T} {xs : List Value}, RoL w ok ts xs → ts.length = n * sz → RoRows w ok sz (chunk sz n ts) xs
  | 0, ts, xs, h, hl => by
    have : ts = [] := by simpa using hl
    subst this
    simpa only [chunk, RoRows, RoL] using h
  | n + 1, ts, xs, h, hl => by
    simp only [chunk, RoRows]
    have hlen : sz ≤ ts.length := by rw [hl, Nat.add_mul]; omega
    refine ⟨xs.take sz, xs.drop sz, by simp, by simp; omega, h.take sz, chunk_ro (h.drop sz) (by simp [hl, Nat.add_mul])⟩

/-- A slice literal, read only from the first. -/
def buildSliceF (P : Program) (st : St) (t : TypeId) (len : Nat) (parts : List (Nat × Operand)) : Option V :=
  match P.underlying t with
  | some (.slice e) =>
    match tySz P e, zeroOf P e, evParts P st (fun _ => e) parts with
    | some s, some z, some xs =>
      if s = 0 ∨ len * s > 16777216 ∨ z.length ≠ s ∨ len = 0 then none else
      match fillV (fun i => some (i * s, s)) ((List.replicate len z).flatten) xs with
      | some cells =>
        match toTs cells with
        | some ts => some (.sl none s (chunk s len ts))
        | none => none
      | none => none
    | _, _, _ => none
  | _ => none

theorem buildSliceF_ok {P : Program} [Inv P] {o : Oper} {st : St} {t : TypeId} {len : Nat} {parts : Array (Nat × Operand)} {x : V} (ho : o.op = .buildSlice t len parts) (hx : buildSliceF P st t len parts.toList = some x) : QuietV P o st x := by
  intro w0 G0 g a w _ h K Q hK
  unfold buildSliceF at hx
  split at hx
  · rename_i e hu
    split at hx
    · rename_i s z xs hs hz hxs
      split at hx
      · cases hx
      · rename_i hns
        split at hx
        · rename_i cells hf
          split at hx
          · rename_i ts hts
            cases hx
            obtain ⟨i, zv, hi, hzv, hrep⟩ := zeroOf_info hz
            have hsi : i.size = s := by unfold tySz at hs; rw [hi] at hs; simpa using hs
            have hzl := (hrep w g st.as).length
            simp only [Array.length_toList] at hzl
            have hs0 : s ≠ 0 := fun e => hns (.inl e)
            have hsmall : ¬ len * s > 16777216 := fun e => hns (.inr (.inl e))
            have hzs : z.length = s := Classical.byContradiction fun e => hns (.inr (.inr (.inl e)))
            have hl0 : len ≠ 0 := fun e => hns (.inr (.inr (.inr e)))
            obtain ⟨h1, h2⟩ := evParts_ok h hxs
            have hzero : VRepL w g st.as (List.replicate len z).flatten ((Array.range (len * s)).map (zv.cells[· % zv.cells.size]!)).toList := by
              have hsz : s = zv.cells.size := by omega
              rw [hsz, madeCells_flat zv.cells (by omega)]
              exact (hrep w g st.as).replicate len
            obtain ⟨cs', hf', ho'⟩ := fillV_ok hf h1 h2 hzero
            have hcl := ho'.length
            simp only [Array.length_toList] at hcl
            have htl := toTs_length hts
            have hol : cells.length = len * s := by rw [fillV_length hf]; simp [hzs]
            have hpos : ¬ len * s = 0 := by intro e; rcases Nat.mul_eq_zero.1 e with e | e; exact hl0 e; exact hs0 e
            have hrun : (Instr.buildSlice t len (parts.map fun (i, x) => (i, a.eval x))).run P w = .ok (.slice (some ⟨w.heap.size, 0, none⟩) len len) (w.alloc (.cells cs' e)) := by
              have hm : (parts.map fun (i, x) => (i, a.eval x)).toList = parts.toList.map fun p => (p.1, a.eval p.2) := by simp
              simp only [Instr.buildSlice, Sem.run_bind, run_underlying hu, Result.andThen_ok, run_sizeOf' hs, if_neg hsmall, if_neg hpos, zeroValue, typeInfo, run_program, hi, hzv, Sem.run_pure, hm]
              simp only [if_neg hsmall, pure_bind, Sem.run_bind, Sem.run_pure, run_program, Result.andThen_ok, hi, hzv, hf', newRow, run_newObj]
              rfl
            have hg : Grows w (w.alloc (.cells cs' e)) := ⟨rfl, rfl, rfl, by simp, fun b hb => heap_alloc_old w _ hb⟩
            have hst : Steps ff ff ff w g st.as (w.alloc (.cells cs' e)) g st.as := Steps.same hg.size fun b hb' _ => hg.old b hb'
            have hfz : Fz g.G w.heap.size := by unfold Fz; rw [h.lab _ (Nat.le_refl _)]; trivial
            unfold Oper.wp
            have hex : (execOp a.eval o).run P w = .ok (.value (.slice (some ⟨w.heap.size, 0, none⟩) len len)) (w.alloc (.cells cs' e)) := by
              unfold execOp
              rw [ho]; dsimp only
              simp only [Sem.run_bind, hrun, Result.andThen_ok, Sem.run_pure]
            rw [hex, Oper.upon_value]
            refine hK _ _ hg ?_
            simp only [VRep, RoT, chunk_length]
            refine ⟨some ⟨w.heap.size, 0, none⟩, len, cs'.toList, rfl, Nat.le_refl _, ?_, ?_, fun _ => ⟨w.heap.size, 0, rfl, by simp, hfz, fun j u hj => ?_⟩⟩
            · simp only [maxLen]; have := Nat.le_mul_of_pos_right len (Nat.pos_of_ne_zero hs0); omega
            · exact chunk_ro (toTs_ro (ho'.keep hst) hts) (by omega)
            · rw [cell_of_row _ w.heap.size (0 + j) cs' e (0, 0) (heap_alloc_new w _)]
              simpa using hj
          · cases hx
        · cases hx
    · cases hx
  · cases hx

end Go.E
