/- A part of E, an interpreter of Go code on trees, proved sound over the model for every program. No condition beyond what each theorem states. -/
import Derived.Test.YtablhckgkgaaeaaDoorZeOpD
set_option linter.unusedSimpArgs false
set_option linter.unusedVariables false
namespace Go.E
open Go

/-! ### Addresses of elements; slicing -/

def idxV (P : Program) (st : St) (t : TypeId) (x i : V) : Option V :=
  match P.underlying t, x, i with
  | some (.slice e), .sl dep sz rows, .int _ n =>
    if tySz P e = some sz ∧ 0 ≤ n ∧ n < rows.length then (rows[n.toNat]?).map fun r => .rptr dep r 0 else none
  | some (.slice e), .ref κ off len, .int _ n =>
    match look κ st.as with
    | some A => if tySz P e = some A.sz ∧ 0 ≤ n ∧ n < len then some (.eptr κ (off + n.toNat) 0) else none
    | none => none
  | some (.array len e), .vptr d j, .int _ n =>
    match tySz P e with
    | some s => if 0 ≤ n ∧ n < len then some (.vptr d (j + n.toNat * s)) else none
    | none => none
  | _, _, _ => none

theorem idxV_ok {P : Program} {o : Oper} {st : St} {t : TypeId} {xo io : Operand} {x i y : V} (ho : o.op = .indexAddr t xo io) (hx : evO st xo = some x) (hi : evO st io = some i)
    (hy : idxV P st t x i = some y) : PureV P o st y := by
  intro w0 G0 g a w h
  have h1 := evO_ok h hx
  have h2 := evO_ok h hi
  unfold execOp
  rw [ho]; dsimp only
  unfold idxV at hy
  split at hy
  · rename_i e dep sz rows k n hu
    split at hy
    · rename_i hc
      obtain ⟨hsz, h0, hl⟩ := hc
      have hlt : n.toNat < rows.length := by omega
      rw [List.getElem?_eq_getElem hlt] at hy
      simp only [Option.map_some, Option.some.injEq] at hy
      subst hy
      simp only [VRep, RoT] at h1 h2
      obtain ⟨base, cap, xs, hv, hcap, hm, hrow, hb⟩ := h1
      obtain ⟨b, off, hbase, hblt, hok, hcell⟩ := hb (by intro e; rw [e] at hlt; simp at hlt)
      obtain ⟨c, hc, hlen, hget⟩ := hrow.get (List.getElem?_eq_getElem hlt)
      subst hbase
      refine ⟨.pointer (some ⟨b, off + n.toNat * sz, none⟩), ?_, ?_⟩
      · rw [hv, h2]
        have hin : 0 ≤ n ∧ n < (rows.length : Int) := ⟨h0, hl⟩
        simp [Instr.indexAt, run_underlying hu, asIntOf, hin.1, hin.2, run_sizeOf' hsz, add_mk]
      · simp only [VRep]
        refine ⟨b, off + n.toNat * sz, c, by simp, hblt, hok, hc, fun j u hj => ?_⟩
        have := hcell _ u (hget j u hj)
        rwa [← Nat.add_assoc] at this
    · cases hy
  · rename_i e κ off len k n hu
    split at hy
    · rename_i A hA
      split at hy
      · rename_i hc
        obtain ⟨hsz, h0, hl⟩ := hc
        cases hy
        simp only [VRep] at h1 h2
        obtain ⟨A', base', hA', hle, hv, _, hb⟩ := h1
        rw [hA] at hA'
        cases hA'
        have hne : len ≠ 0 := by omega
        have hb := hb hne
        cases hab : (g.ab κ).1 with
        | none =>
          exfalso
          obtain ⟨base, cap, hab', hown⟩ := h.arrs κ A hA
          rw [hab'] at hab
          simp only at hab
          subst hab
          simp only [OwT] at hown
          obtain ⟨b1, c1, xs, e1, _, _, hrow⟩ := hown
          cases e1
          rcases hrow with ⟨h3, _, _⟩ | ⟨b, cur, el, e2, _⟩
          · rw [h3] at hle; simp at hle; omega
          · cases e2
        | some base =>
          rw [hab] at hb
          simp only [Option.map_some] at hb
          subst hb
          refine ⟨.pointer (some ((base.add (off * A.sz)).add (n.toNat * A.sz))), ?_, ?_⟩
          · rw [hv, h2]
            simp [Instr.indexAt, run_underlying hu, asIntOf, h0, hl, run_sizeOf' hsz]
          · simp only [VRep]
            obtain ⟨base0, cap, hab', hown⟩ := h.arrs κ A hA
            have hspot : base.spot = none ∧ True := by
              rw [hab'] at hab
              simp only at hab
              subst hab
              simp only [OwT] at hown
              obtain ⟨b1, c1, xs, e1, _, _, hrow⟩ := hown
              cases e1
              rcases hrow with ⟨h3, _, _⟩ | ⟨b, cur, el, e2, _⟩
              · rw [h3] at hle; simp at hle; omega
              · cases e2; exact ⟨rfl, trivial⟩
            refine ⟨A, base, hA, hab, ?_⟩
            obtain ⟨bb, bo, bs⟩ := base
            simp only at hspot
            obtain ⟨hs0, _⟩ := hspot
            subst hs0
            simp only [add_mk, Nat.add_zero]
            congr 3
            rw [Nat.add_mul]; omega
      · cases hy
    · cases hy
  · rename_i len e d j k n hu
    split at hy
    · rename_i s hs
      split at hy
      · rename_i hc
        cases hy
        simp only [VRep] at h1 h2
        refine ⟨.pointer (some ⟨g.bv d, j + n.toNat * s, none⟩), ?_, by simp only [VRep]⟩
        rw [h1, h2]
        have hin := hc
        simp [Instr.indexAt, run_underlying hu, asIntOf, hin.1, hin.2, run_sizeOf' hs, Instr.sureAddr, add_mk]
      · cases hy
    · cases hy
  · cases hy

def bnd (st : St) (def_ : Nat) : Option Operand → Option Nat
  | none => some def_
  | some o => match evO st o with | some (.int _ n) => if 0 ≤ n then some n.toNat else none | _ => none

def V.isSlice : V → Bool
  | .sl .. | .ref .. | .nil _ => true
  | _ => false

/-- 'x[lo:hi]', and 'x[lo:hi:hi]' (nothing behind it). -/
def sliceV (P : Program) (st : St) (t : TypeId) (x : V) (lo hi mx : Option Operand) : Option V :=
  match P.underlying t, x, mx with
  | some .string, .str s, none =>
    match bnd st 0 lo, bnd st s.size hi with
    | some l, some h => if l ≤ h ∧ h ≤ s.size then some (.str (s.extract l h)) else none
    | _, _ => none
  | some (.slice e), .sl dep sz rows, none =>
    match bnd st 0 lo, bnd st rows.length hi with
    | some l, some h => if l ≤ h ∧ h ≤ rows.length ∧ tySz P e = some sz then some (.sl dep sz ((rows.take h).drop l)) else none
    | _, _ => none
  | some (.slice e), .ref κ off len, none =>
    match bnd st 0 lo, bnd st len hi, look κ st.as with
    | some l, some h, some A => if l ≤ h ∧ h ≤ len ∧ tySz P e = some A.sz then some (.ref κ (off + l) (h - l)) else none
    | _, _, _ => none
  | some (.slice e), .nil sz, none =>
    match bnd st 0 lo, bnd st 0 hi, tySz P e with
    | some 0, some 0, some _ => some (.nil sz)
    | _, _, _ => none
  | some (.slice e), x, some m =>
    match bnd st 0 lo, hi.bind (fun o => bnd st 1 (some o)), bnd st 1 (some m), tySz P e with
    | some 0, some 0, some 0, some s => if x.isSlice then some (.nil s) else none
    | _, _, _, _ => none
  | _, _, _ => none

theorem bnd_ok {w0 : World} {G0 : Ghost} {st : St} {g : Gh} {a : Act} {w : World} (h : Sim w0 G0 st g a w) {df : Nat} {o : Option Operand} {n : Nat} (hb : bnd st df o = some n) :
    (o = none ∧ n = df) ∨ ∃ y k, o = some y ∧ a.eval y = .int k (n : Int) := by
  cases o with
  | none => simp only [bnd, Option.some.injEq] at hb; exact .inl ⟨rfl, hb.symm⟩
  | some y =>
    simp only [bnd] at hb
    split at hb
    · rename_i k m hy
      split at hb
      · rename_i h0
        cases hb
        have := evO_ok h hy
        simp only [VRep] at this
        exact .inr ⟨y, k, rfl, by rw [this]; congr 1; omega⟩
      · cases hb
    · cases hb

theorem run_bounds {P : Program} {w0 : World} {G0 : Ghost} {st : St} {g : Gh} {a : Act} {w : World} (h : Sim w0 G0 st g a w) {isS : Bool} {len cap l hh : Nat} {lo hi : Option Operand}
    (hl : bnd st 0 lo = some l) (hhi : bnd st len hi = some hh) (h1 : l ≤ hh) (h2 : hh ≤ cap) :
    (Instr.sliceBounds isS len cap (lo.map a.eval) (hi.map a.eval) none).run P w = .ok (l, hh, cap) w := by
  have kl : (0 : Int) ≤ l := by omega
  have kh : (0 : Int) ≤ hh := by omega
  have k1 : (l : Int) ≤ hh := by omega
  have k2 : (hh : Int) ≤ cap := by omega
  rcases bnd_ok h hl with ⟨rfl, rfl⟩ | ⟨y, k, rfl, ey⟩ <;> rcases bnd_ok h hhi with ⟨rfl, rfl⟩ | ⟨z, k', rfl, ez⟩
  · simp [Instr.sliceBounds]
  · simp [Instr.sliceBounds, ez, run_sliceBound w k' hh cap _ kh k2]
  · simp [Instr.sliceBounds, ey, run_sliceBound w k l hh _ kl k1]
  · simp [Instr.sliceBounds, ey, ez, run_sliceBound w k' hh cap _ kh k2, run_sliceBound w k l hh _ kl k1]

theorem RoRows.take_drop {w : World} {ok : Nat → Prop} {sz : Nat} : ∀ {rs : List (List T)} {xs : List Value} (l h : Nat), RoRows w ok sz rs xs → RoRows w ok sz ((rs.take h).drop l) ((xs.take (h * sz)).drop (l * sz))
  | [], xs, l, h, hr => by simp only [RoRows] at hr; subst hr; simp [RoRows]
  | r :: rs, xs, l, 0, hr => by simp [RoRows]
  | r :: rs, xs, 0, h + 1, hr => by
    simp only [RoRows] at hr
    obtain ⟨a, b, rfl, hl, h1, h2⟩ := hr
    have hal : a.length = sz := by rw [h1.length, hl]
    have := RoRows.take_drop 0 h h2
    have e1 : (h + 1) * sz = a.length + h * sz := by rw [hal, Nat.succ_mul, Nat.add_comm]
    simp only [List.drop_zero, Nat.zero_mul, List.take_succ_cons, RoRows] at this ⊢
    refine ⟨a, b.take (h * sz), ?_, hl, h1, this⟩
    rw [e1, List.take_append, List.take_of_length_le (Nat.le_add_right _ _), Nat.add_sub_cancel_left]
  | r :: rs, xs, l + 1, h + 1, hr => by
    simp only [RoRows] at hr
    obtain ⟨a, b, rfl, hl, h1, h2⟩ := hr
    have hal : a.length = sz := by rw [h1.length, hl]
    have := RoRows.take_drop l h h2
    have e1 : (h + 1) * sz = a.length + h * sz := by rw [hal, Nat.succ_mul, Nat.add_comm]
    have e2 : (l + 1) * sz = a.length + l * sz := by rw [hal, Nat.succ_mul, Nat.add_comm]
    simp only [List.take_succ_cons, List.drop_succ_cons]
    have e : ((a ++ b).take ((h + 1) * sz)).drop ((l + 1) * sz) = (b.take (h * sz)).drop (l * sz) := by
      rw [e1, e2, List.take_append, List.take_of_length_le (Nat.le_add_right _ _), Nat.add_sub_cancel_left, List.drop_append, List.drop_of_length_le (Nat.le_add_right _ _), Nat.add_sub_cancel_left, List.nil_append]
    rw [e]
    exact this

set_option maxHeartbeats 1000000 in
theorem sliceV_ok {P : Program} {o : Oper} {st : St} {t : TypeId} {xo : Operand} {lo hi mx : Option Operand} {x y : V} (ho : o.op = .slice t xo lo hi mx) (hx : evO st xo = some x)
    (hy : sliceV P st t x lo hi mx = some y) : PureV P o st y := by
  intro w0 G0 g a w h
  have h1 := evO_ok h hx
  unfold execOp
  rw [ho]; dsimp only
  unfold sliceV at hy
  split at hy
  · rename_i s hu
    split at hy
    · rename_i l hh hl hhi
      split at hy
      · rename_i hc
        cases hy
        simp only [VRep] at h1
        refine ⟨_, ?_, by simp only [VRep]; rfl⟩
        rw [h1]
        simp [Instr.sliceAt, Instr.slice, run_underlying hu, run_bounds h hl hhi hc.1 hc.2]
      · cases hy
    · cases hy
  · rename_i e dep sz rows hu
    split at hy
    · rename_i l hh hl hhi
      split at hy
      · rename_i hc
        obtain ⟨hc1, hc2, hsz⟩ := hc
        cases hy
        simp only [VRep, RoT] at h1
        obtain ⟨base, cap, xs, hv, hcap, hm, hrow, hb⟩ := h1
        refine ⟨.slice (if cap = l then base else base.map (·.add (l * sz))) (hh - l) (cap - l), ?_, ?_⟩
        · rw [hv]
          simp [Instr.sliceAt, Instr.slice, run_underlying hu, run_bounds h hl hhi hc1 (Nat.le_trans hc2 hcap), run_sizeOf' hsz]
        · simp only [VRep, RoT]
          refine ⟨_, cap - l, _, by congr 1; simp; omega, by simp; omega, by omega, hrow.take_drop l hh, fun hne => ?_⟩
          have hne' : rows ≠ [] := by intro e; subst e; simp at hne
          have hlt : l < hh := by
            rcases Nat.lt_or_ge l hh with h' | h'
            · exact h'
            · exfalso; apply hne; apply List.eq_nil_of_length_eq_zero; simp; omega
          obtain ⟨b, off, hbase, hblt, hok, hcell⟩ := hb hne'
          have hne2 : ¬ cap = l := by omega
          refine ⟨b, off + l * sz, by simp [hne2, hbase, add_mk], hblt, hok, fun j u hj => ?_⟩
          rw [List.getElem?_drop, List.getElem?_take] at hj
          split at hj
          · have := hcell _ u hj
            rwa [← Nat.add_assoc] at this
          · cases hj
      · cases hy
    · cases hy
  · rename_i e κ off len hu
    split at hy
    · rename_i l hh A hl hhi hA
      split at hy
      · rename_i hc
        obtain ⟨hc1, hc2, hsz⟩ := hc
        cases hy
        simp only [VRep] at h1
        obtain ⟨A', base', hA', hle, hv, hb0, hb⟩ := h1
        rw [hA] at hA'
        cases hA'
        obtain ⟨base, cap, hab, hown⟩ := h.arrs κ A hA
        simp only [OwT] at hown
        obtain ⟨b1, c1, xs, e1, hcap, hm, _⟩ := hown
        cases e1
        have hcc : len ≤ (g.ab κ).2 - off := by rw [hab]; simp only; omega
        refine ⟨.slice (if (g.ab κ).2 - off = l then base' else base'.map (·.add (l * A.sz))) (hh - l) ((g.ab κ).2 - off - l), ?_, ?_⟩
        · rw [hv]
          simp [Instr.sliceAt, Instr.slice, run_underlying hu, run_bounds h hl hhi hc1 (Nat.le_trans hc2 hcc), run_sizeOf' hsz]
        · simp only [VRep]
          refine ⟨A, _, hA, by omega, by congr 1; omega, fun h0 => ?_, fun hn => ?_⟩
          · have h3 : off = 0 := by omega
            have h4 : l = 0 := by omega
            subst h3; subst h4
            rw [hb0 rfl]
            split
            · rfl
            · cases (g.ab κ).1 <;> simp [Addr.add]
          · have hne : len ≠ 0 := by omega
            have hne2 : ¬ (g.ab κ).2 - off = l := by omega
            rw [hb hne, if_neg hne2, hab]
            cases hbb : base with
            | none => rfl
            | some ba =>
              have hsp : ba.spot = none := by
                obtain ⟨base3, cap3, hab3, hown3⟩ := h.arrs κ A hA
                rw [hab] at hab3
                cases hab3
                simp only [OwT] at hown3
                obtain ⟨b4, c4, xs4, e4, _, _, hrow4⟩ := hown3
                cases e4
                rcases hrow4 with ⟨h5, _, _⟩ | ⟨b, cur, el, e2, _⟩
                · rw [h5] at hle; simp at hle; omega
                · rw [hbb] at e2; cases e2; rfl
              obtain ⟨bb, bo, bs⟩ := ba
              simp only at hsp
              subst hsp
              simp only [Option.map_some, add_mk, Nat.add_mul, Nat.add_assoc]
      · cases hy
    · cases hy
  · rename_i e sz hu
    split at hy
    · rename_i s hl hhi hs
      cases hy
      simp only [VRep] at h1
      obtain ⟨base, hv⟩ := h1
      refine ⟨.slice base 0 0, ?_, by simp only [VRep]; exact ⟨base, rfl⟩⟩
      rw [hv]
      simp [Instr.sliceAt, Instr.slice, run_underlying hu, run_bounds h hl hhi (Nat.le_refl _) (Nat.le_refl _), run_sizeOf' hs]
    · cases hy
  · rename_i e m hu
    split at hy
    · rename_i s hl hhi hm hs
      split at hy
      · rename_i hsl
        cases hy
        obtain ⟨base, n, c, hv⟩ : ∃ base n c, a.eval xo = .slice base n c := by
          clear hx
          revert h1 hsl
          generalize a.eval xo = vv
          intro h1 hsl
          rename_i x _ _ _ _ _ _ _
          cases x <;> simp only [V.isSlice, Bool.false_eq_true] at hsl <;> simp only [VRep] at h1
          · obtain ⟨b, e⟩ := h1; exact ⟨_, _, _, e⟩
          · simp only [RoT] at h1; obtain ⟨_, _, _, e, _⟩ := h1; exact ⟨_, _, _, e⟩
          · obtain ⟨_, _, _, _, e, _⟩ := h1; exact ⟨_, _, _, e⟩
        refine ⟨.slice base 0 0, ?_, by simp only [VRep]; exact ⟨base, rfl⟩⟩
        rw [hv]
        cases hi with
        | none => simp at hhi
        | some z =>
          simp only [Option.bind_some] at hhi
          rcases bnd_ok h hhi with ⟨e', _⟩ | ⟨z', k', e', ez⟩
          · cases e'
          · cases e'
            rcases bnd_ok h hm with ⟨e'', _⟩ | ⟨m', k'', e'', em⟩
            · cases e''
            · cases e''
              have kc : ((0 : Nat) : Int) ≤ c := by omega
              have hb : (Instr.sliceBounds true n c (lo.map a.eval) (some (a.eval z)) (some (a.eval m))).run P w = .ok (0, 0, 0) w := by
                rcases bnd_ok h hl with ⟨rfl, _⟩ | ⟨y', k, rfl, ey⟩
                · simp [Instr.sliceBounds, ez, em, Instr.sliceBound, asIntOf]
                · simp [Instr.sliceBounds, ey, ez, em, Instr.sliceBound, asIntOf]
              simp [Instr.sliceAt, Instr.slice, run_underlying hu, hb, run_sizeOf' hs]
      · cases hy
    · cases hy
  · cases hy

end Go.E
