/- A part of E, an interpreter of Go code on trees, proved sound over the model for every program. No condition beyond what each theorem states. -/
import Derived.Test.YtablhckgkgaaeaaDoorZeOpA
set_option linter.unusedSimpArgs false
set_option linter.unusedVariables false
namespace Go.E
open Go

/-! ### More operations that only compute -/

/-- A struct's field: its place, its size, whether it is one of several cells. -/
structure FInfo where
  off : Nat
  sz : Nat
  agg : Bool

def isAggT (P : Program) (t : TypeId) : Option Bool :=
  match P.underlying t with
  | some (.struct _) | some (.array _ _) => some true
  | some _ => some false
  | none => none

def tySz (P : Program) (t : TypeId) : Option Nat := (P.info? t).map (·.size)

def fInfo (P : Program) (t : TypeId) (f : Nat) : Option FInfo :=
  match P.underlying t with
  | some (.struct fs) =>
    match fs[f]? with
    | some fd => match tySz P fd.type, isAggT P fd.type with
      | some n, some b => some ⟨fd.offset, n, b⟩
      | _, _ => none
    | none => none
  | _ => none

theorem run_isAgg {P : Program} {t : TypeId} {b : Bool} (h : isAggT P t = some b) (w : World) : (Go.isAgg t).run P w = .ok b w := by
  unfold isAggT at h
  cases hu : P.underlying t with
  | none => rw [hu] at h; cases h
  | some d =>
    rw [hu] at h
    unfold Go.isAgg
    rw [Sem.run_bind, run_underlying hu]
    cases d <;> simp at h <;> subst h <;> rfl

theorem run_sizeOf' {P : Program} {t : TypeId} {n : Nat} (h : tySz P t = some n) (w : World) : (Go.sizeOf t).run P w = .ok n w := by
  unfold tySz at h
  cases hi : P.info? t with
  | none => rw [hi] at h; cases h
  | some i =>
    rw [hi] at h
    cases h
    simp [Go.sizeOf, Go.typeInfo, hi]

theorem VRepL.get {w : World} {g : Gh} {as : List (Key × Arr)} : ∀ {xs : List V} {vs : List Value} {i : Nat} {x : V}, VRepL w g as xs vs → xs[i]? = some x → ∃ v, vs[i]? = some v ∧ VRep w g as x v
  | [], _, i, x, _, h => by simp at h
  | y :: ys, vs, i, x, hr, h => by
    simp only [VRepL] at hr
    obtain ⟨u, us, rfl, h1, h2⟩ := hr
    cases i with
    | zero => simp at h; subst h; exact ⟨u, rfl, h1⟩
    | succ i => simpa using VRepL.get h2 (by simpa using h)

theorem VRepL.drop {w : World} {g : Gh} {as : List (Key × Arr)} : ∀ {xs : List V} {vs : List Value} (n : Nat), VRepL w g as xs vs → VRepL w g as (xs.drop n) (vs.drop n)
  | xs, vs, 0, hr => by simpa using hr
  | [], vs, n + 1, hr => by simp only [VRepL] at hr; subst hr; simp [VRepL]
  | y :: ys, vs, n + 1, hr => by
    simp only [VRepL] at hr
    obtain ⟨u, us, rfl, h1, h2⟩ := hr
    simpa using VRepL.drop n h2

theorem VRepL.take {w : World} {g : Gh} {as : List (Key × Arr)} : ∀ {xs : List V} {vs : List Value} (n : Nat), VRepL w g as xs vs → VRepL w g as (xs.take n) (vs.take n)
  | xs, vs, 0, hr => by simp [VRepL]
  | [], vs, n + 1, hr => by simp only [VRepL] at hr; subst hr; simp [VRepL]
  | y :: ys, vs, n + 1, hr => by
    simp only [VRepL] at hr
    obtain ⟨u, us, rfl, h1, h2⟩ := hr
    simp only [List.take_succ_cons, VRepL]
    exact ⟨u, _, rfl, h1, VRepL.take n h2⟩

theorem VRepL.append {w : World} {g : Gh} {as : List (Key × Arr)} : ∀ {xs ys : List V} {us vs : List Value}, VRepL w g as xs us → VRepL w g as ys vs → VRepL w g as (xs ++ ys) (us ++ vs)
  | [], ys, us, vs, h1, h2 => by simp only [VRepL] at h1; subst h1; simpa using h2
  | x :: xs, ys, us, vs, h1, h2 => by
    simp only [VRepL, List.cons_append] at h1 ⊢
    obtain ⟨u, us', rfl, h3, h4⟩ := h1
    exact ⟨u, us' ++ vs, by simp, h3, VRepL.append h4 h2⟩

/-- A part of some cells: one cell as itself, several as a struct's. -/
def partV (vs : List V) (off sz : Nat) (agg : Bool) : Option V :=
  if agg then (if off + sz ≤ vs.length then some (.agg ((vs.drop off).take sz)) else none) else vs[off]?

theorem partV_ok {P : Program} {t : TypeId} {sz : Nat} {b : Bool} (hs : tySz P t = some sz) (hb : isAggT P t = some b) {w : World} {g : Gh} {as : List (Key × Arr)} {vs : List V} {cs : List Value}
    (hr : VRepL w g as vs cs) {off : Nat} {x : V} (hx : partV vs off sz b = some x) : ∃ v, (Go.part t cs.toArray off).run P w = .ok v w ∧ VRep w g as x v := by
  unfold partV at hx
  unfold Go.part
  rw [Sem.run_bind, run_isAgg hb]
  cases b with
  | true =>
    simp only [if_true] at hx
    split at hx
    · rename_i hle
      cases hx
      refine ⟨.agg ((cs.drop off).take sz).toArray, ?_, ?_⟩
      · simp only [Result.andThen_ok, if_true, Sem.run_bind, run_sizeOf' hs]
        simp only [Result.andThen_ok, Sem.run_pure]
        congr 2
        apply Array.ext'
        simp [List.extract_eq_take_drop]
      · simp only [VRep]
        exact ⟨_, rfl, (hr.drop off).take sz⟩
    · cases hx
  | false =>
    simp only [Bool.false_eq_true, if_false] at hx
    obtain ⟨v, hv, hxv⟩ := hr.get hx
    refine ⟨v, ?_, hxv⟩
    simp [hv]

/-- What these operations tell. -/
def calcV (P : Program) (st : St) (o : Oper) : Option V :=
  match o.op with
  | .move x => evT P st o.type x
  | .assign x => evT P st o.type x
  | .pick c a b =>
    match evO st c with
    | some (.bool true) => evT P st o.type a
    | some (.bool false) => evT P st o.type b
    | _ => none
  | .binOp op _ x y _ =>
    match evO st x, evO st y with
    | some x, some y => binV op x y
    | _, _ => none
  | .unOp .not _ x => match evO st x with | some (.bool b) => some (.bool !b) | _ => none
  | .unOp .neg _ x => match evO st x with | some (.int k n) => some (.int k (k.wrap (0 - n))) | _ => none
  | .extract x i => match evO st x with | some (.tup vs) => vs[i]? | _ => none
  | .field t x f => match evO st x, fInfo P t f with | some (.agg vs), some i => partV vs i.off i.sz i.agg | _, _ => none
  | .fieldAddr t x f =>
    match evO st x, fInfo P t f with
    | some (.vptr d j), some i => if i.sz = 0 then none else some (.vptr d (j + i.off))
    | some (.eptr κ r j), some i => if i.sz = 0 then none else some (.eptr κ r (j + i.off))
    | some (.rptr dep row j), some i => if i.sz = 0 then none else some (.rptr dep row (j + i.off))
    | _, _ => none
  | .nilCheck x =>
    match evO st x with
    | some (.vptr d j) => some (.vptr d j)
    | some (.eptr κ i j) => some (.eptr κ i j)
    | some (.rptr dep row j) => some (.rptr dep row j)
    | _ => none
  | .convert s d x =>
    match P.underlying s, P.underlying d, evO st x with
    | some _, some (.int k), some (.int _ n) => some (.int k (k.wrap n))
    | some .string, some .string, some (.str s) => some (.str s)
    | _, _, _ => none
  | .index t x i =>
    match P.underlying t, evO st x, evO st i with
    | some .string, some (.str s), some (.int _ n) => if h : 0 ≤ n ∧ n.toNat < s.size then some (.int .u8 (s[n.toNat]'h.2).toNat) else none
    | _, _, _ => none
  | .makeFunc (.func f) first captured => if first.isEmpty then (captured.toList.mapM (evO st)).map (.fn f) else none
  | .call { callee := .builtin .len, args, argTypes } =>
    match argTypes.toList, args.toList with
    | [t], [x] =>
      match P.underlying t, evO st x with
      | some .string, some (.str s) => some (.int .i64 s.size)
      | some (.slice _), some (.nil _) => some (.int .i64 0)
      | some (.slice _), some (.sl _ _ rows) => some (.int .i64 rows.length)
      | some (.slice _), some (.ref _ _ n) => some (.int .i64 n)
      | _, _ => none
    | _, _ => none
  | .call { callee := .builtin .min, args, argTypes } =>
    match args.toList with
    | [x, y] => match evO st x, evO st y with
      | some (.int k a), some (.int _ b) => some (.int k (if b < a then b else a))
      | _, _ => none
    | [x, y, z] => match evO st x, evO st y, evO st z with
      | some (.int k a), some (.int _ b), some (.int _ c) => some (.int k (if c < (if b < a then b else a) then c else (if b < a then b else a)))
      | _, _, _ => none
    | _ => none
  | .call { callee := .builtin .max, args, argTypes } =>
    match args.toList with
    | [x, y] => match evO st x, evO st y with
      | some (.int k a), some (.int _ b) => some (.int k (if b > a then b else a))
      | _, _ => none
    | [x, y, z] => match evO st x, evO st y, evO st z with
      | some (.int k a), some (.int _ b), some (.int _ c) => some (.int k (if c > (if b > a then b else a) then c else (if b > a then b else a)))
      | _, _, _ => none
    | _ => none
  | _ => none

theorem mapM_evO {w0 : World} {G0 : Ghost} {st : St} {g : Gh} {a : Act} {w : World} (h : Sim w0 G0 st g a w) : ∀ {l : List Operand} {xs : List V}, l.mapM (evO st) = some xs → VRepL w g st.as xs (l.map a.eval)
  | [], xs, e => by simp at e; subst e; simp [VRepL]
  | o :: l, xs, e => by
    simp only [List.mapM_cons, Option.pure_def, Option.bind_eq_bind] at e
    cases ho : evO st o with
    | none => rw [ho] at e; cases e
    | some x =>
      rw [ho] at e
      cases hl : l.mapM (evO st) with
      | none => rw [hl] at e; cases e
      | some ys =>
        rw [hl] at e
        cases e
        simp only [List.map_cons, VRepL]
        exact ⟨_, _, rfl, evO_ok h ho, mapM_evO h hl⟩

theorem fInfo_spec {P : Program} {t : TypeId} {f : Nat} {i : FInfo} (h : fInfo P t f = some i) :
    ∃ fs fd, P.underlying t = some (.struct fs) ∧ fs[f]? = some fd ∧ fd.offset = i.off ∧ tySz P fd.type = some i.sz ∧ isAggT P fd.type = some i.agg := by
  unfold fInfo at h
  split at h
  · rename_i fs hu
    split at h
    · rename_i fd hf
      split at h
      · rename_i n b hn hb
        cases h
        exact ⟨fs, fd, hu, hf, rfl, hn, hb⟩
      · cases h
    · cases h
  · cases h

theorem run_fieldPlace {P : Program} {fd : Field} {n : Nat} (hn : tySz P fd.type = some n) (h0 : n ≠ 0) (a : Addr) (w : World) : (Go.fieldPlace a fd).run P w = .ok (a.add fd.offset) w := by
  unfold Go.fieldPlace
  rw [Sem.run_bind, run_sizeOf' hn]
  simp [h0]

theorem add_mk (b o n : Nat) : (⟨b, o, none⟩ : Addr).add n = ⟨b, o + n, none⟩ := by
  unfold Addr.add
  split
  · rename_i h; simp [h]
  · rfl

set_option maxHeartbeats 1000000 in
theorem calcV_ok {P : Program} {o : Oper} {st : St} {x : V} (hx : calcV P st o = some x) : PureV P o st x := by
  intro w0 G0 g a w h
  unfold calcV at hx
  unfold execOp
  split at hx
  · rename_i y e
    rw [e]; dsimp only
    exact ⟨_, rfl, evT_ok h hx⟩
  · rename_i y e
    rw [e]; dsimp only
    exact ⟨_, rfl, evT_ok h hx⟩
  · rename_i c y z e
    rw [e]; dsimp only
    split at hx
    · rename_i hc
      have := evO_ok h hc
      simp only [VRep] at this
      exact ⟨_, by simp only [this]; rfl, evT_ok h hx⟩
    · rename_i hc
      have := evO_ok h hc
      simp only [VRep] at this
      exact ⟨_, by simp only [this]; rfl, evT_ok h hx⟩
    · cases hx
  · rename_i op t y z u e
    rw [e]; dsimp only
    split at hx
    · rename_i p q hp hq
      obtain ⟨r, hr, hz⟩ := binV_ok (P := P) (t := t) hx w (evO_ok h hp) (evO_ok h hq)
      refine ⟨r, ?_, hz⟩
      have hg : (eqGuard op t y z (a.eval y) (a.eval z)).run P w = .ok () w := by
        have h1 := evO_ok h hp
        have h2 := evO_ok h hq
        unfold eqGuard
        cases p <;> simp only [binV] at hx <;> simp only [VRep] at h1 <;> try (cases hx)
        all_goals (rw [h1]; cases op <;> simp)
      simp only [Sem.run_bind, hg, Result.andThen_ok, hr]
      rfl
    · cases hx
  · rename_i t y e
    rw [e]; dsimp only
    split at hx
    · rename_i b hb
      cases hx
      have := evO_ok h hb
      simp only [VRep] at this
      exact ⟨_, by simp only [this]; rfl, by simp only [VRep]⟩
    · cases hx
  · rename_i t y e
    rw [e]; dsimp only
    split at hx
    · rename_i k n hb
      cases hx
      have := evO_ok h hb
      simp only [VRep] at this
      exact ⟨_, by simp only [this]; rfl, by simp only [VRep]⟩
    · cases hx
  · rename_i y i e
    rw [e]; dsimp only
    split at hx
    · rename_i vs hb
      have := evO_ok h hb
      simp only [VRep] at this
      obtain ⟨cs, hcs, hl⟩ := this
      obtain ⟨v, hv, hxv⟩ := hl.get hx
      refine ⟨v, ?_, hxv⟩
      rw [hcs]
      simp [Instr.extract, hv]
    · cases hx
  · rename_i t y f e
    rw [e]; dsimp only
    split at hx
    · rename_i vs i hb hi
      have := evO_ok h hb
      simp only [VRep] at this
      obtain ⟨cs, hcs, hl⟩ := this
      obtain ⟨fs, fd, hu, hfd, hoff, hsz, hag⟩ := fInfo_spec hi
      obtain ⟨v, hv, hxv⟩ := partV_ok hsz hag hl hx
      refine ⟨v, ?_, hxv⟩
      rw [hcs]
      simp [Instr.field, run_underlying hu, hfd, asAgg, hoff, hv]
    · cases hx
  · rename_i t y f e
    rw [e]; dsimp only
    split at hx
    · rename_i d j i hb hi
      split at hx
      · cases hx
      · rename_i h0
        cases hx
        have := evO_ok h hb
        simp only [VRep] at this
        obtain ⟨fs, fd, hu, hfd, hoff, hsz, hag⟩ := fInfo_spec hi
        refine ⟨_, ?_, by simp only [VRep]; rfl⟩
        rw [this]
        simp [Instr.fieldAt, run_underlying hu, hfd, Instr.sureAddr, run_fieldPlace hsz h0, hoff, add_mk]
    · rename_i κ r j i hb hi
      split at hx
      · cases hx
      · rename_i h0
        cases hx
        have := evO_ok h hb
        simp only [VRep] at this
        obtain ⟨A, base, hA, hbase, hv⟩ := this
        obtain ⟨fs, fd, hu, hfd, hoff, hsz, hag⟩ := fInfo_spec hi
        refine ⟨.pointer (some ⟨base.block, base.off + r * A.sz + (j + i.off), none⟩), ?_, by simp only [VRep]; exact ⟨A, base, hA, hbase, rfl⟩⟩
        rw [hv]
        simp [Instr.fieldAt, run_underlying hu, hfd, Instr.sureAddr, run_fieldPlace hsz h0, hoff, add_mk, Nat.add_assoc]
    · rename_i dep row j i hb hi
      split at hx
      · cases hx
      · rename_i h0
        cases hx
        have := evO_ok h hb
        simp only [VRep] at this
        obtain ⟨b, o', xs, hv, hlt, hok, hrow, hcell⟩ := this
        obtain ⟨fs, fd, hu, hfd, hoff, hsz, hag⟩ := fInfo_spec hi
        refine ⟨.pointer (some ⟨b, o' + (j + i.off), none⟩), ?_, by simp only [VRep]; exact ⟨b, o', xs, rfl, hlt, hok, hrow, hcell⟩⟩
        rw [hv]
        simp [Instr.fieldAt, run_underlying hu, hfd, Instr.sureAddr, run_fieldPlace hsz h0, hoff, add_mk, Nat.add_assoc]
    · cases hx
  · rename_i y e
    rw [e]; dsimp only
    split at hx <;> try (cases hx)
    all_goals
      rename_i hb
      have := evO_ok h hb
      refine ⟨_, ?_, this⟩
      simp only [VRep] at this
    · rw [this]; rfl
    · obtain ⟨A, base, hA, hbase, hv⟩ := this
      rw [hv]; rfl
    · obtain ⟨b, o', xs, hv, hlt, hok, hrow, hcell⟩ := this
      rw [hv]; rfl
  · rename_i s d y e
    rw [e]; dsimp only
    split at hx <;> try (cases hx)
    · rename_i ds k k' n hs hk hb
      have := evO_ok h hb
      simp only [VRep] at this
      refine ⟨_, ?_, by simp only [VRep]; rfl⟩
      rw [this]
      simp only [convert, Sem.run_bind, run_underlying hs, run_underlying hk, Result.andThen_ok]
      cases ds <;> rfl
    · rename_i s' hs hk hb
      have := evO_ok h hb
      simp only [VRep] at this
      refine ⟨_, ?_, by simp only [VRep]; rfl⟩
      rw [this]
      simp [convert, run_underlying hs, run_underlying hk]
  · rename_i t y i e
    rw [e]; dsimp only
    split at hx <;> try (cases hx)
    rename_i s k n hu hb hi
    split at hx
    · rename_i hin
      cases hx
      have h1 := evO_ok h hb
      have h2 := evO_ok h hi
      simp only [VRep] at h1 h2
      refine ⟨_, ?_, by simp only [VRep]; rfl⟩
      rw [h1, h2]
      simp [Instr.index, run_underlying hu, asIntOf, hin.1, hin.2]
    · cases hx
  · rename_i f first captured e
    rw [e]; dsimp only
    split at hx
    · rename_i hf
      cases hm : captured.toList.mapM (evO st) with
      | none => rw [hm] at hx; cases hx
      | some xs =>
        rw [hm] at hx
        cases hx
        have := mapM_evO h hm
        have h0 : first = #[] := by simpa using hf
        refine ⟨_, rfl, ?_⟩
        simp only [VRep]
        refine ⟨_, ?_, this⟩
        subst h0
        simp only [Array.map_empty, List.map_toArray]
        congr 1
        apply Array.ext'
        simp
    · cases hx
  · rename_i args argTypes e
    rw [e]; dsimp only
    split at hx <;> try (cases hx)
    rename_i t y ht ha
    have et : argTypes = #[t] := by cases argTypes; simp_all
    have ea : args = #[y] := by cases args; simp_all
    subst et; subst ea
    split at hx <;> try (cases hx)
    · rename_i s hu hb
      have := evO_ok h hb
      simp only [VRep] at this
      refine ⟨_, ?_, by simp only [VRep]; rfl⟩
      simp [resolve, invoke, builtin, this, Builtin.len_, run_underlying hu, goInt]
    · rename_i el sz hu hb
      have := evO_ok h hb
      simp only [VRep] at this
      obtain ⟨base, hv⟩ := this
      refine ⟨_, ?_, by simp only [VRep]; rfl⟩
      simp [resolve, invoke, builtin, hv, Builtin.len_, run_underlying hu, goInt]
    · rename_i el dep sz rows hu hb
      have := evO_ok h hb
      simp only [VRep, RoT] at this
      obtain ⟨base, cap, xs, hv, _⟩ := this
      refine ⟨_, ?_, by simp only [VRep]; rfl⟩
      simp [resolve, invoke, builtin, hv, Builtin.len_, run_underlying hu, goInt]
    · rename_i el κ off n hu hb
      have := evO_ok h hb
      simp only [VRep] at this
      obtain ⟨A, base', hA, hl, hv, _⟩ := this
      refine ⟨_, ?_, by simp only [VRep]; rfl⟩
      simp [resolve, invoke, builtin, hv, Builtin.len_, run_underlying hu, goInt]
  · rename_i args argTypes e
    rw [e]; dsimp only
    split at hx <;> try (cases hx)
    · rename_i y z ha
      have ea : args = #[y, z] := by cases args; simp_all
      subst ea
      split at hx <;> try (cases hx)
      rename_i k p k' q hp hq
      have h1 := evO_ok h hp
      have h2 := evO_ok h hq
      simp only [VRep] at h1 h2
      refine ⟨_, ?_, by simp only [VRep]; rfl⟩
      simp [resolve, invoke, builtin, h1, h2, Builtin.min_, Builtin.min2]
    · rename_i y z u ha
      have ea : args = #[y, z, u] := by cases args; simp_all
      subst ea
      split at hx <;> try (cases hx)
      rename_i k p k' q k'' r hp hq hr
      have h1 := evO_ok h hp
      have h2 := evO_ok h hq
      have h3 := evO_ok h hr
      simp only [VRep] at h1 h2 h3
      refine ⟨_, ?_, by simp only [VRep]; rfl⟩
      simp [resolve, invoke, builtin, h1, h2, h3, Builtin.min_, Builtin.min2]
  · rename_i args argTypes e
    rw [e]; dsimp only
    split at hx <;> try (cases hx)
    · rename_i y z ha
      have ea : args = #[y, z] := by cases args; simp_all
      subst ea
      split at hx <;> try (cases hx)
      rename_i k p k' q hp hq
      have h1 := evO_ok h hp
      have h2 := evO_ok h hq
      simp only [VRep] at h1 h2
      refine ⟨_, ?_, by simp only [VRep]; rfl⟩
      simp [resolve, invoke, builtin, h1, h2, Builtin.max_, Builtin.max2]
    · rename_i y z u ha
      have ea : args = #[y, z, u] := by cases args; simp_all
      subst ea
      split at hx <;> try (cases hx)
      rename_i k p k' q k'' r hp hq hr
      have h1 := evO_ok h hp
      have h2 := evO_ok h hq
      have h3 := evO_ok h hr
      simp only [VRep] at h1 h2 h3
      refine ⟨_, ?_, by simp only [VRep]; rfl⟩
      simp [resolve, invoke, builtin, h1, h2, h3, Builtin.max_, Builtin.max2]
  · cases hx

end Go.E
