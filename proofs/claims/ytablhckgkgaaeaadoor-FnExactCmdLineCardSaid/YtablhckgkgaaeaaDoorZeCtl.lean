/- A part of E, an interpreter of Go code on trees, proved sound over the model for every program. No condition beyond what each theorem states. -/
import Derived.Test.YtablhckgkgaaeaaDoorZeOpG
set_option linter.unusedSimpArgs false
set_option linter.unusedVariables false
namespace Go.E
open Go

/-! ### Regions, code, bodies -/

/-- An operation, bare: its guard is told by the temporary. -/
structure SOp where
  dst : Option Tmp
  op : Op
  ty : TypeId
  gd : Option (Tmp × Bool)

def SOp.oper (s : SOp) : Oper := ⟨s.dst, s.op, s.ty, "", #[], none⟩

inductive SC where
  | skip
  | reg (draw : Bool) (ops : List SOp)
  | seq (a b : SC)
  | cond (c : Operand) (a b : SC)
  | block (id : Nat) (c : SC)
  | loop (c : SC)
  | exit (id : Nat)
  | ret

inductive Ex where
  | normal
  | exit (id : Nat)
  | ret

/-! One operation. -/

/-- What a quiet operation tells, calls apart. -/
def opV (P : Program) (st : St) (s : SOp) : Option V :=
  match s.op with
  | .load t ad => match evO st ad with | some x => loadV P st t x | none => none
  | .indexAddr t x i => match evO st x, evO st i with | some x, some i => idxV P st t x i | _, _ => none
  | .slice t x lo hi mx => match evO st x with | some x => sliceV P st t x lo hi mx | none => none
  | .build t parts => buildV P st t parts.toList
  | .convert a b xo => match (match evO st xo with | some x => strV P st a b x | none => none) with
    | some y => some y
    | none => calcV P st s.oper
  | _ => calcV P st s.oper

theorem opV_ok {P : Program} {st : St} {s : SOp} {x : V} (h : opV P st s = some x) : PureV P s.oper st x := by
  unfold opV at h
  split at h
  · rename_i t ad e
    split at h
    · rename_i y hy; exact loadV_ok (t := t) (ad := ad) e hy h
    · cases h
  · rename_i t xo io e
    split at h
    · rename_i y i hy hi; exact idxV_ok (t := t) (xo := xo) (io := io) e hy hi h
    · cases h
  · rename_i t xo lo hi mx e
    split at h
    · rename_i y hy; exact sliceV_ok (t := t) (xo := xo) (lo := lo) (hi := hi) (mx := mx) e hy h
    · cases h
  · rename_i t parts e
    exact buildV_ok (t := t) (parts := parts) e h
  · rename_i a b xo e
    split at h
    · rename_i y hy
      cases h
      split at hy
      · rename_i x' hx
        exact strV_ok (s := a) (d := b) (xo := xo) e hx hy
      · cases hy
    · exact calcV_ok h
  · exact calcV_ok h

def allocV (P : Program) (st : St) (d : Option Tmp) (t : TypeId) : Option St :=
  match d, zeroOf P t with
  | some d, some cs => if d < st.nt then some ((st.newVar [d] cs).put (some d) (.vptr [d] 0)) else none
  | _, _ => none
def boxV (P : Program) (st : St) (d : Option Tmp) (t : TypeId) (y : Operand) : Option St :=
  match d, evT P st t y with
  | some d, some x => if d < st.nt ∧ x.cells.all V.scalar = true then some ((st.newVar [d] x.cells).put (some d) (.vptr [d] 0)) else none
  | _, _ => none
def storeV (P : Program) (st : St) (d : Option Tmp) (t : TypeId) (ad va : Operand) : Option St :=
  match d, evO st ad, evT P st t va, tySz P t with
  | none, some (.vptr d j), some x, some n => storeVarV st d j n x
  | _, _, _, _ => none
def buildSliceS (P : Program) (st : St) (d : Option Tmp) (t : TypeId) (len : Nat) (parts : List (Nat × Operand)) : Option St :=
  match d with
  | some d => if d < st.nt then (match buildSliceV P st t len parts [d] with | some st' => some (st'.put (some d) (.ref [d] 0 len)) | none => none) else none
  | none => none

/-- What an operation does that changes memory. -/
def louV (P : Program) (st : St) (s : SOp) : Option St :=
  match s.op with
  | .alloc t => allocV P st s.dst t
  | .box t y => boxV P st s.dst t y
  | .store t ad va => storeV P st s.dst t ad va
  | .buildSlice t len parts => buildSliceS P st s.dst t len parts.toList
  | _ => none

theorem louV_ok {P : Program} {st st' : St} {s : SOp} (h : louV P st s = some st') : OpOk P s.oper st st' := by
  unfold louV at h
  split at h
  · rename_i t e
    unfold allocV at h
    split at h
    · rename_i d cs hd hz
      split at h
      · rename_i hlt
        cases h
        exact alloc_ok (o := s.oper) (t := t) e hd hlt hz
      · cases h
    · cases h
  · rename_i t y e
    unfold boxV at h
    split at h
    · rename_i d x hd hx
      split at h
      · rename_i hlt
        cases h
        exact box_ok (o := s.oper) (t := t) (y := y) e hd hlt.1 hx hlt.2
      · cases h
    · cases h
  · rename_i t ad va e
    unfold storeV at h
    split at h
    · rename_i d j x n hd hy hx hn
      exact storeVarV_ok (o := s.oper) (t := t) (ad := ad) (va := va) e hd hy hx hn h
    · cases h
  · rename_i t len parts e
    unfold buildSliceS at h
    split at h
    · rename_i d hd
      split at h
      · rename_i hlt
        split at h
        · rename_i st2 hb
          cases h
          exact buildSliceV_ok (o := s.oper) (t := t) (len := len) (parts := parts) e hd hlt hb
        · cases h
      · cases h
    · cases h
  · cases h

/-- A call of a function of the program. -/
def callW (P : Program) [Inv P] (st : St) (c : Bool) (cl : Call) (K : V → Prop) : Prop :=
  match callArgs P st cl with
  | some (f, xs) => match roAll P st xs with
    | some ts => callable P f = true ∧ ∃ rs, (c = true → SemR P f ts rs) ∧ (V.permL (xs.map (·.1)) = true ∨ rs.all TV.allOwn = true) ∧ K (retV rs)
    | none => False
  | none => False

/-- A quiet operation: what it tells, if it is carried out. -/
def quietW (P : Program) [Inv P] (st : St) (c : Bool) (s : SOp) (K : V → Prop) : Prop :=
  match s.op with
  | .call ⟨.value f, args, tys⟩ => callW P st c ⟨.value f, args, tys⟩ K
  | .buildSlice t len parts => match buildSliceF P st t len parts.toList with
    | some x => K x
    | none => False
  | _ => ∃ x, (c = true → opV P st s = some x) ∧ K x

theorem quietW_ok {P : Program} [Inv P] {st : St} {c : Bool} {s : SOp} {K : V → Prop} (h : quietW P st c s K) : ∃ x, (c = true → QuietV P s.oper st x) ∧ K x := by
  unfold quietW at h
  split at h
  · rename_i f args tys e
    unfold callW at h
    split at h
    · rename_i f' xs hc
      split at h
      · rename_i ts ht
        obtain ⟨hf, rs, hsem, hp, hK⟩ := h
        exact ⟨retV rs, fun e1 => callRo_quiet (o := s.oper) e hc hf ht (hsem e1) hp, hK⟩
      · exact h.elim
    · exact h.elim
  · rename_i t len parts e
    split at h
    · rename_i x hx
      exact ⟨x, fun _ => buildSliceF_ok (o := s.oper) (t := t) (len := len) (parts := parts) e hx, h⟩
    · exact h.elim
  · obtain ⟨x, hx, h⟩ := h
    exact ⟨x, fun e => (opV_ok (hx e)).quiet, h⟩

/-! What may be there, under a condition. -/

def V.uw : V → V
  | .opt _ x => x
  | x => x
def V.uc : V → Bool
  | .opt c _ => c
  | _ => true

theorem VRep.uw {w : World} {g : Gh} {as : List (Key × Arr)} {x : V} {v : Value} (h : VRep w g as x v) (hc : x.uc = true) : VRep w g as x.uw v := by
  cases x with
  | opt c x =>
    simp only [VRep] at h
    exact h.1 hc
  | _ => exact h

def opTmps (s : SOp) : List Tmp := s.op.operands.toList.filterMap fun | .tmp t => some t | _ => none

def unwF (fr : List (Nat × V)) : List Tmp → List (Nat × V)
  | [] => []
  | t :: ts => match look t fr with
    | some x => (t, x.uw) :: unwF fr ts
    | none => unwF fr ts
def unwC (fr : List (Nat × V)) : List Tmp → Bool
  | [] => true
  | t :: ts => match look t fr with
    | some x => x.uc && unwC fr ts
    | none => unwC fr ts

theorem look_unwF {fr : List (Nat × V)} : ∀ {ts : List Tmp} {t : Nat} {y : V}, look t (unwF fr ts) = some y → unwC fr ts = true → t ∈ ts ∧ ∃ x, look t fr = some x ∧ y = x.uw ∧ x.uc = true
  | [], t, y, h, _ => by simp [unwF, look] at h
  | u :: ts, t, y, h, hc => by
    unfold unwF at h
    unfold unwC at hc
    cases hl : look u fr with
    | none =>
      rw [hl] at h hc
      obtain ⟨h1, h2⟩ := look_unwF h hc
      exact ⟨List.mem_cons_of_mem _ h1, h2⟩
    | some x =>
      rw [hl] at h hc
      simp only [Bool.and_eq_true] at hc
      simp only [look] at h
      split at h
      · rename_i e
        subst e
        cases h
        exact ⟨List.mem_cons_self .., x, hl, rfl, hc.1⟩
      · obtain ⟨h1, h2⟩ := look_unwF h hc.2
        exact ⟨List.mem_cons_of_mem _ h1, h2⟩

/-- One of two, where both are plain. -/
def mergeV (t : Bool) : V → V → Option V
  | .int k a, .int k' b => if k = k' then some (.int k (cond t a b)) else none
  | .bool a, .bool b => some (.bool (cond t a b))
  | .str a, .str b => some (.str (cond t a b))
  | _, _ => none

theorem mergeV_ok {w : World} {g : Gh} {as : List (Key × Arr)} {t : Bool} {x y z : V} {v : Value} (h : mergeV t x y = some z) (h1 : t = true → VRep w g as x v) (h2 : t = false → VRep w g as y v) : VRep w g as z v := by
  unfold mergeV at h
  split at h
  · split at h
    · rename_i e
      subst e
      cases h
      cases t <;> simp_all [VRep]
    · cases h
  · cases h
    cases t <;> simp_all [VRep]
  · cases h
    cases t <;> simp_all [VRep]
  · cases h

/-- 'pick', under a condition. -/
def pickW (P : Program) [Inv P] (st : St) (c : Bool) (ty : TypeId) (q a b : Operand) (K : V → Prop) : Prop :=
  match evO st q, evT P st ty a, evT P st ty b with
  | some q, some x, some y =>
    match q.uw with
    | .bool t => (c = true → q.uc = true) ∧ (c = true → t = true → x.uc = true) ∧ (c = true → t = false → y.uc = true) ∧
      match mergeV t x.uw y.uw with
      | some z => K z
      | none => (t = true → K x.uw) ∧ (t = false → K y.uw)
    | _ => False
  | _, _, _ => False

theorem evO_same {st st' : St} {o : Operand} (h : ∀ t, o = .tmp t → look t st'.fr = look t st.fr) : evO st' o = evO st o := by
  cases o with
  | tmp t => exact h t rfl
  | const v => cases v <;> rfl
  | global g => rfl
  | func f => rfl
theorem evT_same {P : Program} {st st' : St} {ty : TypeId} {o : Operand} (h : ∀ t, o = .tmp t → look t st'.fr = look t st.fr) : evT P st' ty o = evT P st ty o := by
  unfold evT
  split
  · rfl
  · exact evO_same h

/-- A quiet operation, looking at its operands alone, under a condition. -/
def quietS (P : Program) [Inv P] (st : St) (c : Bool) (s : SOp) (K : V → Prop) : Prop :=
  match s.op with
  | .pick q a b => pickW P st c s.ty q a b K
  | _ => (c = true → unwC st.fr (opTmps s) = true) ∧ quietW P { st with fr := unwF st.fr (opTmps s) } c s K

theorem mem_opTmps {s : SOp} {t : Tmp} (h : Operand.tmp t ∈ s.op.operands) : t ∈ opTmps s :=
  List.mem_filterMap.2 ⟨.tmp t, by simpa using h, rfl⟩

theorem quietS_ok {P : Program} [Inv P] {st : St} {c : Bool} {s : SOp} {K : V → Prop} (h : quietS P st c s K) :
    ∃ x, (c = true → ∀ st' : St, st'.nt = st.nt → st'.vs = st.vs → st'.as = st.as → (∀ t ∈ opTmps s, look t st'.fr = look t st.fr) → QuietV P s.oper st' x) ∧ K x := by
  unfold quietS at h
  split at h
  · rename_i q a b e
    have hq : ∀ t, q = .tmp t → t ∈ opTmps s := fun t ht => mem_opTmps (by rw [e]; simp [Op.operands, ht])
    have ha : ∀ t, a = .tmp t → t ∈ opTmps s := fun t ht => mem_opTmps (by rw [e]; simp [Op.operands, ht])
    have hb : ∀ t, b = .tmp t → t ∈ opTmps s := fun t ht => mem_opTmps (by rw [e]; simp [Op.operands, ht])
    unfold pickW at h
    split at h
    · rename_i q' x y h1 h2 h3
      split at h
      · rename_i t ht
        obtain ⟨c1, c2, c3, h⟩ := h
        have core : ∀ z, (c = true → ∀ (w : World) (g : Gh) (as : List (Key × Arr)) (v : Value), (t = true → VRep w g as x.uw v) → (t = false → VRep w g as y.uw v) → VRep w g as z v) →
            (c = true → ∀ st' : St, st'.nt = st.nt → st'.vs = st.vs → st'.as = st.as → (∀ t ∈ opTmps s, look t st'.fr = look t st.fr) → QuietV P s.oper st' z) := by
          intro z hz hc st' e1 e2 e3 hl
          apply PureV.quiet
          intro w0 G0 g act w hs
          have r1 := evO_ok hs ((evO_same fun t ht => hl t (hq t ht)).trans h1)
          have r2 := evT_ok hs ((evT_same fun t ht => hl t (ha t ht)).trans h2)
          have r3 := evT_ok hs ((evT_same fun t ht => hl t (hb t ht)).trans h3)
          have r1 := r1.uw (c1 hc)
          rw [ht] at r1
          simp only [VRep] at r1
          refine ⟨if t = true then act.eval a else act.eval b, ?_, hz hc _ _ _ _ (fun et => ?_) (fun et => ?_)⟩
          · unfold execOp
            have : s.oper.op = .pick q a b := e
            rw [this]; dsimp only
            rw [r1]
            cases t <;> rfl
          · rw [if_pos et]; exact r2.uw (c2 hc et)
          · rw [if_neg (by rw [et]; exact Bool.false_ne_true)]; exact r3.uw (c3 hc et)
        split at h
        · rename_i z hz
          exact ⟨z, core z (fun _ w g as v => mergeV_ok hz), h⟩
        · cases t with
          | true => exact ⟨x.uw, core x.uw (fun _ w g as v k1 _ => k1 rfl), h.1 rfl⟩
          | false => exact ⟨y.uw, core y.uw (fun _ w g as v _ k2 => k2 rfl), h.2 rfl⟩
      · exact h.elim
    · exact h.elim
  · obtain ⟨hc, h⟩ := h
    obtain ⟨x, hx, hK⟩ := quietW_ok h
    refine ⟨x, fun ec st' e1 e2 e3 hl => ?_, hK⟩
    intro w0 G0 g a w hB hs
    have key : Sim w0 G0 { st with fr := unwF st.fr (opTmps s) } g a w :=
          { fr := hs.fr, defers := hs.defers, nt := by rw [hs.nt, e1], frame := fun t y hy => by
              obtain ⟨h1, x', h2, h3, h4⟩ := look_unwF hy (hc ec)
              rw [h3]
              have := (hs.frame t x' (by rw [hl t h1]; exact h2)).uw h4
              rw [e3] at this
              exact this
            , vars := fun d cells hd => by
                rw [← e2] at hd
                have := hs.vars d cells hd
                rw [e3] at this
                exact this
            , arrs := fun κ A hA => hs.arrs κ A (by rw [e3]; exact hA), lab := hs.lab }
    have := hx ec w0 G0 g a w hB key
    rw [e3]
    exact this

/-- One operation that is carried out, quiet or not. -/
def stepW (P : Program) [Inv P] (st : St) (s : SOp) (K : St → Prop) : Prop :=
  match s.op with
  | .alloc t => match allocV P st s.dst t with | some st' => K st' | none => False
  | .box t y => match boxV P st s.dst t y with | some st' => K st' | none => False
  | .store t ad va => match storeV P st s.dst t ad va with | some st' => K st' | none => False
  | .buildSlice t len parts => (match buildSliceS P st s.dst t len parts.toList with | some st' => K st' | none => False) ∨ (dstOk st.nt s.dst = true ∧ quietS P st true s fun x => K (st.put s.dst x))
  | _ => dstOk st.nt s.dst = true ∧ quietS P st true s fun x => K (st.put s.dst x)

theorem OpOk.wp {P : Program} {o : Oper} {st st' : St} (h : OpOk P o st st') {w0 : World} {G0 : Ghost} {a : Act} {w : World} (hs : Simm w0 G0 st a w) {K : Act → World → Prop} {Q : Exit → Act → World → Prop} (hK : ∀ a' w', Simm w0 G0 st' a' w' → K a' w') : o.wp P a w K Q := by
  obtain ⟨v, w', hr, h'⟩ := h w0 G0 a w hs
  unfold Oper.wp
  rcases hr with hr | ⟨hr, rfl⟩
  · rw [hr, Oper.upon_value]; exact hK _ _ h'
  · rw [hr, Oper.upon_skip]; exact hK _ _ h'

theorem stepW_ok {P : Program} [Inv P] {st : St} {s : SOp} {K : St → Prop} (h : stepW P st s K) {w0 : World} {G0 : Ghost} (hB : Base P w0 G0) {a : Act} {w : World} (hs : Simm w0 G0 st a w) {K' : Act → World → Prop} {Q : Exit → Act → World → Prop}
    (hK : ∀ st' a' w', K st' → Simm w0 G0 st' a' w' → K' a' w') : s.oper.wp P a w K' Q := by
  have lou : ∀ st', louV P st s = some st' → K st' → s.oper.wp P a w K' Q := fun st' h1 h2 => (louV_ok h1).wp hs fun a' w' h' => hK _ _ _ h2 h'
  unfold stepW at h
  split at h
  · rename_i t e
    split at h
    · rename_i st' h1; exact lou st' (by unfold louV; rw [e]; exact h1) h
    · exact h.elim
  · rename_i t y e
    split at h
    · rename_i st' h1; exact lou st' (by unfold louV; rw [e]; exact h1) h
    · exact h.elim
  · rename_i t ad va e
    split at h
    · rename_i st' h1; exact lou st' (by unfold louV; rw [e]; exact h1) h
    · exact h.elim
  · rename_i t len parts e
    rcases h with h | h
    · split at h
      · rename_i st' h1; exact lou st' (by unfold louV; rw [e]; exact h1) h
      · exact h.elim
    · obtain ⟨hd, h⟩ := h
      obtain ⟨x, hx, hKx⟩ := quietS_ok h
      exact (hx rfl st rfl rfl rfl (fun _ _ => rfl)).step hd hB hs fun a' w' h' => hK _ _ _ hKx h'
  · obtain ⟨hd, h⟩ := h
    obtain ⟨x, hx, hKx⟩ := quietS_ok h
    exact (hx rfl st rfl rfl rfl (fun _ _ => rfl)).step hd hB hs fun a' w' h' => hK _ _ _ hKx h'

/-! Regions. -/

def wantS (st : St) : Option (Tmp × Bool) → Option Bool
  | none => some true
  | some (t, want) => match look t st.fr with
    | some (.bool b) => some (b == want)
    | some (.opt c (.bool b)) => some (c && (b == want))
    | some (.tup []) => some false
    | _ => none

/-- Operations that change memory. -/
def SOp.loud (s : SOp) : Bool :=
  match s.op with
  | .alloc _ | .box .. | .store .. => true
  | _ => false

/-- A region whose order is fixed. -/
def RW (P : Program) [Inv P] : List SOp → St → (St → Prop) → Prop
  | [], st, K => K st
  | s :: l, st, K =>
    match s.gd with
    | none => stepW P st s fun st' => RW P l st' K
    | some g =>
      match wantS st (some g) with
      | some c =>
        if s.loud then (c = true → stepW P st s fun st' => RW P l st' K) ∧ (c = false → dstOk st.nt s.dst = true ∧ RW P l (st.put s.dst (.tup [])) K)
        else dstOk st.nt s.dst = true ∧ quietS P st c s fun x => RW P l (st.put s.dst (.opt c x)) K
      | none => False

/-- A region that draws its order: each operation sees what it looks at. -/
def DW (P : Program) [Inv P] : List SOp → St → (St → Prop) → Prop
  | [], st, K => K st
  | s :: l, st, K =>
    match s.gd with
    | none => dstOk st.nt s.dst = true ∧ quietS P st true s fun x => DW P l (st.put s.dst x) K
    | some g =>
      match wantS st (some g) with
      | some c => dstOk st.nt s.dst = true ∧ quietS P st c s fun x => DW P l (st.put s.dst (.opt c x)) K
      | none => False

/-- The bare form of an operation. -/
def stripO (ops : List Oper) (o : Oper) : Option SOp :=
  match o.guard with
  | none => some ⟨o.dst, o.op, o.type, none⟩
  | some (j, want) => match (ops[j]?).bind (·.dst) with
    | some t => some ⟨o.dst, o.op, o.type, some (t, want)⟩
    | none => none

def stripOs (ops : List Oper) : List Oper → Option (List SOp)
  | [] => some []
  | o :: l => match stripO ops o, stripOs ops l with
    | some s, some ss => some (s :: ss)
    | _, _ => none

def stripC : Code → Option SC
  | .skip => some .skip
  | .region _ ops draw => if draw && !(Region.lexB .any ops) then none else (match stripOs ops.toList ops.toList with | some l => some (.reg draw l) | none => none)
  | .seq a b => match stripC a, stripC b with | some a, some b => some (.seq a b) | _, _ => none
  | .cond c a b => match stripC a, stripC b with | some a, some b => some (.cond c a b) | _, _ => none
  | .block id c => match stripC c with | some c => some (.block id c) | _ => none
  | .loop c => match stripC c with | some c => some (.loop c) | _ => none
  | .exit id => some (.exit id)
  | .ret => some .ret
  | _ => none

theorem execOp_strip (ρ : Operand → Value) (o : Oper) (s : SOp) (h : o.op = s.op) (h2 : o.type = s.ty) : execOp ρ o = execOp ρ s.oper := by
  cases o; cases s; cases h; cases h2; rfl

theorem Oper.wp_strip {P : Program} {o : Oper} {s : SOp} (h : o.op = s.op) (h2 : o.type = s.ty) (h3 : o.dst = s.dst) {a : Act} {w : World} {K : Act → World → Prop} {Q : Exit → Act → World → Prop} (hw : s.oper.wp P a w K Q) : o.wp P a w K Q := by
  unfold Oper.wp at *
  rw [execOp_strip _ o s h h2]
  cases o; cases s; cases h; cases h2; cases h3
  exact hw

theorem stripO_spec {ops : List Oper} {o : Oper} {s : SOp} (h : stripO ops o = some s) : o.op = s.op ∧ o.type = s.ty ∧ o.dst = s.dst := by
  unfold stripO at h
  split at h
  · cases h; exact ⟨rfl, rfl, rfl⟩
  · split at h
    · cases h; exact ⟨rfl, rfl, rfl⟩
    · cases h

theorem wantF_strip {ops : Array Oper} {o : Oper} {s : SOp} (h : stripO ops.toList o = some s) {st : St} {F : Fun} (hF : ∀ t, F t = look t st.fr) : wantF ops o F = wantS st s.gd := by
  unfold stripO at h
  unfold wantF
  split at h
  · rename_i e; cases h; rw [e]; rfl
  · rename_i j want e
    rw [e]; dsimp only
    split at h
    · rename_i t ht
      cases h
      have ht' : (ops[j]?).bind (·.dst) = some t := by simpa using ht
      rw [ht']
      unfold wantS
      simp only [hF]
      rfl
    · cases h

theorem opt_undef {w : World} {g : Gh} {as : List (Key × Arr)} {x : V} : VRep w g as (.opt false x) undef := by
  simp only [VRep]
  exact ⟨fun e => (by cases e), fun _ => rfl⟩

theorem QuietV.opt {P : Program} [Inv P] {o : Oper} {st : St} {x : V} (h : QuietV P o st x) : QuietV P o st (.opt true x) :=
  fun w0 G0 g a w hB hs K Q hK => h w0 G0 g a w hB hs K Q fun v w' hg hx => hK v w' hg (by simp only [VRep]; exact ⟨fun _ => hx, fun e => (by cases e)⟩)

theorem RW_ok {P : Program} [Inv P] {w0 : World} {G0 : Ghost} (hB : Base P w0 G0) {ops : Array Oper} {Q : Exit → Act → World → Prop} {K : St → Prop} (hK : ∀ st a w, K st → Simm w0 G0 st a w → Q .normal a w) : ∀ (l : List Oper) (ss : List SOp) (st : St) (a : Act) (w : World), stripOs ops.toList l = some ss →
    RW P ss st K → Simm w0 G0 st a w → wpList P ops Q l a w
  | [], ss, st, a, w, hl, h, hs => by
    simp only [stripOs, Option.some.injEq] at hl
    subst hl
    exact hK st a w h hs
  | o :: l, ss, st, a, w, hl, h, hs => by
    simp only [stripOs] at hl
    split at hl
    · rename_i s ss' h1 h2
      cases hl
      obtain ⟨e1, e2, e3⟩ := stripO_spec h1
      have hsf : ∃ g, SimF w0 G0 st.nt st.vs st.as (fun t => look t st.fr) g a w := by obtain ⟨g, hg⟩ := hs; exact ⟨g, SimF.of hg⟩
      obtain ⟨g, hsf⟩ := hsf
      have hwant : ∀ b, wantS st s.gd = some b → Region.wanted o (yielded ops a.tmps) = b := fun b hb => wanted_of hsf (by rw [wantF_strip h1 (fun t => rfl)]; exact hb)
      have skip : ∀ x, dstOk st.nt s.dst = true → wantS st s.gd = some false → (∀ g, VRep w g st.as x undef) → RW P ss' (st.put s.dst x) K → wpList P ops Q (o :: l) a w := by
        intro x hd hw hu h
        refine wpList_step fun K' hK' => ?_
        rw [if_neg (by rw [hwant _ hw]; exact Bool.false_ne_true)]
        obtain ⟨g, hs⟩ := hs
        rw [e3]
        exact hK' _ _ (RW_ok hB hK l ss' _ _ w h2 h ⟨g, hs.put hd (hu g)⟩)
      have go : wantS st s.gd = some true → stepW P st s (fun st' => RW P ss' st' K) → wpList P ops Q (o :: l) a w := by
        intro hw h
        refine wpList_step fun K' hK' => ?_
        rw [if_pos (hwant _ hw)]
        exact Oper.wp_strip e1 e2 e3 (stepW_ok h hB hs fun st' a' w' h3 h4 => hK' _ _ (RW_ok hB hK l ss' st' a' w' h2 h3 h4))
      unfold RW at h
      split at h
      · rename_i hg
        exact go (by rw [hg]; rfl) h
      · rename_i gd hg
        rw [← hg] at h
        split at h
        · rename_i c hw
          split at h
          · cases c with
            | true => exact go hw (h.1 rfl)
            | false =>
              obtain ⟨hd, h⟩ := h.2 rfl
              exact skip (.tup []) hd hw (fun g => by simp only [VRep, VRepL]; exact ⟨[], rfl, rfl⟩) h
          · obtain ⟨hd, h⟩ := h
            obtain ⟨x, hx, hKx⟩ := quietS_ok h
            cases c with
            | true =>
              refine wpList_step fun K' hK' => ?_
              rw [if_pos (hwant _ hw)]
              refine Oper.wp_strip e1 e2 e3 ?_
              exact (hx rfl st rfl rfl rfl (fun _ _ => rfl)).opt.step hd hB hs fun a' w' h' => hK' _ _ (RW_ok hB hK l ss' _ _ w' h2 hKx h')
            | false => exact skip _ hd hw (fun g => opt_undef) hKx
        · exact h.elim
    · cases hl

theorem look_only_mem (F : Fun) (t : Nat) : ∀ ts : List Tmp, t ∈ ts → look t (F.only ts) = F t
  | [], h => by cases h
  | u :: us, hm => by
    cases hx : F t with
    | none =>
      cases hy : look t (F.only (u :: us)) with
      | none => rfl
      | some y =>
        have := look_only _ _ _ _ hy
        rw [hx] at this
        cases this
    | some y =>
      unfold Fun.only
      simp only [List.filterMap_cons]
      by_cases hu : t = u
      · subst hu
        simp only [hx, Option.map_some, look, if_true]
      · have := look_only_mem F t us (by cases hm with | head => exact absurd rfl hu | tail _ h => exact h)
        rw [hx] at this
        unfold Fun.only at this
        cases hc : F u with
        | none => simpa [hc] using this
        | some y => simpa [hc, look, hu] using this

/-- What a drawn region's walk leaves: the frame by looking. -/
theorem DW_lex {P : Program} [Inv P] {ops : Array Oper} {K : St → Prop} : ∀ (l : List Oper) (ss : List SOp) (st : St) (F : Fun), stripOs ops.toList l = some ss → (∀ t, F t = look t st.fr) →
    DW P ss st K → aLex P ops st.nt st.vs st.as (fun F' => ∃ st', K st' ∧ st'.nt = st.nt ∧ st'.vs = st.vs ∧ st'.as = st.as ∧ ∀ t, F' t = look t st'.fr) l F
  | [], ss, st, F, hl, hF, h => by
    simp only [stripOs, Option.some.injEq] at hl
    subst hl
    exact ⟨st, h, rfl, rfl, rfl, hF⟩
  | o :: l, ss, st, F, hl, hF, h => by
    simp only [stripOs] at hl
    split at hl
    · rename_i s ss' h1 h2
      cases hl
      obtain ⟨e1, e2, e3⟩ := stripO_spec h1
      have hput : ∀ x t, (F.put o.dst x) t = look t (st.put s.dst x).fr := fun x t => by
        rw [e3]
        cases s.dst with
        | none => exact hF t
        | some d => simp only [Fun.put, St.put, look]; split <;> simp [hF]
      have hst : ∀ x, (st.put s.dst x).nt = st.nt ∧ (st.put s.dst x).vs = st.vs ∧ (st.put s.dst x).as = st.as := fun x => by
        cases s.dst <;> exact ⟨rfl, rfl, rfl⟩
      have rcc : ∀ x, DW P ss' (st.put s.dst x) K → aLex P ops st.nt st.vs st.as (fun F' => ∃ st', K st' ∧ st'.nt = st.nt ∧ st'.vs = st.vs ∧ st'.as = st.as ∧ ∀ t, F' t = look t st'.fr) l (F.put o.dst x) := fun x hx => by
        have := DW_lex (P := P) (ops := ops) l ss' (st.put s.dst x) (F.put o.dst x) h2 (hput x) hx
        obtain ⟨p1, p2, p3⟩ := hst x
        simpa only [p1, p2, p3] using this
      have hFl : F = fun t => look t st.fr := funext hF
      have quiet : ∀ c x, (c = true → ∀ st' : St, st'.nt = st.nt → st'.vs = st.vs → st'.as = st.as → (∀ t ∈ opTmps s, look t st'.fr = look t st.fr) → QuietV P s.oper st' x) → c = true → QuietV P o ⟨st.nt, F.only (o.looksAt ops), st.vs, st.as⟩ x := by
        intro c x hx ec w0' G0' g a w hB hs K' Q' hK'
        refine Oper.wp_strip e1 e2 e3 ?_
        rw [e3] at hK'
        refine hx ec ⟨st.nt, F.only (o.looksAt ops), st.vs, st.as⟩ rfl rfl rfl (fun t ht => ?_) w0' G0' g a w hB hs K' Q' hK'
        have hin : t ∈ o.looksAt ops := by unfold Oper.looksAt; rw [e1]; exact List.mem_append_left _ ht
        rw [hFl]
        show look t (Fun.only (fun t => look t st.fr) (o.looksAt ops)) = look t st.fr
        exact look_only_mem _ _ _ hin
      unfold DW at h
      simp only [aLex]
      split at h
      · rename_i hg
        obtain ⟨hd, h⟩ := h
        obtain ⟨x, hx, hKx⟩ := quietS_ok h
        exact ⟨x, ⟨by rw [e3]; exact hd, true, by rw [wantF_strip h1 hF, hg]; rfl, quiet true x hx, fun e => (by cases e)⟩, rcc x hKx⟩
      · rename_i gd hg
        rw [← hg] at h
        split at h
        · rename_i c hw
          obtain ⟨hd, h⟩ := h
          obtain ⟨x, hx, hKx⟩ := quietS_ok h
          refine ⟨.opt c x, ⟨by rw [e3]; exact hd, c, by rw [wantF_strip h1 hF]; exact hw, fun ec => ?_, fun ec w g as => ?_⟩, rcc _ hKx⟩
          · have := quiet c x hx ec
            subst ec
            exact this.opt
          · subst ec
            exact opt_undef
        · exact h.elim
    · cases hl

/-! Forgetting. -/

mutual
def V.inAs (ks : List Key) : V → Bool
  | .ref κ _ _ => ks.contains κ
  | .eptr κ _ _ => ks.contains κ
  | .fn _ vs => V.inAsL ks vs
  | .agg vs => V.inAsL ks vs
  | .tup vs => V.inAsL ks vs
  | .opt _ x => x.inAs ks
  | _ => true
def V.inAsL (ks : List Key) : List V → Bool
  | [] => true
  | x :: xs => x.inAs ks && V.inAsL ks xs
end

def keepM {α β : Type} [DecidableEq α] (l : List (α × β)) : List α → List (α × β)
  | [] => []
  | k :: ks => match look k l with
    | some x => (k, x) :: keepM l ks
    | none => keepM l ks

theorem look_keepM {α β : Type} [DecidableEq α] (l : List (α × β)) (k : α) : ∀ ks, look k (keepM l ks) = if k ∈ ks then look k l else none
  | [] => by simp [keepM, look]
  | j :: ks => by
    unfold keepM
    cases h : look j l with
    | none =>
      simp only [look_keepM l k ks]
      by_cases e : k = j
      · subst e; simp [h]
      · simp [e]
    | some x =>
      simp only [look, look_keepM l k ks]
      by_cases e : k = j
      · subst e; simp [h]
      · simp [e]

def inFr (ks : List Key) : List (Nat × V) → Bool
  | [] => true
  | (_, x) :: l => x.inAs ks && inFr ks l
def inVs (ks : List Key) : List (Key × List V) → Bool
  | [] => true
  | (_, x) :: l => V.inAsL ks x && inVs ks l

/-- The state, some of it forgotten. -/
def St.keep (st : St) (ts : List Tmp) (dv ka : List Key) : Option St :=
  let st' : St := ⟨st.nt, keepM st.fr ts, keepM st.vs dv, keepM st.as ka⟩
  if inFr ka st'.fr && inVs ka st'.vs then some st' else none

mutual
theorem VRep.keep_as {w : World} {g : Gh} {as : List (Key × Arr)} {ks : List Key} : ∀ {x : V} {v : Value}, x.inAs ks = true → VRep w g as x v → VRep w g (keepM as ks) x v
  | .ref κ off len, v, hk, h => by
    simp only [V.inAs, List.contains_eq_mem, decide_eq_true_eq] at hk
    simp only [VRep, look_keepM, hk, if_true] at h ⊢
    exact h
  | .eptr κ i j, v, hk, h => by
    simp only [V.inAs, List.contains_eq_mem, decide_eq_true_eq] at hk
    simp only [VRep, look_keepM, hk, if_true] at h ⊢
    exact h
  | .fn f caps, v, hk, h => by
    simp only [V.inAs] at hk
    simp only [VRep] at h ⊢
    obtain ⟨cs, e, hc⟩ := h
    exact ⟨cs, e, VRepL.keep_as hk hc⟩
  | .agg caps, v, hk, h => by
    simp only [V.inAs] at hk
    simp only [VRep] at h ⊢
    obtain ⟨cs, e, hc⟩ := h
    exact ⟨cs, e, VRepL.keep_as hk hc⟩
  | .tup caps, v, hk, h => by
    simp only [V.inAs] at hk
    simp only [VRep] at h ⊢
    obtain ⟨cs, e, hc⟩ := h
    exact ⟨cs, e, VRepL.keep_as hk hc⟩
  | .opt c x, v, hk, h => by
    simp only [V.inAs] at hk
    simp only [VRep] at h ⊢
    exact ⟨fun e => VRep.keep_as hk (h.1 e), h.2⟩
  | .int .., v, _, h => by simpa only [VRep] using h
  | .bool _, v, _, h => by simpa only [VRep] using h
  | .str _, v, _, h => by simpa only [VRep] using h
  | .nil _, v, _, h => by simpa only [VRep] using h
  | .sl .., v, _, h => by simpa only [VRep] using h
  | .vptr .., v, _, h => by simpa only [VRep] using h
  | .rptr .., v, _, h => by simpa only [VRep] using h
  | .undef, v, _, h => by simp only [VRep]
theorem VRepL.keep_as {w : World} {g : Gh} {as : List (Key × Arr)} {ks : List Key} : ∀ {x : List V} {v : List Value}, V.inAsL ks x = true → VRepL w g as x v → VRepL w g (keepM as ks) x v
  | [], v, _, h => by simpa only [VRepL] using h
  | x :: xs, v, hk, h => by
    simp only [V.inAsL, Bool.and_eq_true] at hk
    simp only [VRepL] at h ⊢
    obtain ⟨u, us, e, h1, h2⟩ := h
    exact ⟨u, us, e, VRep.keep_as hk.1 h1, VRepL.keep_as hk.2 h2⟩
end

theorem inFr_look {ks : List Key} : ∀ {l : List (Nat × V)} {t : Nat} {x : V}, inFr ks l = true → look t l = some x → x.inAs ks = true
  | [], t, x, _, h => by simp [look] at h
  | (u, y) :: l, t, x, hk, h => by
    simp only [inFr, Bool.and_eq_true] at hk
    simp only [look] at h
    split at h
    · cases h; exact hk.1
    · exact inFr_look hk.2 h
theorem inVs_look {ks : List Key} : ∀ {l : List (Key × List V)} {t : Key} {x : List V}, inVs ks l = true → look t l = some x → V.inAsL ks x = true
  | [], t, x, _, h => by simp [look] at h
  | (u, y) :: l, t, x, hk, h => by
    simp only [inVs, Bool.and_eq_true] at hk
    simp only [look] at h
    split at h
    · cases h; exact hk.1
    · exact inVs_look hk.2 h

theorem Simm.keep {w0 : World} {G0 : Ghost} {st st' : St} {a : Act} {w : World} (h : Simm w0 G0 st a w) {ts : List Tmp} {dv ka : List Key} (hk : st.keep ts dv ka = some st') : Simm w0 G0 st' a w := by
  obtain ⟨g, h⟩ := h
  unfold St.keep at hk
  dsimp only at hk
  split at hk
  · rename_i hin
    cases hk
    simp only [Bool.and_eq_true] at hin
    refine ⟨g, { fr := h.fr, defers := h.defers, nt := h.nt, frame := fun t x hx => ?_, vars := fun d cells hd => ?_, arrs := fun κ A hA => ?_, lab := h.lab }⟩
    · have hx' := hx
      rw [look_keepM] at hx
      split at hx
      · exact VRep.keep_as (inFr_look hin.1 hx') (h.frame t x hx)
      · cases hx
    · have hd' := hd
      rw [look_keepM] at hd
      split at hd
      · obtain ⟨h1, cur, e, h2, h3⟩ := h.vars d cells hd
        exact ⟨h1, cur, e, h2, VRepL.keep_as (inVs_look hin.2 hd') h3⟩
      · cases hd
    · rw [look_keepM] at hA
      split at hA
      · exact h.arrs κ A hA
      · cases hA
  · cases hk

/-- .. or all of it kept. -/
def Kept (Q : St → Prop) (st : St) : Prop := Q st ∨ ∃ ts dv ka st', st.keep ts dv ka = some st' ∧ Q st'

theorem Kept.simm {Q : St → Prop} {st : St} (h : Kept Q st) {w0 : World} {G0 : Ghost} {a : Act} {w : World} (hs : Simm w0 G0 st a w) : ∃ st', Q st' ∧ Simm w0 G0 st' a w := by
  rcases h with h | ⟨ts, dv, ka, st', hk, h⟩
  · exact ⟨st, h, hs⟩
  · exact ⟨st', h, hs.keep hk⟩

/-! Code. -/

def CW (P : Program) [Inv P] : SC → (Ex → St → Prop) → St → Prop
  | .skip, Q, st => Q .normal st
  | .reg true ops, Q, st => DW P ops st (Kept (Q .normal))
  | .reg false ops, Q, st => RW P ops st (Kept (Q .normal))
  | .seq a b, Q, st => CW P a (fun e st' => match e with | .normal => CW P b Q st' | e => Q e st') st
  | .cond c a b, Q, st => match evO st c with
    | some (.bool t) => (t = true → CW P a Q st) ∧ (t = false → CW P b Q st)
    | _ => False
  | .block id c, Q, st => CW P c (fun e st' => match e with | .exit i => if i = id then Q .normal st' else Q (.exit i) st' | e => Q e st') st
  | .loop c, Q, st => ∃ I : St → Nat → Prop, (∃ n, I st n) ∧ ∀ st n, I st n → CW P c (fun e st' => match e with | .normal => ∃ n', n' < n ∧ I st' n' | e => Q e st') st
  | .exit id, Q, st => Q (.exit id) st
  | .ret, Q, st => Q .ret st

def postC (w0 : World) (G0 : Ghost) (Q : Ex → St → Prop) : Exit → Act → World → Prop
  | .normal, a, w => ∃ st, Q .normal st ∧ Simm w0 G0 st a w
  | .exit id, a, w => ∃ st, Q (.exit id) st ∧ Simm w0 G0 st a w
  | .ret, a, w => ∃ st, Q .ret st ∧ Simm w0 G0 st a w
  | _, _, _ => False

theorem has_least {p : Nat → Prop} (h : ∃ n, p n) : ∃ n, p n ∧ ∀ m, p m → n ≤ m := by
  obtain ⟨n, hn⟩ := h
  induction n using Nat.strongRecOn with
  | _ n ih =>
    by_cases hx : ∃ m, m < n ∧ p m
    · obtain ⟨m, hlt, hm⟩ := hx
      exact ih m hlt hm
    · exact ⟨n, hn, fun m hm => Nat.le_of_not_lt fun hlt => hx ⟨m, hlt, hm⟩⟩

theorem CW_ok {P : Program} [Inv P] {w0 : World} {G0 : Ghost} (hB : Base P w0 G0) : ∀ {c : Code} {sc : SC} {Q : Ex → St → Prop} {st : St} {a : Act} {w : World}, stripC c = some sc → CW P sc Q st → Simm w0 G0 st a w → c.wp P (postC w0 G0 Q) a w
  | .skip, sc, Q, st, a, w, hc, h, hs => by
    simp only [stripC, Option.some.injEq] at hc
    subst hc
    exact wp_skip ⟨st, h, hs⟩
  | .region id ops draw, sc, Q, st, a, w, hc, h, hs => by
    simp only [stripC] at hc
    split at hc
    · cases hc
    · rename_i hBx
      split at hc
      · rename_i l hl
        cases hc
        cases draw with
        | false =>
          simp only [CW] at h
          exact wp_region_list (RW_ok hB (fun st a w h1 h2 => h1.simm h2) ops.toList l st a w hl h hs)
        | true =>
          simp only [CW] at h
          have hB' : Region.lexB .any ops = true := by simpa using hBx
          refine wp_drawn hB Inv.mixed hB' hs (DW_lex ops.toList l st _ hl (fun _ => rfl) h) ?_
          intro F g a w hsf ⟨st', h1, h2, h3, h4, h5⟩
          exact h1.simm ⟨g, SimF.to (F := F) (by rw [h2, h3, h4]; exact hsf) (fun t x hx => by rw [h5]; exact hx)⟩
      · cases hc
  | .seq x y, sc, Q, st, a, w, hc, h, hs => by
    simp only [stripC] at hc
    split at hc
    · rename_i sa sb h1 h2
      cases hc
      simp only [CW] at h
      refine wp_seq (wp_mono (CW_ok hB h1 h hs) ?_)
      intro e a w he
      cases e <;> simp only [postC] at he <;> simp only [Exit.then, postC]
      · obtain ⟨st', h3, h4⟩ := he
        exact CW_ok hB h2 h3 h4
      · exact he
      · exact he
    · cases hc
  | .cond c x y, sc, Q, st, a, w, hc, h, hs => by
    simp only [stripC] at hc
    split at hc
    · rename_i sa sb h1 h2
      cases hc
      simp only [CW] at h
      split at h
      · rename_i t ht
        have hs2 := hs
        obtain ⟨g, hs'⟩ := hs2
        have := evO_ok hs' ht
        simp only [VRep] at this
        exact wp_cond_split this (fun e => CW_ok hB h1 (h.1 e) hs) (fun e => CW_ok hB h2 (h.2 e) hs)
      · exact h.elim
    · cases hc
  | .block id c, sc, Q, st, a, w, hc, h, hs => by
    simp only [stripC] at hc
    split at hc
    · rename_i sa h1
      cases hc
      simp only [CW] at h
      refine wp_block (wp_mono (CW_ok hB h1 h hs) ?_)
      intro e a w he
      cases e <;> simp only [postC] at he <;> simp only [Exit.inBlock, postC]
      · exact he
      · rename_i i
        obtain ⟨st', h3, h4⟩ := he
        split
        · rename_i e; rw [if_pos e] at h3; exact ⟨st', h3, h4⟩
        · rename_i e; rw [if_neg e] at h3; exact ⟨st', h3, h4⟩
      · exact he
    · cases hc
  | .loop c, sc, Q, st, a, w, hc, h, hs => by
    simp only [stripC] at hc
    split at hc
    · rename_i sa h1
      cases hc
      simp only [CW] at h
      obtain ⟨I, ⟨n0, h0⟩, hr⟩ := h
      have dec := Classical.propDecidable
      let J : Act → World → Nat → Prop := fun a w n => ∃ st, I st n ∧ Simm w0 G0 st a w
      let μ : Act → World → Nat := fun a w => if h : ∃ n, J a w n then Classical.choose (has_least h) else 0
      have hμ : ∀ a w n, J a w n → J a w (μ a w) ∧ μ a w ≤ n := by
        intro a w n hn
        have hex : ∃ n, J a w n := ⟨n, hn⟩
        have hd : μ a w = Classical.choose (has_least hex) := dif_pos hex
        have hsp := Classical.choose_spec (has_least hex)
        rw [hd]
        exact ⟨hsp.1, hsp.2 n hn⟩
      refine wp_loop (fun a w => ∃ n, J a w n) μ ⟨n0, st, h0, hs⟩ ?_
      intro a w ⟨n, hn⟩
      obtain ⟨⟨st', h3, h4⟩, _⟩ := hμ a w n hn
      refine wp_mono (CW_ok hB h1 (hr st' _ h3) h4) ?_
      intro e a' w' he
      cases e <;> simp only [postC] at he <;> simp only [Exit.then, postC]
      · obtain ⟨st2, ⟨n', hlt, h5⟩, h6⟩ := he
        exact ⟨⟨n', st2, h5, h6⟩, Nat.lt_of_le_of_lt (hμ a' w' n' ⟨st2, h5, h6⟩).2 hlt⟩
      · exact he
      · exact he
    · cases hc
  | .exit id, sc, Q, st, a, w, hc, h, hs => by
    simp only [stripC, Option.some.injEq] at hc
    subst hc
    exact wp_exit ⟨st, h, hs⟩
  | .ret, sc, Q, st, a, w, hc, h, hs => by
    simp only [stripC, Option.some.injEq] at hc
    subst hc
    exact wp_ret ⟨st, h, hs⟩
  | .rangeFunc .., sc, Q, st, a, w, hc, h, hs => by simp [stripC] at hc
  | .scope .., sc, Q, st, a, w, hc, h, hs => by simp [stripC] at hc
  | .label .., sc, Q, st, a, w, hc, h, hs => by simp [stripC] at hc
  | .goto .., sc, Q, st, a, w, hc, h, hs => by simp [stripC] at hc
  | .refuse .., sc, Q, st, a, w, hc, h, hs => by simp [stripC] at hc

end Go.E
