/- A part of E, an interpreter of Go code on trees, proved sound over the model for every program. No condition beyond what each theorem states. -/
import Derived.Test.YtablhckgkgaaeaaDoorZeStep
namespace Go.E
open Go

/-! ### Operands, and operations that only compute -/

def St.put (st : St) (d : Option Tmp) (x : V) : St :=
  match d with
  | some d => { st with fr := (d, x) :: st.fr }
  | none => st

def dstOk (nt : Nat) (d : Option Tmp) : Bool :=
  match d with
  | some d => decide (d < nt)
  | none => true

theorem Sim.put {w0 : World} {G0 : Ghost} {st : St} {g : Gh} {a : Act} {w : World} {x : V} {v : Value} (h : Sim w0 G0 st g a w) {d : Option Tmp} (hd : dstOk st.nt d = true)
    (hx : VRep w g st.as x v) : Sim w0 G0 (st.put d x) g (a.put d v) w := by
  cases d with
  | none => exact h
  | some d =>
    have hd' : d < a.tmps.size := by rw [h.nt]; simpa [dstOk] using hd
    refine { fr := h.fr, defers := h.defers, nt := by simp [Act.put, St.put, h.nt], frame := ?_, vars := h.vars, arrs := h.arrs, lab := h.lab }
    intro t y hy
    simp only [St.put, look] at hy
    simp only [Act.put]
    by_cases ht : t = d
    · subst ht
      simp only [if_true] at hy
      cases hy
      have e : (a.tmps.setIfInBounds t v).getD t undef = v := by simp [Array.getD_eq_getD_getElem?, hd']
      show VRep w g st.as x ((a.tmps.setIfInBounds t v).getD t undef)
      rw [e]; exact hx
    · simp only [ht, if_false] at hy
      have := h.frame t y hy
      have hne : d ≠ t := fun e => ht e.symm
      have e : (a.tmps.setIfInBounds d v).getD t undef = a.tmps.getD t undef := by simp [Array.getD_eq_getD_getElem?, Array.getElem?_setIfInBounds, hne]
      show VRep w g st.as y ((a.tmps.setIfInBounds d v).getD t undef)
      rw [e]; exact this

/-- An operand's value, where it needs no type. -/
def evO (st : St) : Operand → Option V
  | .tmp t => look t st.fr
  | .const (.int k n) => some (.int k n)
  | .const (.bool b) => some (.bool b)
  | .const (.string s) => some (.str s)
  | .func f => some (.fn f [])
  | _ => none

theorem evO_ok {w0 : World} {G0 : Ghost} {st : St} {g : Gh} {a : Act} {w : World} (h : Sim w0 G0 st g a w) {o : Operand} {x : V} (hx : evO st o = some x) : VRep w g st.as x (a.eval o) := by
  cases o with
  | tmp t => exact h.frame t x hx
  | const v => cases v <;> simp only [evO, Option.some.injEq, reduceCtorEq] at hx <;> subst hx <;> simp [VRep, Act.eval]
  | global gl => simp [evO] at hx
  | func f =>
    simp only [evO, Option.some.injEq] at hx
    subst hx
    exact ⟨[], rfl, rfl⟩

/-- How many cells a slice type's elements have. -/
def slSz (P : Program) (t : TypeId) : Option Nat :=
  match P.underlying t with
  | some (.slice e) => (P.info? e).map (·.size)
  | _ => none

/-- .. where a type is known: nil, too. -/
def evT (P : Program) (st : St) (t : TypeId) : Operand → Option V
  | .const (.slice none 0 0) => (slSz P t).map .nil
  | o => evO st o

theorem evT_ok {P : Program} {w0 : World} {G0 : Ghost} {st : St} {g : Gh} {a : Act} {w : World} (h : Sim w0 G0 st g a w) {t : TypeId} {o : Operand} {x : V} (hx : evT P st t o = some x) :
    VRep w g st.as x (a.eval o) := by
  unfold evT at hx
  split at hx
  · cases hs : slSz P t with
    | none => rw [hs] at hx; cases hx
    | some n => rw [hs] at hx; cases hx; exact ⟨none, rfl⟩
  · exact evO_ok h hx

/-- What an operation does, as the interpreter sees it: it is carried out, and the state fits again. -/
def OpOk (P : Program) (o : Oper) (st st' : St) : Prop :=
  ∀ (w0 : World) (G0 : Ghost) (a : Act) (w : World), Simm w0 G0 st a w → ∃ v w',
    ((execOp a.eval o).run P w = .ok (.value v) w' ∨ (execOp a.eval o).run P w = .ok .skip w' ∧ v = undef) ∧ Simm w0 G0 st' (a.put o.dst v) w'

/-- An operation that leaves the world alone and tells a value. -/
def PureV (P : Program) (o : Oper) (st : St) (x : V) : Prop :=
  ∀ (w0 : World) (G0 : Ghost) (g : Gh) (a : Act) (w : World), Sim w0 G0 st g a w → ∃ v, (execOp a.eval o).run P w = .ok (.value v) w ∧ VRep w g st.as x v

theorem OpOk.pure {P : Program} {o : Oper} {st : St} {x : V} (hd : dstOk st.nt o.dst = true) (h : PureV P o st x) :
    OpOk P o st (st.put o.dst x) := by
  intro w0 G0 a w ⟨g, hs⟩
  obtain ⟨v, hv, hx⟩ := h w0 G0 g a w hs
  exact ⟨v, w, .inl hv, g, hs.put hd hx⟩

/-! Whole numbers, bools, strings -/

def cmpI (op : BinOp) (x y : Int) : Option Bool :=
  match op with
  | .eql => some (x == y)
  | .neq => some (x != y)
  | .lss => some (decide (x < y))
  | .leq => some (decide (x ≤ y))
  | .gtr => some (decide (x > y))
  | .geq => some (decide (x ≥ y))
  | _ => none

def intI (op : BinOp) (k : IntKind) (x y : Int) : Option Int :=
  match op with
  | .add => some (k.wrap (x + y))
  | .sub => some (k.wrap (x - y))
  | .mul => some (k.wrap (x * y))
  | .quo => if y = 0 then none else some (k.wrap (x.tdiv y))
  | .rem => if y = 0 then none else some (x.tmod y)
  | .and => some (k.wrap (BitVec.ofInt k.bits x &&& BitVec.ofInt k.bits y).toNat)
  | .or => some (k.wrap (BitVec.ofInt k.bits x ||| BitVec.ofInt k.bits y).toNat)
  | .xor => some (k.wrap (BitVec.ofInt k.bits x ^^^ BitVec.ofInt k.bits y).toNat)
  | .andNot => some (k.wrap (BitVec.ofInt k.bits x &&& ~~~ BitVec.ofInt k.bits y).toNat)
  | _ => none

def shI (op : BinOp) (k : IntKind) (x y : Int) : Option Int :=
  match op with
  | .shl => if y < 0 then none else some (k.wrap (x * 2 ^ (min y.toNat k.bits)))
  | .shr => if y < 0 then none else some (x.fdiv (2 ^ (min y.toNat k.bits)))
  | _ => none

def cmpS (op : BinOp) (x y : ByteArray) : Option Bool :=
  match op with
  | .eql => some (x.toList == y.toList)
  | .neq => some (!(x.toList == y.toList))
  | .lss => some (Op.bytesLess x.toList y.toList)
  | .leq => some (Op.bytesLess x.toList y.toList || x.toList == y.toList)
  | .gtr => some (!(Op.bytesLess x.toList y.toList || x.toList == y.toList))
  | .geq => some (!(Op.bytesLess x.toList y.toList))
  | _ => none

def binV (op : BinOp) (x y : V) : Option V :=
  match x, y with
  | .int k a, .int k' b =>
    match shI op k a b with
    | some n => some (.int k n)
    | none =>
      if k = k' then
        match cmpI op a b with
        | some c => some (.bool c)
        | none => (intI op k a b).map (.int k)
      else none
  | .str a, .str b =>
    match op with
    | .add => if a.size + b.size ≤ 9223372036854775807 then some (.str (a ++ b)) else none
    | op => (cmpS op a b).map .bool
  | _, _ => none

theorem binV_ok {P : Program} {op : BinOp} {t : TypeId} {x y z : V} (hz : binV op x y = some z) (w : World) {g : Gh} {as : List (Key × Arr)} {u v : Value} (hx : VRep w g as x u) (hy : VRep w g as y v) :
    ∃ r, (binOp op t u v).run P w = .ok r w ∧ VRep w g as z r := by
  cases x with
  | int k a =>
    cases y with
    | int k' b =>
      simp only [VRep] at hx hy
      subst hx; subst hy
      simp only [binV] at hz
      cases op <;> simp only [shI, cmpI, intI] at hz <;>
        first
        | (split at hz
           · rename_i hk; subst hk
             simp only [Option.map_some, Option.some.injEq] at hz
             subst hz
             exact ⟨_, by simp only [binOp, ne_eq, not_true_eq_false, if_false]; rfl, by simp only [VRep]⟩
           · cases hz)
        | skip
      case quo =>
        split at hz
        · rename_i hk; subst hk
          by_cases h0 : b = 0
          · simp [h0] at hz
          · simp only [h0, if_false, Option.map_some, Option.some.injEq] at hz
            subst hz
            exact ⟨_, by simp [binOp, Op.intDiv, h0]; rfl, by simp only [VRep]⟩
        · cases hz
      case rem =>
        split at hz
        · rename_i hk; subst hk
          by_cases h0 : b = 0
          · simp [h0] at hz
          · simp only [h0, if_false, Option.map_some, Option.some.injEq] at hz
            subst hz
            exact ⟨_, by simp [binOp, Op.intDiv, h0]; rfl, by simp only [VRep]⟩
        · cases hz
      case shl =>
        by_cases h0 : b < 0
        · simp only [h0, if_true] at hz
          split at hz <;> simp at hz
        · simp only [h0, if_false, Option.some.injEq] at hz
          subst hz
          exact ⟨_, by simp [binOp, Op.shift, h0]; rfl, by simp only [VRep]⟩
      case shr =>
        by_cases h0 : b < 0
        · simp only [h0, if_true] at hz
          split at hz <;> simp at hz
        · simp only [h0, if_false, Option.some.injEq] at hz
          subst hz
          exact ⟨_, by simp [binOp, Op.shift, h0]; rfl, by simp only [VRep]⟩
    | _ => simp [binV] at hz
  | str a =>
    cases y with
    | str b =>
      simp only [VRep] at hx hy
      subst hx; subst hy
      simp only [binV] at hz
      cases op <;> simp only [cmpS, Option.map_some, Option.map_none, Option.some.injEq, reduceCtorEq] at hz <;>
        first
        | (subst hz; exact ⟨_, by simp only [binOp, Op.stringOp]; rfl, by simp only [VRep]⟩)
        | skip
      case add =>
        split at hz
        · rename_i hl
          cases hz
          have hn : ¬ (9223372036854775807 : Int) < ((a.size + b.size : Nat) : Int) := by omega
          exact ⟨_, by simp only [binOp, Op.stringOp]; rw [if_neg (by simpa [IntKind.max, IntKind.signed, IntKind.bits] using hn)]; rfl, by simp only [VRep]⟩
        · cases hz
    | _ => simp [binV] at hz
  | _ => simp [binV] at hz

end Go.E
