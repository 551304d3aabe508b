/- A part of E, an interpreter of Go code on trees, proved sound over the model for every program. No condition beyond what each theorem states. -/
import Derived.Test.YtablhckgkgaaeaaDoorZeRun
set_option linter.unusedSimpArgs false
set_option linter.unusedVariables false
namespace Go.E
open Go

/-! ### Blocks, loops -/

def blkQ (id : Nat) (K : St → Prop) (Q : Ex → St → Prop) : Ex → St → Prop
  | .normal, st => K st
  | .exit i, st => if i = id then K st else Q (.exit i) st
  | .ret, st => Q .ret st

theorem CW_to {P : Program} [Inv P] {c : SC} {Q Q' : Ex → St → Prop} {st : St} (h : CW P c Q st) (e : ∀ e st', Q e st' = Q' e st') : CW P c Q' st := by
  have : Q = Q' := funext fun x => funext fun y => e x y
  subst this
  exact h
theorem CW_block {P : Program} [Inv P] {id : Nat} {c : SC} {Q : Ex → St → Prop} {st : St} (h : CW P c (blkQ id (Q .normal) Q) st) : CW P (.block id c) Q st := by
  unfold CW
  exact CW_to h fun e st' => by cases e <;> rfl
theorem CW_block_seq {P : Program} [Inv P] {id : Nat} {c b : SC} {Q : Ex → St → Prop} {st : St} (h : CW P c (blkQ id (CW P b Q) Q) st) : CW P (.seq (.block id c) b) Q st := by
  refine CW_seq (CW_block ?_)
  exact CW_to h fun e st' => by cases e <;> rfl
theorem blk_exit {id : Nat} {K : St → Prop} {Q : Ex → St → Prop} {st : St} (h : K st) : blkQ id K Q (.exit id) st := by
  show (if id = id then K st else Q (.exit id) st)
  rw [if_pos rfl]
  exact h
theorem blk_other {id i : Nat} {K : St → Prop} {Q : Ex → St → Prop} {st : St} (hi : i ≠ id) (h : Q (.exit i) st) : blkQ id K Q (.exit i) st := by
  show (if i = id then K st else Q (.exit i) st)
  rw [if_neg hi]
  exact h
theorem blk_ret {id : Nat} {K : St → Prop} {Q : Ex → St → Prop} {st : St} (h : Q .ret st) : blkQ id K Q .ret st := h
theorem blk_normal {id : Nat} {K : St → Prop} {Q : Ex → St → Prop} {st : St} (h : K st) : blkQ id K Q .normal st := h

def lpQ {α : Type} (S : α → St) (m : α → Nat) (I : α → Prop) (x : α) (Q : Ex → St → Prop) : Ex → St → Prop
  | .normal, st => ∃ x', st = S x' ∧ I x' ∧ m x' < m x
  | .exit i, st => Q (.exit i) st
  | .ret, st => Q .ret st

theorem CW_loop {P : Program} [Inv P] {α : Type} {c : SC} {Q : Ex → St → Prop} {st : St} (S : α → St) (m : α → Nat) (I : α → Prop) (x0 : α) (h0 : st = S x0) (hi : I x0)
    (hr : ∀ x, I x → CW P c (lpQ S m I x Q) (S x)) : CW P (.loop c) Q st := by
  refine ⟨fun st n => ∃ x, st = S x ∧ I x ∧ n = m x, ⟨m x0, x0, h0, hi, rfl⟩, ?_⟩
  intro st n ⟨x, e1, hx, e2⟩
  subst e1; subst e2
  refine CW_to (hr x hx) fun e st' => ?_
  cases e
  · apply propext
    constructor
    · rintro ⟨x', h2, h3, h1⟩; exact ⟨_, h1, x', h2, h3, rfl⟩
    · rintro ⟨n', h1, x', h2, h3, rfl⟩; exact ⟨x', h2, h3, h1⟩
  · rfl
  · rfl
theorem CW_loop_seq {P : Program} [Inv P] {α : Type} {c b : SC} {Q : Ex → St → Prop} {st : St} (S : α → St) (m : α → Nat) (I : α → Prop) (x0 : α) (h0 : st = S x0) (hi : I x0)
    (hr : ∀ x, I x → CW P c (lpQ S m I x Q) (S x)) : CW P (.seq (.loop c) b) Q st := by
  refine CW_seq (CW_loop S m I x0 h0 hi fun x hx => ?_)
  exact CW_to (hr x hx) fun e st' => by cases e <;> rfl
theorem lp_next {α : Type} {S : α → St} {m : α → Nat} {I : α → Prop} {x : α} {Q : Ex → St → Prop} {st : St} (x' : α) (h : st = S x') (hi : I x') (hm : m x' < m x) : lpQ S m I x Q .normal st := ⟨x', h, hi, hm⟩
theorem lp_exit {α : Type} {S : α → St} {m : α → Nat} {I : α → Prop} {x : α} {Q : Ex → St → Prop} {st : St} {i : Nat} (h : Q (.exit i) st) : lpQ S m I x Q (.exit i) st := h
theorem lp_ret {α : Type} {S : α → St} {m : α → Nat} {I : α → Prop} {x : α} {Q : Ex → St → Prop} {st : St} (h : Q .ret st) : lpQ S m I x Q .ret st := h

/-- One operation, its value under another name. -/
theorem run_as {P : Program} [Inv P] {d : Bool} {K : St → Prop} {l : List SOp} {st : St} (fz : List Tmp) {t : Tmp} {x : V} {ps : List Prop} (x' : V) (h : runC P d fz 1 l st = some (st.put (some t) x, ps)) (hp : allP ps) (hx : x = x')
    (hK : XW P d (l.drop 1) (st.put (some t) x') K) : XW P d l st K := by
  subst hx
  exact runC_XW h hp hK

/-- A value from then on a variable. -/
theorem gen_b {P : Program} [Inv P] {d : Bool} {K : St → Prop} {l : List SOp} {st : St} {t : Option Tmp} {e : Bool} (h : ∀ b, b = e → XW P d l (st.put t (.bool b)) K) : XW P d l (st.put t (.bool e)) K := h e rfl
theorem gen_o {P : Program} [Inv P] {d : Bool} {K : St → Prop} {l : List SOp} {st : St} {t : Option Tmp} {c e : Bool} (h : ∀ b, b = e → XW P d l (st.put t (.opt c (.bool b))) K) : XW P d l (st.put t (.opt c (.bool e))) K := h e rfl

theorem getD_map {α : Type} {f : α → List T} {xs : List α} {n : Nat} (d : α) (h : n < xs.length) : (xs.map f).getD n [] = f (xs.getD n d) := by
  simp [List.getD_eq_getElem?_getD, h]

/-! Small proofs. -/

theorem ap_nil : allP [] := trivial
theorem ap_cons {p : Prop} {ps : List Prop} (h : p) (hs : allP ps) : allP (p :: ps) := allP_cons.2 ⟨h, hs⟩
theorem and_i {a b : Bool} (h1 : a = true) (h2 : b = true) : (a && b) = true := by rw [h1, h2]; rfl
theorem and_l {a b : Bool} (h : (a && b) = true) : a = true := by cases a <;> simp_all
theorem and_r {a b : Bool} (h : (a && b) = true) : b = true := by cases a <;> simp_all
theorem eq_i {a b : Bool} (h : a = b) : (a == b) = true := by rw [h]; cases b <;> rfl
theorem eq_e {a b : Bool} (h : (a == b) = true) : a = b := by cases a <;> cases b <;> simp_all

theorem getD_le {xs : List Int} {n : Nat} {m : Int} (h : ∀ x ∈ xs, x ≤ m) (h0 : 0 ≤ m) : xs.getD n 0 ≤ m := by
  rw [List.getD_eq_getElem?_getD]
  cases hx : xs[n]? with
  | none => exact h0
  | some x => exact h x (List.mem_of_getElem? hx)
theorem le_getD {xs : List Int} {n : Nat} {m : Int} (h : ∀ x ∈ xs, m ≤ x) (h0 : m ≤ 0) : m ≤ xs.getD n 0 := by
  rw [List.getD_eq_getElem?_getD]
  cases hx : xs[n]? with
  | none => exact h0
  | some x => exact h x (List.mem_of_getElem? hx)

/-! Lengths, as the machine bounds them. -/

def lenT : T → Prop
  | .sl _ _ rows => rows.length ≤ 9223372036854775807
  | _ => True
def lenL : List T → List Prop
  | [] => []
  | .sl _ _ rows :: ts => (rows.length ≤ 9223372036854775807) :: lenL ts
  | _ :: ts => lenL ts
def lensOk : List TV → List Prop
  | [] => []
  | .one t :: ts => lenL [t] ++ lensOk ts
  | .agg l :: ts => lenL l ++ lensOk ts

theorem lenL_ok {w : World} {ok : Nat → Prop} : ∀ {ts : List T} {vs : List Value}, RoL w ok ts vs → allP (lenL ts)
  | [], _, _ => trivial
  | t :: ts, vs, h => by
    simp only [RoL] at h
    obtain ⟨u, us, rfl, h1, h2⟩ := h
    have := lenL_ok h2
    cases t with
    | sl g sz rows =>
      simp only [lenL, allP_cons]
      simp only [RoT] at h1
      obtain ⟨_, cap, _, _, h3, h4, _⟩ := h1
      simp only [maxLen] at h4
      exact ⟨by omega, this⟩
    | _ => exact this
theorem lensOk_ok {w : World} {ok : Nat → Prop} : ∀ {ts : List TV} {vs : List Value}, RoArgs w ok ts vs → allP (lensOk ts)
  | [], _, _ => trivial
  | t :: ts, vs, h => by
    simp only [RoArgs] at h
    obtain ⟨u, us, rfl, h1, h2⟩ := h
    have := lensOk_ok h2
    cases t with
    | one t =>
      simp only [lensOk, allP_append]
      exact ⟨lenL_ok (vs := [u]) ⟨u, [], rfl, h1, rfl⟩, this⟩
    | agg l =>
      simp only [lensOk, allP_append]
      obtain ⟨cs, _, hc⟩ := h1
      exact ⟨lenL_ok hc, this⟩

theorem SemR.of_code' {P : Program} [Inv P] {f : FuncId} {fn : Func} {sc : SC} {ts rs : List TV} (hf : P.funcs[f]? = some fn) (hsc : fn.body.bind stripC = some sc) (hn : ts.length ≤ fn.ntmps)
    (h : allP (lensOk ts) → CW P sc (endW P fn.results.toList rs) (initS fn.ntmps ts)) : SemR P f ts rs :=
  fun w G vs hI hG hlab hargs => SemR.of_code hf hsc hn (h (lensOk_ok hargs)) w G vs hI hG hlab hargs

theorem strOf_size (ns : List Int) : (strOf ns).size = ns.length := by
  have key : ∀ (ns : List Int) (s : ByteArray), (ns.foldl (fun r n => r.push (UInt8.ofNat n.toNat)) s).size = s.size + ns.length := by
    intro ns
    induction ns with
    | nil => intro s; rfl
    | cons n ns ih => intro s; simp only [List.foldl_cons, ih, ByteArray.size_push, List.length_cons]; omega
  unfold strOf
  rw [key]
  simp

theorem wrap64 (x : Int) : IntKind.wrap .i64 x = (x + 9223372036854775808) % 18446744073709551616 - 9223372036854775808 := by
  unfold IntKind.wrap
  simp [IntKind.bits, IntKind.signed]
  split <;> omega
theorem wrap64_id {x : Int} (h1 : -9223372036854775808 ≤ x) (h2 : x ≤ 9223372036854775807) : IntKind.wrap .i64 x = x := by
  rw [wrap64]; omega

def encI (k : IntKind) (n : Int) : List T := [.int k n]
def encS (s : ByteArray) : List T := [.str s]
theorem share_encI (k : IntKind) (xs : List Int) : T.shareR (xs.map (encI k)) = xs.map (encI k) := by
  induction xs with
  | nil => rfl
  | cons x xs ih => simp only [List.map_cons, T.shareR, ih]; rfl
theorem share_encS (xs : List ByteArray) : T.shareR (xs.map encS) = xs.map encS := by
  induction xs with
  | nil => rfl
  | cons x xs ih => simp only [List.map_cons, T.shareR, ih]; rfl

end Go.E
