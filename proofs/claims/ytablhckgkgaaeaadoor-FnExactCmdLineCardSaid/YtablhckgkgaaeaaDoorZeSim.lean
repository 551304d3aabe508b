/- A part of E, an interpreter of Go code on trees, proved sound over the model for every program. No condition beyond what each theorem states. -/
import Derived.Test.YtablhckgkgaaeaaDoorZeT
namespace Go.E
open Go

/-! What the interpreter holds, and how it stands to a frame and a world. -/

inductive V where
  | int (k : IntKind) (n : Int)
  | bool (b : Bool)
  | str (s : ByteArray)
  | nil (sz : Nat)
  | sl (dep : Option Key) (sz : Nat) (rows : List (List T))
  | ref (κ : Key) (off len : Nat)
  | vptr (d : Key) (j : Nat)
  | eptr (κ : Key) (i j : Nat)
  | rptr (dep : Option Key) (row : List T) (j : Nat)
  | fn (f : FuncId) (caps : List V)
  | agg (vs : List V)
  | tup (vs : List V)
  | opt (c : Bool) (x : V)
  | undef

structure Arr where
  sz : Nat
  rows : List (List T)

structure St where
  nt : Nat
  fr : List (Nat × V)
  vs : List (Key × List V)
  as : List (Key × Arr)

def look {α β : Type} [DecidableEq α] (k : α) : List (α × β) → Option β
  | [] => none
  | (a, b) :: l => if k = a then some b else look k l
def put {α β : Type} [DecidableEq α] (k : α) (v : β) : List (α × β) → List (α × β)
  | [] => [(k, v)]
  | (a, b) :: l => if k = a then (a, v) :: l else (a, b) :: put k v l
def del {α β : Type} [DecidableEq α] (k : α) : List (α × β) → List (α × β)
  | [] => []
  | (a, b) :: l => if k = a then del k l else (a, b) :: del k l

theorem look_put {α β : Type} [DecidableEq α] (k : α) (v : β) (x : α) : ∀ l : List (α × β), look x (put k v l) = if x = k then some v else look x l
  | [] => by simp [put, look]
  | (a, b) :: l => by
    by_cases h : k = a
    · subst h
      by_cases hx : x = k
      · simp [put, look, hx]
      · simp [put, look, hx]
    · by_cases hx : x = k
      · subst hx; simp [put, look, h, look_put]
      · simp only [put, h, if_false, look, look_put k v x l, hx]
theorem look_del {α β : Type} [DecidableEq α] (k : α) (x : α) : ∀ l : List (α × β), look x (del k l) = if x = k then none else look x l
  | [] => by simp [del, look]
  | (a, b) :: l => by
    by_cases h : k = a
    · subst h
      by_cases hx : x = k
      · simp [del, look_del, hx]
      · simp [del, look, look_del, hx]
    · by_cases hx : x = k
      · subst hx; simp [del, look, h, look_del]
      · simp only [del, h, if_false, look, look_del k x l, hx]

/-- The ghosts: whose each block is; where a variable lies; where an array lies, and how much room it has. -/
structure Gh where
  G : Ghost
  bv : Key → Nat
  ab : Key → Option Addr × Nat

/-- The blocks that a value of this kind may meet. -/
def okd (G : Ghost) : Option Key → Nat → Prop
  | none, b => Fz G b
  | some κ, b => Fz G b ∨ ∃ p mu, G b = some (.arr κ (some p) mu)

mutual
def VRep (w : World) (g : Gh) (as : List (Key × Arr)) : V → Value → Prop
  | .int k n, v => v = .int k n
  | .bool b, v => v = .bool b
  | .str s, v => v = .string s
  | .nil _, v => ∃ base, v = .slice base 0 0
  | .sl dep sz rows, v => RoT w (okd g.G dep) (.sl .shared sz rows) v
  | .ref κ off len, v => ∃ A base' , look κ as = some A ∧ off + len ≤ A.rows.length ∧ v = .slice base' len ((g.ab κ).2 - off) ∧
      (off = 0 → base' = (g.ab κ).1) ∧ (len ≠ 0 → base' = (g.ab κ).1.map (·.add (off * A.sz)))
  | .vptr d j, v => v = .pointer (some ⟨g.bv d, j, none⟩)
  | .eptr κ i j, v => ∃ A base, look κ as = some A ∧ (g.ab κ).1 = some base ∧ v = .pointer (some ⟨base.block, base.off + i * A.sz + j, none⟩)
  | .rptr dep row j, v => ∃ b o xs, v = .pointer (some ⟨b, o + j, none⟩) ∧ b < w.heap.size ∧ okd g.G dep b ∧ RoL w (okd g.G dep) row xs ∧ ∀ i u, xs[i]? = some u → w.cell? ⟨b, o + i, none⟩ = some u
  | .fn f caps, v => ∃ cs, v = .func (.func f) #[] (List.toArray cs) ∧ VRepL w g as caps cs
  | .agg vs, v => ∃ cs, v = .agg (List.toArray cs) ∧ VRepL w g as vs cs
  | .tup vs, v => ∃ cs, v = .tuple (List.toArray cs) ∧ VRepL w g as vs cs
  | .opt c x, v => (c = true → VRep w g as x v) ∧ (c = false → v = .tuple #[])
  | .undef, _ => True
def VRepL (w : World) (g : Gh) (as : List (Key × Arr)) : List V → List Value → Prop
  | [], xs => xs = []
  | x :: ts, xs => ∃ u us, xs = u :: us ∧ VRep w g as x u ∧ VRepL w g as ts us
end

theorem VRepL.length {w : World} {g : Gh} {as : List (Key × Arr)} : ∀ {ts : List V} {xs : List Value}, VRepL w g as ts xs → xs.length = ts.length
  | [], xs, h => by simp only [VRepL] at h; subst h; rfl
  | t :: ts, xs, h => by
    simp only [VRepL] at h
    obtain ⟨u, us, rfl, _, h2⟩ := h
    simp [VRepL.length h2]

mutual
/-- Own cells: 'κ' the tree, '(b, o)' the cell. -/
def OwT (w : World) (G : Ghost) (κ : Key) (at_ : Option (Nat × Nat)) : T → Value → Prop
  | .int k n, v => v = .int k n
  | .bool b, v => v = .bool b
  | .str s, v => v = .string s
  | .sl .own sz rows, v => ∃ base cap xs, v = .slice base rows.length cap ∧ rows.length ≤ cap ∧ cap ≤ maxLen ∧
      ((rows = [] ∧ cap = 0 ∧ xs = []) ∨ ∃ b cur e, base = some ⟨b, 0, none⟩ ∧ G b = some (.arr κ at_ true) ∧ w.heap[b]? = some (.cells cur e (0, 0)) ∧ cap * sz ≤ cur.size ∧
        cur.toList.take (rows.length * sz) = xs ∧ OwRows w G κ b 0 sz rows xs)
  | .sl .lent sz rows, v => RoT w (Fz G) (.sl .shared sz rows) v
  | .sl .shared sz rows, v => RoT w (Fz G) (.sl .shared sz rows) v
  | .ptr row, v => RoT w (Fz G) (.ptr row) v
  | .fn f caps, v => RoT w (Fz G) (.fn f caps) v
def OwL (w : World) (G : Ghost) (κ : Key) (b o : Nat) : List T → List Value → Prop
  | [], xs => xs = []
  | t :: ts, xs => ∃ u us, xs = u :: us ∧ OwT w G κ (some (b, o)) t u ∧ OwL w G κ b (o + 1) ts us
def OwRows (w : World) (G : Ghost) (κ : Key) (b o sz : Nat) : List (List T) → List Value → Prop
  | [], xs => xs = []
  | r :: rs, xs => ∃ c d, xs = c ++ d ∧ r.length = sz ∧ OwL w G κ b o r c ∧ OwRows w G κ b (o + sz) sz rs d
end

theorem OwL.length {w : World} {G : Ghost} {κ : Key} {b : Nat} : ∀ {ts : List T} {o : Nat} {xs : List Value}, OwL w G κ b o ts xs → xs.length = ts.length
  | [], _, xs, h => by simp only [OwL] at h; subst h; rfl
  | t :: ts, _, xs, h => by
    simp only [OwL] at h
    obtain ⟨u, us, rfl, _, h2⟩ := h
    simp [OwL.length h2]
theorem OwRows.length {w : World} {G : Ghost} {κ : Key} {b sz : Nat} : ∀ {rs : List (List T)} {o : Nat} {xs : List Value}, OwRows w G κ b o sz rs xs → xs.length = rs.length * sz
  | [], _, xs, h => by simp only [OwRows] at h; subst h; simp
  | r :: rs, _, xs, h => by
    simp only [OwRows] at h
    obtain ⟨a, b, rfl, hl, h1, h2⟩ := h
    simp [OwRows.length h2, OwL.length h1, hl, Nat.add_mul, Nat.add_comm]

/-- Array κ: what its real slice is, and that it is ours. -/
def ArrRep (w : World) (g : Gh) (κ : Key) (A : Arr) : Prop :=
  ∃ base cap, g.ab κ = (base, cap) ∧ OwT w g.G κ none (.sl .own A.sz A.rows) (.slice base A.rows.length cap)

/-- What holds of the rest of the world: what nobody may write is as it was. -/
structure Fr (w0 : World) (G0 : Ghost) (w : World) (G : Ghost) : Prop where
  os : w.os = w0.os
  tape : w.tape = w0.tape
  output : w.output = w0.output
  size : w0.heap.size ≤ w.heap.size
  block : ∀ b, b < w0.heap.size → Still G0 b → w.heap[b]? = w0.heap[b]? ∧ (Fz G0 b → Fz G b) ∧ (G0 b = some .other → G b = some .other)

theorem Fr.refl (w : World) (G : Ghost) : Fr w G w G := ⟨rfl, rfl, rfl, Nat.le_refl _, fun _ _ _ => ⟨rfl, id, id⟩⟩
theorem Fr.trans {w0 w1 w2 : World} {G0 G1 G2 : Ghost} (h : Fr w0 G0 w1 G1) (k : Fr w1 G1 w2 G2) : Fr w0 G0 w2 G2 :=
  ⟨k.os.trans h.os, k.tape.trans h.tape, k.output.trans h.output, Nat.le_trans h.size k.size, fun b hb hf => by
    obtain ⟨h1, h2, h3⟩ := h.block b hb hf
    obtain ⟨k1, k2, k3⟩ := k.block b (Nat.lt_of_lt_of_le hb h.size) (hf.imp h2 h3)
    exact ⟨k1.trans h1, fun e => k2 (h2 e), fun e => k3 (h3 e)⟩⟩

structure Sim (w0 : World) (G0 : Ghost) (st : St) (g : Gh) (a : Act) (w : World) : Prop where
  fr : Fr w0 G0 w g.G
  defers : a.defers = []
  nt : a.tmps.size = st.nt
  frame : ∀ t x, look t st.fr = some x → VRep w g st.as x (a.tmps.getD t undef)
  vars : ∀ d cells, look d st.vs = some cells → g.G (g.bv d) = some (.var d) ∧ ∃ cur e, w.heap[g.bv d]? = some (.cells cur e (0, 0)) ∧ VRepL w g st.as cells cur.toList
  arrs : ∀ κ A, look κ st.as = some A → ArrRep w g κ A
  /-- labels are of blocks that are there -/
  lab : ∀ b, w.heap.size ≤ b → g.G b = none

def Simm (w0 : World) (G0 : Ghost) (st : St) (a : Act) (w : World) : Prop := ∃ g, Sim w0 G0 st g a w

end Go.E
