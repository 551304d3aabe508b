/- A part of E, an interpreter of Go code on trees, proved sound over the model for every program. No condition beyond what each theorem states. -/
import Derived.WalkKit
namespace Go.E
open Go

/-! Pure data, as trees; what they stand for in memory. -/

inductive Tag where
  | own | lent | shared
  deriving DecidableEq

inductive T where
  | int (k : IntKind) (n : Int)
  | bool (b : Bool)
  | str (s : ByteArray)
  | sl (g : Tag) (sz : Nat) (rows : List (List T))
  | ptr (row : List T)
  | fn (f : FuncId) (caps : List T)

abbrev Key := List Nat

inductive Lab where
  | var (d : Key)
  | arr (κ : Key) (par : Option (Nat × Nat)) (mu : Bool)
  | other

abbrev Ghost := Nat → Option Lab

/-- A block that nobody writes. -/
def Fz (G : Ghost) (b : Nat) : Prop :=
  match G b with
  | none => True
  | some (.arr _ _ mu) => mu = false
  | some (.var _) => False
  | some .other => False

/-- .. or of which nothing is known, and which nobody writes, either. -/
def Still (G : Ghost) (b : Nat) : Prop := Fz G b ∨ G b = some .other

mutual
/-- Read only: 'ok' says which blocks may be met. -/
def RoT (w : World) (ok : Nat → Prop) : T → Value → Prop
  | .int k n, v => v = .int k n
  | .bool b, v => v = .bool b
  | .str s, v => v = .string s
  | .sl _ sz rows, v => ∃ base cap xs, v = .slice base rows.length cap ∧ rows.length ≤ cap ∧ cap ≤ maxLen ∧ RoRows w ok sz rows xs ∧
      (rows ≠ [] → ∃ b o, base = some ⟨b, o, none⟩ ∧ b < w.heap.size ∧ ok b ∧ ∀ j u, xs[j]? = some u → w.cell? ⟨b, o + j, none⟩ = some u)
  | .ptr row, v => ∃ b o xs, v = .pointer (some ⟨b, o, none⟩) ∧ b < w.heap.size ∧ ok b ∧ RoL w ok row xs ∧ ∀ j u, xs[j]? = some u → w.cell? ⟨b, o + j, none⟩ = some u
  | .fn f caps, v => ∃ cs, v = .func (.func f) #[] (List.toArray cs) ∧ RoL w ok caps cs
def RoL (w : World) (ok : Nat → Prop) : List T → List Value → Prop
  | [], xs => xs = []
  | t :: ts, xs => ∃ u us, xs = u :: us ∧ RoT w ok t u ∧ RoL w ok ts us
def RoRows (w : World) (ok : Nat → Prop) (sz : Nat) : List (List T) → List Value → Prop
  | [], xs => xs = []
  | r :: rs, xs => ∃ a b, xs = a ++ b ∧ r.length = sz ∧ RoL w ok r a ∧ RoRows w ok sz rs b
end

theorem RoL.length {w : World} {ok : Nat → Prop} : ∀ {ts : List T} {xs : List Value}, RoL w ok ts xs → xs.length = ts.length
  | [], xs, h => by simp only [RoL] at h; subst h; rfl
  | t :: ts, xs, h => by
    simp only [RoL] at h
    obtain ⟨u, us, rfl, _, h2⟩ := h
    simp [RoL.length h2]

theorem RoRows.length {w : World} {ok : Nat → Prop} {sz : Nat} : ∀ {rs : List (List T)} {xs : List Value}, RoRows w ok sz rs xs → xs.length = rs.length * sz
  | [], xs, h => by simp only [RoRows] at h; subst h; simp
  | r :: rs, xs, h => by
    simp only [RoRows] at h
    obtain ⟨a, b, rfl, hl, h1, h2⟩ := h
    simp [RoRows.length h2, RoL.length h1, hl, Nat.add_mul, Nat.add_comm]

mutual
theorem RoT.mono {w w' : World} {ok ok' : Nat → Prop} (hs : w.heap.size ≤ w'.heap.size) (h : ∀ b, b < w.heap.size → ok b → ok' b ∧ w'.heap[b]? = w.heap[b]?) :
    ∀ {t : T} {v : Value}, RoT w ok t v → RoT w' ok' t v
  | .int k n, v, hr => by simpa only [RoT] using hr
  | .bool b, v, hr => by simpa only [RoT] using hr
  | .str s, v, hr => by simpa only [RoT] using hr
  | .sl g sz rows, v, hr => by
    simp only [RoT] at hr ⊢
    obtain ⟨base, cap, xs, e, hc, hm, hrow, hb⟩ := hr
    refine ⟨base, cap, xs, e, hc, hm, RoRows.mono hs h hrow, fun hne => ?_⟩
    obtain ⟨b, o, e1, hlt, hok, hcell⟩ := hb hne
    have := h b hlt hok
    exact ⟨b, o, e1, Nat.lt_of_lt_of_le hlt hs, this.1, fun j u hj => (World.cell?_of_block (a := ⟨b, o + j, none⟩) this.2).trans (hcell j u hj)⟩
  | .ptr row, v, hr => by
    simp only [RoT] at hr ⊢
    obtain ⟨b, o, xs, e, hlt, hok, hrow, hcell⟩ := hr
    have := h b hlt hok
    exact ⟨b, o, xs, e, Nat.lt_of_lt_of_le hlt hs, this.1, RoL.mono hs h hrow, fun j u hj => (World.cell?_of_block (a := ⟨b, o + j, none⟩) this.2).trans (hcell j u hj)⟩
  | .fn f caps, v, hr => by
    simp only [RoT] at hr ⊢
    obtain ⟨cs, e, hc⟩ := hr
    exact ⟨cs, e, RoL.mono hs h hc⟩
theorem RoL.mono {w w' : World} {ok ok' : Nat → Prop} (hs : w.heap.size ≤ w'.heap.size) (h : ∀ b, b < w.heap.size → ok b → ok' b ∧ w'.heap[b]? = w.heap[b]?) :
    ∀ {ts : List T} {xs : List Value}, RoL w ok ts xs → RoL w' ok' ts xs
  | [], xs, hr => by simpa only [RoL] using hr
  | t :: ts, xs, hr => by
    simp only [RoL] at hr ⊢
    obtain ⟨u, us, e, h1, h2⟩ := hr
    exact ⟨u, us, e, RoT.mono hs h h1, RoL.mono hs h h2⟩
theorem RoRows.mono {w w' : World} {ok ok' : Nat → Prop} {sz : Nat} (hs : w.heap.size ≤ w'.heap.size) (h : ∀ b, b < w.heap.size → ok b → ok' b ∧ w'.heap[b]? = w.heap[b]?) :
    ∀ {rs : List (List T)} {xs : List Value}, RoRows w ok sz rs xs → RoRows w' ok' sz rs xs
  | [], xs, hr => by simpa only [RoRows] using hr
  | r :: rs, xs, hr => by
    simp only [RoRows] at hr ⊢
    obtain ⟨a, b, e, hl, h1, h2⟩ := hr
    exact ⟨a, b, e, hl, RoL.mono hs h h1, RoRows.mono hs h h2⟩
end

mutual
/-- Tags make no difference to what is only read. -/
def T.share : T → T
  | .sl _ sz rows => .sl .shared sz (T.shareR rows)
  | .ptr row => .ptr (T.shareL row)
  | .fn f caps => .fn f (T.shareL caps)
  | t => t
def T.shareL : List T → List T
  | [] => []
  | t :: ts => t.share :: T.shareL ts
def T.shareR : List (List T) → List (List T)
  | [] => []
  | r :: rs => T.shareL r :: T.shareR rs
end

theorem T.shareL_map (l : List T) : T.shareL l = l.map T.share := by
  induction l with
  | nil => rfl
  | cons t ts ih => simp [T.shareL, ih]
theorem T.shareR_map (l : List (List T)) : T.shareR l = l.map (List.map T.share) := by
  induction l with
  | nil => rfl
  | cons t ts ih => simp [T.shareR, ih, T.shareL_map]

mutual
theorem RoT.share {w : World} {ok : Nat → Prop} : ∀ {t : T} {v : Value}, RoT w ok t v → RoT w ok t.share v
  | .int k n, v, hr => by simpa only [T.share] using hr
  | .bool b, v, hr => by simpa only [T.share] using hr
  | .str s, v, hr => by simpa only [T.share] using hr
  | .sl g sz rows, v, hr => by
    simp only [T.share, RoT, T.shareR_map, List.length_map, ne_eq, List.map_eq_nil_iff] at hr ⊢
    obtain ⟨base, cap, xs, e, hc, hm, hrow, hb⟩ := hr
    have := RoRows.share hrow
    rw [T.shareR_map] at this
    exact ⟨base, cap, xs, e, hc, hm, this, hb⟩
  | .ptr row, v, hr => by
    simp only [T.share, RoT] at hr ⊢
    obtain ⟨b, o, xs, e, hlt, hok, hrow, hcell⟩ := hr
    exact ⟨b, o, xs, e, hlt, hok, RoL.share hrow, hcell⟩
  | .fn f caps, v, hr => by
    simp only [T.share, RoT] at hr ⊢
    obtain ⟨cs, e, hc⟩ := hr
    exact ⟨cs, e, RoL.share hc⟩
theorem RoL.share {w : World} {ok : Nat → Prop} : ∀ {ts : List T} {xs : List Value}, RoL w ok ts xs → RoL w ok (T.shareL ts) xs
  | [], xs, hr => by simpa only [T.shareL] using hr
  | t :: ts, xs, hr => by
    simp only [RoL, T.shareL] at hr ⊢
    obtain ⟨u, us, e, h1, h2⟩ := hr
    exact ⟨u, us, e, RoT.share h1, RoL.share h2⟩
theorem RoRows.share {w : World} {ok : Nat → Prop} {sz : Nat} : ∀ {rs : List (List T)} {xs : List Value}, RoRows w ok sz rs xs → RoRows w ok sz (T.shareR rs) xs
  | [], xs, hr => by simpa only [T.shareR] using hr
  | r :: rs, xs, hr => by
    simp only [RoRows, T.shareR] at hr ⊢
    obtain ⟨a, b, e, hl, h1, h2⟩ := hr
    refine ⟨a, b, e, ?_, RoL.share h1, RoRows.share h2⟩
    rw [T.shareL_map, List.length_map, hl]
end

end Go.E
