/- A part of an engine that carries Go code out on trees of values, proved sound over the model for every program. No condition beyond what each theorem states. -/
import Derived.WalkKit
import Derived.Laws.Tables
import Derived.Laws.StructEq
import Derived.Laws.CopyRow
import Derived.Laws.MakeOwn
import Derived.Deep.AppendSrc
section
namespace Go.H
open Go
inductive T where
  | int (k : IntKind) (n : Int)
  | bool (b : Bool)
  | str (s : ByteArray)
  | sl (own : Bool) (sz : Nat) (rows : List (List T))
  | ptr (row : List T)
  | fn (f : FuncId) (caps : List T)
  | junk
  | nl
  | val (v : Value)
mutual
def RoT (w : World) (ok : Nat → Prop) : T → Value → Prop
  | .int k n, v => v = .int k n
  | .bool b, v => v = .bool b
  | .str s, v => v = .string s
  | .sl _ sz rows, v => ∃ base cap xs, v = .slice base rows.length cap ∧ rows.length ≤ cap ∧ cap ≤ maxLen ∧ RoRows w ok sz rows xs ∧
      (rows ≠ [] → ∃ b o, base = some ⟨b, o, none⟩ ∧ b < w.heap.size ∧ ok b ∧ ∀ j u, xs[j]? = some u → w.cell? ⟨b, o + j, none⟩ = some u)
  | .ptr row, v => ∃ b o xs, v = .pointer (some ⟨b, o, none⟩) ∧ b < w.heap.size ∧ ok b ∧ RoL w ok row xs ∧ ∀ j u, xs[j]? = some u → w.cell? ⟨b, o + j, none⟩ = some u
  | .fn f caps, v => ∃ cs, v = .func (.func f) #[] (List.toArray cs) ∧ RoL w ok caps cs
  | .junk, _ => True
  | .nl, v => ∃ base, v = .slice base 0 0
  | .val x, v => v = x
def RoL (w : World) (ok : Nat → Prop) : List T → List Value → Prop
  | [], xs => xs = []
  | t :: ts, xs => ∃ u us, xs = u :: us ∧ RoT w ok t u ∧ RoL w ok ts us
def RoRows (w : World) (ok : Nat → Prop) (sz : Nat) : List (List T) → List Value → Prop
  | [], xs => xs = []
  | r :: rs, xs => ∃ a b, xs = a ++ b ∧ r.length = sz ∧ RoL w ok r a ∧ RoRows w ok sz rs b
end
theorem RoL.length {w : World} {ok : Nat → Prop} : ∀ {ts : List T} {xs : List Value}, RoL w ok ts xs → xs.length = ts.length
  | [], xs, h => by simp only [RoL] at h; subst h; rfl
  | t :: ts, xs, h => by
    simp only [RoL] at h
    obtain ⟨u, us, rfl, _, h2⟩ := h
    simp [RoL.length h2]
theorem RoRows.length {w : World} {ok : Nat → Prop} {sz : Nat} : ∀ {rs : List (List T)} {xs : List Value}, RoRows w ok sz rs xs → xs.length = rs.length * sz
  | [], xs, h => by simp only [RoRows] at h; subst h; simp
  | r :: rs, xs, h => by
    simp only [RoRows] at h
    obtain ⟨a, b, rfl, hl, h1, h2⟩ := h
    simp [RoRows.length h2, RoL.length h1, hl, Nat.add_mul, Nat.add_comm]
mutual
theorem RoT.mono {w w' : World} {ok ok' : Nat → Prop} (hs : w.heap.size ≤ w'.heap.size) (h : ∀ b, b < w.heap.size → ok b → ok' b ∧ w'.heap[b]? = w.heap[b]?) :
    ∀ {t : T} {v : Value}, RoT w ok t v → RoT w' ok' t v
  | .int k n, v, hr => by simpa only [RoT] using hr
  | .bool b, v, hr => by simpa only [RoT] using hr
  | .str s, v, hr => by simpa only [RoT] using hr
  | .junk, v, hr => by simp only [RoT]
  | .nl, v, hr => by simpa only [RoT] using hr
  | .val x, v, hr => by simpa only [RoT] using hr
  | .sl g sz rows, v, hr => by
    simp only [RoT] at hr ⊢
    obtain ⟨base, cap, xs, e, hc, hm, hrow, hb⟩ := hr
    refine ⟨base, cap, xs, e, hc, hm, RoRows.mono hs h hrow, fun hne => ?_⟩
    obtain ⟨b, o, e1, hlt, hok, hcell⟩ := hb hne
    have := h b hlt hok
    exact ⟨b, o, e1, Nat.lt_of_lt_of_le hlt hs, this.1, fun j u hj => (World.cell?_of_block (a := ⟨b, o + j, none⟩) this.2).trans (hcell j u hj)⟩
  | .ptr row, v, hr => by
    simp only [RoT] at hr ⊢
    obtain ⟨b, o, xs, e, hlt, hok, hrow, hcell⟩ := hr
    have := h b hlt hok
    exact ⟨b, o, xs, e, Nat.lt_of_lt_of_le hlt hs, this.1, RoL.mono hs h hrow, fun j u hj => (World.cell?_of_block (a := ⟨b, o + j, none⟩) this.2).trans (hcell j u hj)⟩
  | .fn f caps, v, hr => by
    simp only [RoT] at hr ⊢
    obtain ⟨cs, e, hc⟩ := hr
    exact ⟨cs, e, RoL.mono hs h hc⟩
theorem RoL.mono {w w' : World} {ok ok' : Nat → Prop} (hs : w.heap.size ≤ w'.heap.size) (h : ∀ b, b < w.heap.size → ok b → ok' b ∧ w'.heap[b]? = w.heap[b]?) :
    ∀ {ts : List T} {xs : List Value}, RoL w ok ts xs → RoL w' ok' ts xs
  | [], xs, hr => by simpa only [RoL] using hr
  | t :: ts, xs, hr => by
    simp only [RoL] at hr ⊢
    obtain ⟨u, us, e, h1, h2⟩ := hr
    exact ⟨u, us, e, RoT.mono hs h h1, RoL.mono hs h h2⟩
theorem RoRows.mono {w w' : World} {ok ok' : Nat → Prop} {sz : Nat} (hs : w.heap.size ≤ w'.heap.size) (h : ∀ b, b < w.heap.size → ok b → ok' b ∧ w'.heap[b]? = w.heap[b]?) :
    ∀ {rs : List (List T)} {xs : List Value}, RoRows w ok sz rs xs → RoRows w' ok' sz rs xs
  | [], xs, hr => by simpa only [RoRows] using hr
  | r :: rs, xs, hr => by
    simp only [RoRows] at hr ⊢
    obtain ⟨a, b, e, hl, h1, h2⟩ := hr
    exact ⟨a, b, e, hl, RoL.mono hs h h1, RoRows.mono hs h h2⟩
end
theorem RoT.okk {w : World} {ok ok' : Nat → Prop} (h : ∀ b, ok b → ok' b) {t : T} {v : Value} (hr : RoT w ok t v) : RoT w ok' t v := hr.mono (Nat.le_refl _) fun b _ hb => ⟨h b hb, rfl⟩
theorem RoL.okk {w : World} {ok ok' : Nat → Prop} (h : ∀ b, ok b → ok' b) {t : List T} {v : List Value} (hr : RoL w ok t v) : RoL w ok' t v := hr.mono (Nat.le_refl _) fun b _ hb => ⟨h b hb, rfl⟩
theorem RoRows.okk {w : World} {ok ok' : Nat → Prop} {sz : Nat} (h : ∀ b, ok b → ok' b) {t : List (List T)} {v : List Value} (hr : RoRows w ok sz t v) : RoRows w ok' sz t v := hr.mono (Nat.le_refl _) fun b _ hb => ⟨h b hb, rfl⟩
theorem RoL.drop {w : World} {ok : Nat → Prop} : ∀ {ts : List T} {vs : List Value} (n : Nat), RoL w ok ts vs → RoL w ok (ts.drop n) (vs.drop n)
  | ts, vs, 0, h => by simpa using h
  | [], vs, n + 1, h => by simp only [RoL] at h; subst h; simp [RoL]
  | t :: ts, vs, n + 1, h => by
    simp only [RoL] at h
    obtain ⟨u, us, rfl, _, h2⟩ := h
    simpa using RoL.drop n h2
theorem RoL.take {w : World} {ok : Nat → Prop} : ∀ {ts : List T} {vs : List Value} (n : Nat), RoL w ok ts vs → RoL w ok (ts.take n) (vs.take n)
  | ts, vs, 0, h => by simp [RoL]
  | [], vs, n + 1, h => by simp only [RoL] at h; subst h; simp [RoL]
  | t :: ts, vs, n + 1, h => by
    simp only [RoL] at h
    obtain ⟨u, us, rfl, h1, h2⟩ := h
    simp only [List.take_succ_cons, RoL]
    exact ⟨u, _, rfl, h1, RoL.take n h2⟩
theorem RoL.append {w : World} {ok : Nat → Prop} : ∀ {ts us : List T} {vs xs : List Value}, RoL w ok ts vs → RoL w ok us xs → RoL w ok (ts ++ us) (vs ++ xs)
  | [], us, vs, xs, h1, h2 => by simp only [RoL] at h1; subst h1; simpa using h2
  | t :: ts, us, vs, xs, h1, h2 => by
    simp only [RoL] at h1
    obtain ⟨u, us', rfl, h3, h4⟩ := h1
    simp only [List.cons_append, RoL]
    exact ⟨u, _, rfl, h3, RoL.append h4 h2⟩
theorem RoRows.take_drop {w : World} {ok : Nat → Prop} {sz : Nat} : ∀ {rs : List (List T)} {xs : List Value} (n : Nat), RoRows w ok sz rs xs →
    RoRows w ok sz (rs.take n) (xs.take (n * sz)) ∧ RoRows w ok sz (rs.drop n) (xs.drop (n * sz))
  | rs, xs, 0, h => by simpa [RoRows] using h
  | [], xs, n + 1, h => by simp only [RoRows] at h; subst h; simp [RoRows]
  | r :: rs, xs, n + 1, h => by
    simp only [RoRows] at h
    obtain ⟨a, b, rfl, hl, h1, h2⟩ := h
    have hal : a.length = sz := by rw [RoL.length h1, hl]
    have e : (n + 1) * sz = a.length + n * sz := by rw [Nat.add_mul, hal]; omega
    obtain ⟨h3, h4⟩ := RoRows.take_drop n h2
    constructor
    · simp only [List.take_succ_cons, RoRows]
      exact ⟨a, b.take (n * sz), by rw [e, List.take_length_add_append], hl, h1, h3⟩
    · simp only [List.drop_succ_cons]
      rw [e, List.drop_length_add_append]
      exact h4
theorem RoRows.append {w : World} {ok : Nat → Prop} {sz : Nat} : ∀ {rs us : List (List T)} {vs xs : List Value}, RoRows w ok sz rs vs → RoRows w ok sz us xs → RoRows w ok sz (rs ++ us) (vs ++ xs)
  | [], us, vs, xs, h1, h2 => by simp only [RoRows] at h1; subst h1; simpa using h2
  | t :: ts, us, vs, xs, h1, h2 => by
    simp only [RoRows] at h1
    obtain ⟨a, b, rfl, hl, h3, h4⟩ := h1
    simp only [List.cons_append, RoRows]
    exact ⟨a, b ++ xs, by simp, hl, h3, RoRows.append h4 h2⟩
theorem RoRows.get {w : World} {ok : Nat → Prop} {sz : Nat} : ∀ {rs : List (List T)} {xs : List Value} {i : Nat} {r : List T}, RoRows w ok sz rs xs → rs[i]? = some r →
    ∃ c, RoL w ok r c ∧ r.length = sz ∧ ∀ j u, c[j]? = some u → xs[i * sz + j]? = some u
  | [], _, i, r, _, h => by simp at h
  | r :: rs, xs, 0, r', hr, h => by
    simp only [RoRows] at hr
    obtain ⟨a, b, rfl, hl, h1, h2⟩ := hr
    simp only [List.getElem?_cons_zero, Option.some.injEq] at h
    subst h
    refine ⟨a, h1, hl, fun j u hj => ?_⟩
    rw [Nat.zero_mul, Nat.zero_add, List.getElem?_append_left (List.getElem?_eq_some_iff.1 hj).1]; exact hj
  | r :: rs, xs, i + 1, r', hr, h => by
    simp only [RoRows] at hr
    obtain ⟨a, b, rfl, hl, h1, h2⟩ := hr
    obtain ⟨c, h3, h4, h5⟩ := RoRows.get h2 (by simpa using h)
    refine ⟨c, h3, h4, fun j u hj => ?_⟩
    have hal : a.length = sz := by rw [RoL.length h1, hl]
    rw [List.getElem?_append_right (by rw [hal, Nat.add_mul]; omega), hal]
    have : (i + 1) * sz + j - sz = i * sz + j := by rw [Nat.add_mul]; omega
    rw [this]; exact h5 j u hj
mutual
def OwT (w : World) (fz : Nat → Prop) : T → (Nat → Prop) → Value → Prop
  | .int k n, _, v => v = .int k n
  | .bool b, _, v => v = .bool b
  | .str s, _, v => v = .string s
  | .junk, _, _ => True
  | .nl, _, v => ∃ base, v = .slice base 0 0
  | .val x, _, v => v = x
  | .sl true sz rows, S, v => ∃ base cap, v = .slice base rows.length cap ∧ rows.length ≤ cap ∧ cap ≤ maxLen ∧
      ((rows = [] ∧ cap = 0) ∨ ∃ b cur e, base = some ⟨b, 0, none⟩ ∧ S b ∧ w.heap[b]? = some (.cells cur e (0, 0)) ∧ cap * sz ≤ cur.size ∧
        OwRows w fz sz rows (fun x => S x ∧ x ≠ b) (cur.toList.take (rows.length * sz)))
  | .sl false sz rows, _, v => RoT w fz (.sl false sz rows) v
  | .ptr row, _, v => RoT w fz (.ptr row) v
  | .fn f caps, _, v => RoT w fz (.fn f caps) v
def OwL (w : World) (fz : Nat → Prop) : List T → (Nat → Prop) → List Value → Prop
  | [], _, xs => xs = []
  | t :: ts, S, xs => ∃ u us, ∃ S1 S2 : Nat → Prop, xs = u :: us ∧ (∀ b, S1 b → S b ∧ ¬ S2 b) ∧ (∀ b, S2 b → S b) ∧ OwT w fz t S1 u ∧ OwL w fz ts S2 us
def OwRows (w : World) (fz : Nat → Prop) (sz : Nat) : List (List T) → (Nat → Prop) → List Value → Prop
  | [], _, xs => xs = []
  | r :: rs, S, xs => ∃ c d, ∃ S1 S2 : Nat → Prop, xs = c ++ d ∧ (∀ b, S1 b → S b ∧ ¬ S2 b) ∧ (∀ b, S2 b → S b) ∧ r.length = sz ∧ OwL w fz r S1 c ∧ OwRows w fz sz rs S2 d
end
theorem OwL.length {w : World} {fz : Nat → Prop} : ∀ {ts : List T} {S : Nat → Prop} {xs : List Value}, OwL w fz ts S xs → xs.length = ts.length
  | [], _, xs, h => by simp only [OwL] at h; subst h; rfl
  | t :: ts, _, xs, h => by
    simp only [OwL] at h
    obtain ⟨u, us, S1, S2, rfl, _, _, _, h2⟩ := h
    simp [OwL.length h2]
theorem OwRows.length {w : World} {fz : Nat → Prop} {sz : Nat} : ∀ {rs : List (List T)} {S : Nat → Prop} {xs : List Value}, OwRows w fz sz rs S xs → xs.length = rs.length * sz
  | [], _, xs, h => by simp only [OwRows] at h; subst h; simp
  | r :: rs, _, xs, h => by
    simp only [OwRows] at h
    obtain ⟨a, b, S1, S2, rfl, _, _, hl, h1, h2⟩ := h
    simp [OwRows.length h2, OwL.length h1, hl, Nat.add_mul, Nat.add_comm]
mutual
theorem OwT.mono {w w' : World} {fz fz' : Nat → Prop} (hs : w.heap.size ≤ w'.heap.size) (hf : ∀ b, b < w.heap.size → fz b → fz' b ∧ w'.heap[b]? = w.heap[b]?) :
    ∀ {t : T} {S S' : Nat → Prop} {v : Value}, (∀ b, S b → S' b) → (∀ b, S b → b < w.heap.size → w'.heap[b]? = w.heap[b]?) → OwT w fz t S v → OwT w' fz' t S' v
  | .int .., _, _, v, _, _, hr => by simpa only [OwT] using hr
  | .bool _, _, _, v, _, _, hr => by simpa only [OwT] using hr
  | .str _, _, _, v, _, _, hr => by simpa only [OwT] using hr
  | .junk, _, _, v, _, _, hr => by simp only [OwT]
  | .nl, _, _, v, _, _, hr => by simpa only [OwT] using hr
  | .val x, _, _, v, _, _, hr => by simpa only [OwT] using hr
  | .sl true sz rows, S, S', v, h1, h2, hr => by
    simp only [OwT] at hr ⊢
    obtain ⟨base, cap, e, hc, hm, hrow⟩ := hr
    refine ⟨base, cap, e, hc, hm, ?_⟩
    rcases hrow with hrow | ⟨b, cur, el, e1, hS, hb, hsz, hrow⟩
    · exact .inl hrow
    · have hlt : b < w.heap.size := (Array.getElem?_eq_some_iff.1 hb).1
      exact .inr ⟨b, cur, el, e1, h1 b hS, by rw [h2 b hS hlt]; exact hb, hsz, OwRows.mono hs hf (fun x hx => ⟨h1 x hx.1, hx.2⟩) (fun x hx => h2 x hx.1) hrow⟩
  | .sl false sz rows, _, _, v, _, _, hr => by
    simp only [OwT] at hr ⊢
    exact RoT.mono hs hf hr
  | .ptr row, _, _, v, _, _, hr => by
    simp only [OwT] at hr ⊢
    exact RoT.mono hs hf hr
  | .fn f caps, _, _, v, _, _, hr => by
    simp only [OwT] at hr ⊢
    exact RoT.mono hs hf hr
theorem OwL.mono {w w' : World} {fz fz' : Nat → Prop} (hs : w.heap.size ≤ w'.heap.size) (hf : ∀ b, b < w.heap.size → fz b → fz' b ∧ w'.heap[b]? = w.heap[b]?) :
    ∀ {ts : List T} {S S' : Nat → Prop} {xs : List Value}, (∀ b, S b → S' b) → (∀ b, S b → b < w.heap.size → w'.heap[b]? = w.heap[b]?) → OwL w fz ts S xs → OwL w' fz' ts S' xs
  | [], _, _, xs, _, _, hr => by simpa only [OwL] using hr
  | t :: ts, S, S', xs, h1, h2, hr => by
    simp only [OwL] at hr ⊢
    obtain ⟨u, us, S1, S2, e, h3, h4, h5, h6⟩ := hr
    exact ⟨u, us, S1, S2, e, fun b hb => ⟨h1 b (h3 b hb).1, (h3 b hb).2⟩, fun b hb => h1 b (h4 b hb), OwT.mono hs hf (fun _ => id) (fun b hb => h2 b (h3 b hb).1) h5,
      OwL.mono hs hf (fun _ => id) (fun b hb => h2 b (h4 b hb)) h6⟩
theorem OwRows.mono {w w' : World} {fz fz' : Nat → Prop} {sz : Nat} (hs : w.heap.size ≤ w'.heap.size) (hf : ∀ b, b < w.heap.size → fz b → fz' b ∧ w'.heap[b]? = w.heap[b]?) :
    ∀ {rs : List (List T)} {S S' : Nat → Prop} {xs : List Value}, (∀ b, S b → S' b) → (∀ b, S b → b < w.heap.size → w'.heap[b]? = w.heap[b]?) → OwRows w fz sz rs S xs → OwRows w' fz' sz rs S' xs
  | [], _, _, xs, _, _, hr => by simpa only [OwRows] using hr
  | r :: rs, S, S', xs, h1, h2, hr => by
    simp only [OwRows] at hr ⊢
    obtain ⟨c, d, S1, S2, e, h3, h4, hl, h5, h6⟩ := hr
    exact ⟨c, d, S1, S2, e, fun b hb => ⟨h1 b (h3 b hb).1, (h3 b hb).2⟩, fun b hb => h1 b (h4 b hb), hl, OwL.mono hs hf (fun _ => id) (fun b hb => h2 b (h3 b hb).1) h5,
      OwRows.mono hs hf (fun _ => id) (fun b hb => h2 b (h4 b hb)) h6⟩
end
theorem OwT.sub {w : World} {fz : Nat → Prop} {t : T} {S S' : Nat → Prop} {v : Value} (h : ∀ b, S b → S' b) (hr : OwT w fz t S v) : OwT w fz t S' v := hr.mono (Nat.le_refl _) (fun _ _ hf => ⟨hf, rfl⟩) h (fun _ _ _ => rfl)
theorem OwL.sub {w : World} {fz : Nat → Prop} {t : List T} {S S' : Nat → Prop} {v : List Value} (h : ∀ b, S b → S' b) (hr : OwL w fz t S v) : OwL w fz t S' v := hr.mono (Nat.le_refl _) (fun _ _ hf => ⟨hf, rfl⟩) h (fun _ _ _ => rfl)
theorem OwRows.sub {w : World} {fz : Nat → Prop} {sz : Nat} {t : List (List T)} {S S' : Nat → Prop} {v : List Value} (h : ∀ b, S b → S' b) (hr : OwRows w fz sz t S v) : OwRows w fz sz t S' v := hr.mono (Nat.le_refl _) (fun _ _ hf => ⟨hf, rfl⟩) h (fun _ _ _ => rfl)
mutual
theorem OwT.ro {w : World} {fz ok : Nat → Prop} (hf : ∀ b, fz b → ok b) : ∀ {t : T} {S : Nat → Prop} {v : Value}, (∀ b, b < w.heap.size → S b → ok b) → OwT w fz t S v → RoT w ok t v
  | .int .., _, v, _, h => by simpa only [OwT, RoT] using h
  | .bool _, _, v, _, h => by simpa only [OwT, RoT] using h
  | .str _, _, v, _, h => by simpa only [OwT, RoT] using h
  | .junk, _, v, _, h => by simp only [RoT]
  | .nl, _, v, _, h => by simpa only [OwT, RoT] using h
  | .val x, _, v, _, h => by simpa only [OwT, RoT] using h
  | .sl true sz rows, S, v, hS, h => by
    simp only [OwT, RoT] at h ⊢
    obtain ⟨base, cap, e, hc, hm, hrow⟩ := h
    rcases hrow with ⟨rfl, rfl⟩ | ⟨b, cur, el, e1, hb, hbb, hsz, hrow⟩
    · exact ⟨base, 0, [], e, hc, hm, by simp only [RoRows], fun hne => absurd rfl hne⟩
    · refine ⟨base, cap, _, e, hc, hm, OwRows.ro hf (fun x hl hx => hS x hl hx.1) hrow, fun _ => ⟨b, 0, e1, (Array.getElem?_eq_some_iff.1 hbb).1, hS b (Array.getElem?_eq_some_iff.1 hbb).1 hb, fun j u hj => ?_⟩⟩
      have hj' : cur[j]? = some u := by
        have := List.getElem?_eq_some_iff.1 hj
        obtain ⟨h1, h2⟩ := this
        rw [List.getElem_take] at h2
        rw [← h2]
        simp
      simp only [World.cell?, hbb, Nat.zero_add]
      exact hj'
  | .sl false sz rows, _, v, _, h => by
    simp only [OwT] at h
    exact h.okk hf
  | .ptr row, _, v, _, h => by
    simp only [OwT] at h
    exact h.okk hf
  | .fn f caps, _, v, _, h => by
    simp only [OwT] at h
    exact h.okk hf
theorem OwL.ro {w : World} {fz ok : Nat → Prop} (hf : ∀ b, fz b → ok b) : ∀ {ts : List T} {S : Nat → Prop} {vs : List Value}, (∀ b, b < w.heap.size → S b → ok b) → OwL w fz ts S vs → RoL w ok ts vs
  | [], _, vs, _, h => by simpa only [OwL, RoL] using h
  | t :: ts, S, vs, hS, h => by
    simp only [OwL, RoL] at h ⊢
    obtain ⟨u, us, S1, S2, e, h3, h4, h1, h2⟩ := h
    exact ⟨u, us, e, OwT.ro hf (fun b hl hb => hS b hl (h3 b hb).1) h1, OwL.ro hf (fun b hl hb => hS b hl (h4 b hb)) h2⟩
theorem OwRows.ro {w : World} {fz ok : Nat → Prop} {sz : Nat} (hf : ∀ b, fz b → ok b) : ∀ {rs : List (List T)} {S : Nat → Prop} {vs : List Value}, (∀ b, b < w.heap.size → S b → ok b) → OwRows w fz sz rs S vs → RoRows w ok sz rs vs
  | [], _, vs, _, h => by simpa only [OwRows, RoRows] using h
  | r :: rs, S, vs, hS, h => by
    simp only [OwRows, RoRows] at h ⊢
    obtain ⟨c, d, S1, S2, e, h3, h4, hl, h1, h2⟩ := h
    exact ⟨c, d, e, hl, OwL.ro hf (fun b hl' hb => hS b hl' (h3 b hb).1) h1, OwRows.ro hf (fun b hl' hb => hS b hl' (h4 b hb)) h2⟩
end
theorem OwL.split {w : World} {fz : Nat → Prop} : ∀ {ts : List T} {S : Nat → Prop} {xs : List Value} (n : Nat), OwL w fz ts S xs →
    ∃ S1 S2 : Nat → Prop, (∀ b, S1 b → S b ∧ ¬ S2 b) ∧ (∀ b, S2 b → S b) ∧ OwL w fz (ts.take n) S1 (xs.take n) ∧ OwL w fz (ts.drop n) S2 (xs.drop n)
  | ts, S, xs, 0, h => ⟨fun _ => False, S, fun _ h => h.elim, fun _ h => h, by simp [OwL], by simpa using h⟩
  | [], S, xs, n + 1, h => by
    simp only [OwL] at h
    subst h
    exact ⟨fun _ => False, S, fun _ h => h.elim, fun _ h => h, by simp [OwL], by simp [OwL]⟩
  | t :: ts, S, xs, n + 1, h => by
    simp only [OwL] at h
    obtain ⟨u, us, S1, S2, rfl, h3, h4, h5, h6⟩ := h
    obtain ⟨R1, R2, h7, h8, h9, h10⟩ := OwL.split n h6
    refine ⟨fun b => S1 b ∨ R1 b, R2, fun b hb => ?_, fun b hb => h4 b (h8 b hb), ?_, by simpa using h10⟩
    · rcases hb with hb | hb
      · exact ⟨(h3 b hb).1, fun hr => (h3 b hb).2 (h8 b hr)⟩
      · exact ⟨h4 b (h7 b hb).1, (h7 b hb).2⟩
    · simp only [List.take_succ_cons, OwL]
      exact ⟨u, _, S1, R1, rfl, fun b hb => ⟨.inl hb, fun hr => (h3 b hb).2 (h7 b hr).1⟩, fun b hb => .inr hb, h5, h9⟩
theorem OwL.join {w : World} {fz : Nat → Prop} : ∀ {a b : List T} {S1 S2 : Nat → Prop} {xs ys : List Value}, (∀ x, S1 x → ¬ S2 x) → OwL w fz a S1 xs → OwL w fz b S2 ys → OwL w fz (a ++ b) (fun x => S1 x ∨ S2 x) (xs ++ ys)
  | [], b, S1, S2, xs, ys, _, h1, h2 => by
    simp only [OwL] at h1
    subst h1
    exact OwL.sub (fun _ => .inr) h2
  | t :: ts, b, S1, S2, xs, ys, hd, h1, h2 => by
    simp only [OwL] at h1
    obtain ⟨u, us, R1, R2, rfl, h3, h4, h5, h6⟩ := h1
    simp only [List.cons_append, OwL]
    refine ⟨u, us ++ ys, R1, fun x => R2 x ∨ S2 x, rfl, fun x hx => ⟨.inl (h3 x hx).1, fun hr => ?_⟩, fun x hx => hx.imp (h4 x) id, h5, OwL.join (fun x hx => hd x (h4 x hx)) h6 h2⟩
    rcases hr with hr | hr
    · exact (h3 x hx).2 hr
    · exact hd x (h3 x hx).1 hr
theorem OwRows.split {w : World} {fz : Nat → Prop} {sz : Nat} : ∀ {rs : List (List T)} {S : Nat → Prop} {xs : List Value} (n : Nat), OwRows w fz sz rs S xs →
    ∃ S1 S2 : Nat → Prop, (∀ b, S1 b → S b ∧ ¬ S2 b) ∧ (∀ b, S2 b → S b) ∧ OwRows w fz sz (rs.take n) S1 (xs.take (n * sz)) ∧ OwRows w fz sz (rs.drop n) S2 (xs.drop (n * sz))
  | rs, S, xs, 0, h => ⟨fun _ => False, S, fun _ h => h.elim, fun _ h => h, by simp [OwRows], by simpa using h⟩
  | [], S, xs, n + 1, h => by
    simp only [OwRows] at h
    subst h
    exact ⟨fun _ => False, S, fun _ h => h.elim, fun _ h => h, by simp [OwRows], by simp [OwRows]⟩
  | r :: rs, S, xs, n + 1, h => by
    simp only [OwRows] at h
    obtain ⟨c, d, S1, S2, rfl, h3, h4, hl, h5, h6⟩ := h
    obtain ⟨R1, R2, h7, h8, h9, h10⟩ := OwRows.split n h6
    have hcl : c.length = sz := by rw [OwL.length h5, hl]
    have e : (n + 1) * sz = c.length + n * sz := by rw [Nat.add_mul, hcl]; omega
    refine ⟨fun b => S1 b ∨ R1 b, R2, fun b hb => ?_, fun b hb => h4 b (h8 b hb), ?_, ?_⟩
    · rcases hb with hb | hb
      · exact ⟨(h3 b hb).1, fun hr => (h3 b hb).2 (h8 b hr)⟩
      · exact ⟨h4 b (h7 b hb).1, (h7 b hb).2⟩
    · simp only [List.take_succ_cons, OwRows]
      exact ⟨c, d.take (n * sz), S1, R1, by rw [e, List.take_length_add_append], fun b hb => ⟨.inl hb, fun hr => (h3 b hb).2 (h7 b hr).1⟩, fun b hb => .inr hb, hl, h5, h9⟩
    · simp only [List.drop_succ_cons]
      rw [e, List.drop_length_add_append]
      exact h10
theorem OwRows.join {w : World} {fz : Nat → Prop} {sz : Nat} : ∀ {a b : List (List T)} {S1 S2 : Nat → Prop} {xs ys : List Value}, (∀ x, S1 x → ¬ S2 x) → OwRows w fz sz a S1 xs → OwRows w fz sz b S2 ys → OwRows w fz sz (a ++ b) (fun x => S1 x ∨ S2 x) (xs ++ ys)
  | [], b, S1, S2, xs, ys, _, h1, h2 => by
    simp only [OwRows] at h1
    subst h1
    exact OwRows.sub (fun _ => .inr) h2
  | r :: rs, b, S1, S2, xs, ys, hd, h1, h2 => by
    simp only [OwRows] at h1
    obtain ⟨c, d, R1, R2, rfl, h3, h4, hl, h5, h6⟩ := h1
    simp only [List.cons_append, OwRows]
    refine ⟨c, d ++ ys, R1, fun x => R2 x ∨ S2 x, by simp, fun x hx => ⟨.inl (h3 x hx).1, fun hr => ?_⟩, fun x hx => hx.imp (h4 x) id, hl, h5, OwRows.join (fun x hx => hd x (h4 x hx)) h6 h2⟩
    rcases hr with hr | hr
    · exact (h3 x hx).2 hr
    · exact hd x (h3 x hx).1 hr
theorem OwRows.one {w : World} {fz : Nat → Prop} {sz : Nat} {r : List T} {S : Nat → Prop} {xs : List Value} (hl : r.length = sz) (h : OwL w fz r S xs) : OwRows w fz sz [r] S xs := by
  simp only [OwRows]
  exact ⟨xs, [], S, fun _ => False, by simp, fun b hb => ⟨hb, id⟩, fun _ h => h.elim, hl, h, rfl⟩
theorem OwRows.one' {w : World} {fz : Nat → Prop} {sz : Nat} {r : List T} {S : Nat → Prop} {xs : List Value} (h : OwRows w fz sz [r] S xs) : r.length = sz ∧ OwL w fz r S xs := by
  simp only [OwRows] at h
  obtain ⟨c, d, S1, S2, rfl, h3, h4, hl, h5, rfl⟩ := h
  exact ⟨hl, by simpa using OwL.sub (fun b hb => (h3 b hb).1) h5⟩
theorem OwL.one {w : World} {fz : Nat → Prop} {t : T} {S : Nat → Prop} {u : Value} (h : OwT w fz t S u) : OwL w fz [t] S [u] := by
  simp only [OwL]
  exact ⟨u, [], S, fun _ => False, rfl, fun b hb => ⟨hb, id⟩, fun _ h => h.elim, h, rfl⟩
theorem OwL.one' {w : World} {fz : Nat → Prop} {t : T} {S : Nat → Prop} {xs : List Value} (h : OwL w fz [t] S xs) : ∃ u, xs = [u] ∧ OwT w fz t S u := by
  simp only [OwL] at h
  obtain ⟨u, us, S1, S2, rfl, h3, h4, h5, rfl⟩ := h
  exact ⟨u, rfl, OwT.sub (fun b hb => (h3 b hb).1) h5⟩
end Go.H
end
section
namespace Go.H
open Go
abbrev Dep := Option (Nat × Nat)
inductive V where
  | int (k : IntKind) (n : Int)
  | bool (b : Bool)
  | str (s : ByteArray)
  | nil
  | sl (dep : Dep) (sz : Nat) (rows : List (List T))
  | ref (κ : Nat) (off len : Nat)
  | vptr (d : Nat) (j : Nat)
  | eptr (κ : Nat) (i j : Nat)
  | rptr (dep : Dep) (row : List T) (j : Nat)
  | hm (κ n i j key len : Nat)
  | hv (key len : Nat) (v : Value)
  | fn (f : FuncId) (caps : List V)
  | agg (vs : List V)
  | tup (vs : List V)
  | opt (c : Bool) (x : V)
  | lit (v : Value)
  | undef
structure Arr where
  sz : Nat
  rows : List (List T)
  ver : Nat
  cap : Option Nat
inductive Mem where
  | var (cells : List V)
  | arr (A : Arr)
structure Gh where
  bv : Nat → Option Nat
  ab : Nat → Option (Option Addr × Nat × Nat)
  top : Nat → Nat
  fp : Nat → Nat → Prop
  fz : Nat → Prop
def okd (g : Gh) : Dep → Nat → Prop
  | none, b => g.fz b
  | some (κ, _), b => g.fz b ∨ g.fp κ b
def was (g : Gh) : Dep → Prop
  | none => True
  | some (κ, n) => n ≤ g.top κ
def live (g : Gh) : Dep → Prop
  | none => True
  | some (κ, n) => n = g.top κ
mutual
def VRep (w : World) (g : Gh) : V → Value → Prop
  | .int k n, v => v = .int k n
  | .bool b, v => v = .bool b
  | .str s, v => v = .string s
  | .nil, v => ∃ base, v = .slice base 0 0
  | .sl dep sz rows, v => was g dep ∧ (live g dep → RoT w (okd g dep) (.sl false sz rows) v)
  | .ref κ off len, v => ∃ base cap sz base', g.ab κ = some (base, cap, sz) ∧ off + len ≤ cap ∧ v = .slice base' len (cap - off) ∧ (off = 0 → base' = base) ∧ (len ≠ 0 → base' = base.map (·.add (off * sz)))
  | .vptr d j, v => ∃ b, g.bv d = some b ∧ v = .pointer (some ⟨b, j, none⟩)
  | .eptr κ i j, v => ∃ b cap sz, g.ab κ = some (some ⟨b, 0, none⟩, cap, sz) ∧ v = .pointer (some ⟨b, i * sz + j, none⟩)
  | .rptr dep row j, v => was g dep ∧ (live g dep → ∃ b o xs, v = .pointer (some ⟨b, o + j, none⟩) ∧ b < w.heap.size ∧ okd g dep b ∧ RoL w (okd g dep) row xs ∧ ∀ i u, xs[i]? = some u → w.cell? ⟨b, o + i, none⟩ = some u)
  | .hm κ n i j key len, v => (∃ base cap sz, g.ab key = some (base, cap, sz) ∧ len ≤ cap ∧ v = .slice base len cap) ∧ was g (some (κ, n)) ∧ (live g (some (κ, n)) → ∃ b cap sz, g.ab κ = some (some ⟨b, 0, none⟩, cap, sz) ∧ g.fp κ b ∧ b < w.heap.size ∧ w.cell? ⟨b, i * sz + j, none⟩ = some v)
  | .hv key len x, v => v = x ∧ ∃ base cap sz, g.ab key = some (base, cap, sz) ∧ len ≤ cap ∧ v = .slice base len cap
  | .fn f caps, v => ∃ cs, v = .func (.func f) #[] (List.toArray cs) ∧ VRepL w g caps cs
  | .agg vs, v => ∃ cs, v = .agg (List.toArray cs) ∧ VRepL w g vs cs
  | .tup vs, v => ∃ cs, v = .tuple (List.toArray cs) ∧ VRepL w g vs cs
  | .opt c x, v => (c = true → VRep w g x v) ∧ (c = false → v = .tuple #[])
  | .lit x, v => v = x
  | .undef, _ => True
def VRepL (w : World) (g : Gh) : List V → List Value → Prop
  | [], xs => xs = []
  | x :: ts, xs => ∃ u us, xs = u :: us ∧ VRep w g x u ∧ VRepL w g ts us
end
theorem VRepL.length {w : World} {g : Gh} : ∀ {ts : List V} {xs : List Value}, VRepL w g ts xs → xs.length = ts.length
  | [], xs, h => by simp only [VRepL] at h; subst h; rfl
  | t :: ts, xs, h => by
    simp only [VRepL] at h
    obtain ⟨u, us, rfl, _, h2⟩ := h
    simp [VRepL.length h2]
structure Ext (g : Gh) (w : World) (g' : Gh) (w' : World) : Prop where
  size : w.heap.size ≤ w'.heap.size
  bv : ∀ d b, g.bv d = some b → g'.bv d = some b
  ab : ∀ κ x, g.ab κ = some x → g'.ab κ = some x
  fz : ∀ b, g.fz b → g'.fz b ∧ (b < w.heap.size → w'.heap[b]? = w.heap[b]?)
  top : ∀ κ, g.top κ ≤ g'.top κ
  fp : ∀ κ, g'.top κ = g.top κ → g'.fp κ = g.fp κ ∧ ∀ b, g.fp κ b → b < w.heap.size → w'.heap[b]? = w.heap[b]?
theorem Ext.refl (g : Gh) (w : World) : Ext g w g w := ⟨Nat.le_refl _, fun _ _ h => h, fun _ _ h => h, fun _ h => ⟨h, fun _ => rfl⟩, fun _ => Nat.le_refl _, fun _ _ => ⟨rfl, fun _ _ _ => rfl⟩⟩
theorem Ext.ok {g g' : Gh} {w w' : World} (h : Ext g w g' w') {dep : Dep} (hw : was g dep) (hl : live g' dep) : live g dep ∧ ∀ b, b < w.heap.size → okd g dep b → okd g' dep b ∧ w'.heap[b]? = w.heap[b]? := by
  cases dep with
  | none => exact ⟨trivial, fun b hb hk => ⟨(h.fz b hk).1, (h.fz b hk).2 hb⟩⟩
  | some kn =>
    obtain ⟨κ, n⟩ := kn
    simp only [was, live] at hw hl ⊢
    have e : g'.top κ = g.top κ := Nat.le_antisymm (by omega) (h.top κ)
    refine ⟨by omega, fun b hb hk => ?_⟩
    obtain ⟨h1, h2⟩ := h.fp κ e
    simp only [okd] at hk ⊢
    rcases hk with hk | hk
    · exact ⟨.inl (h.fz b hk).1, (h.fz b hk).2 hb⟩
    · exact ⟨.inr (by rw [h1]; exact hk), h2 b hk hb⟩
theorem Ext.was {g g' : Gh} {w w' : World} (h : Ext g w g' w') {dep : Dep} (hw : was g dep) : H.was g' dep := by
  cases dep with
  | none => trivial
  | some kn =>
    obtain ⟨κ, n⟩ := kn
    have := h.top κ
    simp only [H.was] at hw ⊢
    omega
mutual
theorem VRep.ext {w w' : World} {g g' : Gh} (h : Ext g w g' w') : ∀ {x : V} {v : Value}, VRep w g x v → VRep w' g' x v
  | .int k n, v, hr => by simpa only [VRep] using hr
  | .bool b, v, hr => by simpa only [VRep] using hr
  | .str s, v, hr => by simpa only [VRep] using hr
  | .nil, v, hr => by simpa only [VRep] using hr
  | .lit _, v, hr => by simpa only [VRep] using hr
  | .undef, v, hr => by simp only [VRep]
  | .sl dep sz rows, v, hr => by
    simp only [VRep] at hr ⊢
    exact ⟨h.was hr.1, fun hl => (hr.2 (h.ok hr.1 hl).1).mono h.size (h.ok hr.1 hl).2⟩
  | .ref κ off len, v, hr => by
    simp only [VRep] at hr ⊢
    obtain ⟨base, cap, sz, base', h1, h2⟩ := hr
    exact ⟨base, cap, sz, base', h.ab κ _ h1, h2⟩
  | .vptr d j, v, hr => by
    simp only [VRep] at hr ⊢
    obtain ⟨b, h1, h2⟩ := hr
    exact ⟨b, h.bv d b h1, h2⟩
  | .eptr κ i j, v, hr => by
    simp only [VRep] at hr ⊢
    obtain ⟨b, cap, sz, h1, h2⟩ := hr
    exact ⟨b, cap, sz, h.ab κ _ h1, h2⟩
  | .rptr dep row j, v, hr => by
    simp only [VRep] at hr ⊢
    refine ⟨h.was hr.1, fun hl => ?_⟩
    obtain ⟨b, o, xs, e, hlt, hok, hrow, hcell⟩ := hr.2 (h.ok hr.1 hl).1
    have hall := (h.ok hr.1 hl).2
    have := hall b hlt hok
    exact ⟨b, o, xs, e, Nat.lt_of_lt_of_le hlt h.size, this.1, RoL.mono h.size hall hrow, fun i u hi => (World.cell?_of_block (a := ⟨b, o + i, none⟩) this.2).trans (hcell i u hi)⟩
  | .hm κ n i j key len, v, hr => by
    simp only [VRep] at hr ⊢
    obtain ⟨⟨base, cap, sz, h1, h2⟩, h3, h4⟩ := hr
    refine ⟨⟨base, cap, sz, h.ab key _ h1, h2⟩, h.was h3, fun hl => ?_⟩
    have hlo := (h.ok h3 hl).1
    obtain ⟨b, cap', sz', q1, q2, q3, q4⟩ := h4 hlo
    have e : g'.top κ = g.top κ := by simp only [live] at hl hlo; omega
    obtain ⟨f1, f2⟩ := h.fp κ e
    exact ⟨b, cap', sz', h.ab κ _ q1, by rw [f1]; exact q2, Nat.lt_of_lt_of_le q3 h.size, (World.cell?_of_block (a := ⟨b, i * sz' + j, none⟩) (f2 b q2 q3)).trans q4⟩
  | .hv key len x, v, hr => by
    simp only [VRep] at hr ⊢
    obtain ⟨e, base, cap, sz, h1, h2⟩ := hr
    exact ⟨e, base, cap, sz, h.ab key _ h1, h2⟩
  | .fn f caps, v, hr => by
    simp only [VRep] at hr ⊢
    obtain ⟨cs, e, hc⟩ := hr
    exact ⟨cs, e, VRepL.ext h hc⟩
  | .agg vs, v, hr => by
    simp only [VRep] at hr ⊢
    obtain ⟨cs, e, hc⟩ := hr
    exact ⟨cs, e, VRepL.ext h hc⟩
  | .tup vs, v, hr => by
    simp only [VRep] at hr ⊢
    obtain ⟨cs, e, hc⟩ := hr
    exact ⟨cs, e, VRepL.ext h hc⟩
  | .opt c x, v, hr => by
    simp only [VRep] at hr ⊢
    exact ⟨fun e => VRep.ext h (hr.1 e), hr.2⟩
theorem VRepL.ext {w w' : World} {g g' : Gh} (h : Ext g w g' w') : ∀ {xs : List V} {vs : List Value}, VRepL w g xs vs → VRepL w' g' xs vs
  | [], vs, hr => by simpa only [VRepL] using hr
  | x :: xs, vs, hr => by
    simp only [VRepL] at hr ⊢
    obtain ⟨u, us, e, h1, h2⟩ := hr
    exact ⟨u, us, e, VRep.ext h h1, VRepL.ext h h2⟩
end
def MemRep (w : World) (g : Gh) (k : Nat) : Mem → Prop
  | .var cells => ∃ b cur e, g.bv k = some b ∧ w.heap[b]? = some (.cells cur e (0, 0)) ∧ VRepL w g cells cur.toList
  | .arr A => ∃ base cap, g.ab k = some (base, cap, A.sz) ∧ g.top k = A.ver ∧ OwT w g.fz (.sl true A.sz A.rows) (g.fp k) (.slice base A.rows.length cap) ∧ ∀ c, A.cap = some c → c = cap
inductive Ob where
  | var (cells : List T)
  | arr (sz : Nat) (rows : List (List T))
def lkey (i : Nat) : Nat := 1000000 + 1000 * i
def HRep (g : Gh) (k : Nat) : Ob → Value → Prop
  | .var _, v => ∃ b, g.bv k = some b ∧ v = .pointer (some ⟨b, 0, none⟩)
  | .arr sz rows, v => ∃ base cap, g.ab k = some (base, cap, sz) ∧ rows.length ≤ cap ∧ v = .slice base rows.length cap
theorem HRep.ext {g g' : Gh} {w w' : World} {k : Nat} {o : Ob} {v : Value} (h : HRep g k o v) (hx : Ext g w g' w') : HRep g' k o v := by
  cases o with
  | var cells => obtain ⟨b, h1, h2⟩ := h; exact ⟨b, hx.bv _ _ h1, h2⟩
  | arr sz rows => obtain ⟨b, c, h1, h2⟩ := h; exact ⟨b, c, hx.ab _ _ h1, h2⟩
def HRepL (g : Gh) : Nat → List Ob → List Value → Prop
  | _, [], vs => vs = []
  | i, o :: os, vs => ∃ u us, vs = u :: us ∧ HRep g (lkey i) o u ∧ HRepL g (i + 1) os us
theorem HRepL.ext {g g' : Gh} {w w' : World} (hx : Ext g w g' w') : ∀ {L : List Ob} {i : Nat} {vs : List Value}, HRepL g i L vs → HRepL g' i L vs
  | [], _, _, h => h
  | o :: os, i, vs, h => by
    obtain ⟨u, us, e, h1, h2⟩ := h
    exact ⟨u, us, e, h1.ext hx, h2.ext hx⟩
structure Env where
  w0 : World
  wr : Nat → Prop
  fz : Nat → Prop
  L : List Ob
  hs : List Value
structure SF where
  F : Nat → Option V
  M : Nat → Option Mem
  B : Nat → Prop
def Own (g : Gh) (k : Nat) (b : Nat) : Prop := g.bv k = some b ∨ g.fp k b
structure Sim (E : Env) (nt : Nat) (s : SF) (g : Gh) (a : Act) (w : World) : Prop where
  os : w.os = E.w0.os
  tape : w.tape = E.w0.tape
  output : w.output = E.w0.output
  size : E.w0.heap.size ≤ w.heap.size
  same : ∀ b, b < E.w0.heap.size → ¬ E.wr b → w.heap[b]? = E.w0.heap[b]?
  defers : a.defers = []
  nt : a.tmps.size = nt
  frame : ∀ t x, s.F t = some x → VRep w g x (a.tmps.getD t undef)
  mem : ∀ k m, s.M k = some m → MemRep w g k m
  disj : ∀ k k' b, Own g k b → Own g k' b → k = k'
  ownfz : ∀ k b, Own g k b → ¬ g.fz b
  ownlt : ∀ k b, Own g k b → b < w.heap.size ∧ (E.wr b ∨ E.w0.heap.size ≤ b)
  fzlt : ∀ b, g.fz b → b < w.heap.size
  bornV : ∀ k, g.bv k ≠ none → s.B k
  bornA : ∀ k, g.ab k ≠ none → s.B k
  bornF : ∀ k, ¬ s.B k → (∀ b, ¬ g.fp k b) ∧ g.top k = 0
  kind : ∀ k, g.bv k ≠ none → g.ab k = none ∧ ∀ b, ¬ g.fp k b
  fz1 : ∀ b, E.fz b → g.fz b
  hnd : HRepL g 0 E.L E.hs
  fz2 : ∀ b, g.fz b → E.fz b ∨ E.wr b ∨ E.w0.heap.size ≤ b
theorem Sim.change {E : Env} {nt : Nat} {s : SF} {g : Gh} {a : Act} {w : World} (h : Sim E nt s g a w) {g' : Gh} {w' : World} {M' : Nat → Option Mem} {B' : Nat → Prop} (hx : Ext g w g' w')
    (ho : w'.os = w.os) (ht : w'.tape = w.tape) (hout : w'.output = w.output) (hch : ∀ b, b < w.heap.size → (∀ k, ¬ Own g k b) → w'.heap[b]? = w.heap[b]?)
    (hm : ∀ k m, M' k = some m → MemRep w' g' k m) (hold : ∀ k b, Own g' k b → (∃ k0, Own g k0 b) ∨ (E.wr b ∨ E.w0.heap.size ≤ b)) (hlt : ∀ k b, Own g' k b → b < w'.heap.size)
    (hd : ∀ k k' b, Own g' k b → Own g' k' b → k = k') (hfz : ∀ k b, Own g' k b → ¬ g'.fz b) (hfzlt : ∀ b, g'.fz b → b < w'.heap.size)
    (hbV : ∀ k, g'.bv k ≠ none → B' k) (hbA : ∀ k, g'.ab k ≠ none → B' k) (hbF : ∀ k, ¬ B' k → (∀ b, ¬ g'.fp k b) ∧ g'.top k = 0) (hki : ∀ k, g'.bv k ≠ none → g'.ab k = none ∧ ∀ b, ¬ g'.fp k b) (hf2 : ∀ b, g'.fz b → g.fz b ∨ E.wr b ∨ E.w0.heap.size ≤ b) : Sim E nt ⟨s.F, M', B'⟩ g' a w' where
  os := ho.trans h.os
  tape := ht.trans h.tape
  output := hout.trans h.output
  size := Nat.le_trans h.size hx.size
  same b hb hw := by
    rw [hch b (Nat.lt_of_lt_of_le hb h.size) (fun k hk => by rcases (h.ownlt k b hk).2 with h1 | h1; exact hw h1; omega)]
    exact h.same b hb hw
  defers := h.defers
  nt := h.nt
  frame t x hx' := (h.frame t x hx').ext hx
  mem := hm
  disj := hd
  ownfz := hfz
  ownlt k b hk := ⟨hlt k b hk, by
    rcases hold k b hk with ⟨k0, h0⟩ | h0
    · exact (h.ownlt k0 b h0).2
    · exact h0⟩
  fzlt := hfzlt
  bornV := hbV
  bornA := hbA
  bornF := hbF
  kind := hki
  fz1 b hb := (hx.fz b (h.fz1 b hb)).1
  hnd := h.hnd.ext hx
  fz2 b hb := (hf2 b hb).elim (h.fz2 b) .inr
theorem MemRep.ext {w w' : World} {g g' : Gh} (h : Ext g w g' w') {k : Nat} {m : Mem} (ht : g'.top k = g.top k) (hb : ∀ b, g.bv k = some b → (∃ c, m = .var c) → w'.heap[b]? = w.heap[b]?) (hr : MemRep w g k m) : MemRep w' g' k m := by
  cases m with
  | var cells =>
    obtain ⟨b, cur, e, h1, h2, h3⟩ := hr
    exact ⟨b, cur, e, h.bv k b h1, by rw [hb b h1 ⟨_, rfl⟩]; exact h2, h3.ext h⟩
  | arr A =>
    obtain ⟨base, cap, h1, h2, h3, h4⟩ := hr
    obtain ⟨h5, h6⟩ := h.fp k ht
    refine ⟨base, cap, h.ab k _ h1, ht.trans h2, ?_, h4⟩
    rw [h5]
    exact h3.mono h.size (fun b hb hf => ⟨(h.fz b hf).1, (h.fz b hf).2 hb⟩) (fun _ => id) h6
theorem lt_of_heap {w : World} {b : Nat} {o : Obj} (h : w.heap[b]? = some o) : b < w.heap.size := (Array.getElem?_eq_some_iff.1 h).1
def look {β : Type} (k : Nat) : List (Nat × β) → Option β
  | [] => none
  | (a, b) :: l => if k = a then some b else look k l
structure St where
  fr : List (Nat × V)
  ms : List (Nat × Mem)
  bn : List Nat
def St.sf (st : St) : SF := ⟨fun t => look t st.fr, fun k => look k st.ms, fun k => k ∈ st.bn⟩
def Simm (E : Env) (nt : Nat) (st : St) (a : Act) (w : World) : Prop := ∃ g, Sim E nt st.sf g a w
theorem Sim.less {E : Env} {nt : Nat} {s s' : SF} {g : Gh} {a : Act} {w : World} (h : Sim E nt s g a w) (hF : ∀ t x, s'.F t = some x → s.F t = some x) (hM : ∀ k m, s'.M k = some m → s.M k = some m) (hB : ∀ k, s.B k → s'.B k) : Sim E nt s' g a w :=
  { os := h.os, tape := h.tape, output := h.output, size := h.size, same := h.same, defers := h.defers, nt := h.nt, frame := fun t x hx => h.frame t x (hF t x hx), mem := fun k m hm => h.mem k m (hM k m hm),
    disj := h.disj, ownfz := h.ownfz, ownlt := h.ownlt, fzlt := h.fzlt,
    bornV := fun k hk => hB k (h.bornV k hk), bornA := fun k hk => hB k (h.bornA k hk), bornF := fun k hk => h.bornF k (fun hb => hk (hB k hb)), kind := h.kind, fz1 := h.fz1, hnd := h.hnd, fz2 := h.fz2 }
theorem Sim.arrK {E : Env} {nt : Nat} {s : SF} {g : Gh} {a : Act} {w : World} (h : Sim E nt s g a w) {k : Nat} {A : Arr} (hm : s.M k = some (.arr A)) : g.bv k = none ∧ s.B k := by
  obtain ⟨base, cap, h1, _⟩ := h.mem k _ hm
  refine ⟨Classical.byContradiction fun e => ?_, h.bornA k (by rw [h1]; simp)⟩
  have := (h.kind k e).1
  rw [h1] at this
  cases this
theorem Sim.newK {E : Env} {nt : Nat} {s : SF} {g : Gh} {a : Act} {w : World} (h : Sim E nt s g a w) {k : Nat} (hb : ¬ s.B k) : g.bv k = none ∧ g.ab k = none ∧ (∀ b, ¬ g.fp k b) ∧ g.top k = 0 :=
  ⟨Classical.byContradiction fun e => hb (h.bornV k e), Classical.byContradiction fun e => hb (h.bornA k e), (h.bornF k hb).1, (h.bornF k hb).2⟩
def SF.put (s : SF) (d : Option Tmp) (x : V) : SF :=
  match d with
  | some d => { s with F := fun t => if t = d then some x else s.F t }
  | none => s
def dstOk (nt : Nat) : Option Tmp → Prop
  | some d => d < nt
  | none => True
theorem Sim.put {E : Env} {nt : Nat} {s : SF} {g : Gh} {a : Act} {w : World} {x : V} {v : Value} (h : Sim E nt s g a w) {d : Option Tmp} (hd : dstOk nt d) (hx : VRep w g x v) : Sim E nt (s.put d x) g (a.put d v) w := by
  cases d with
  | none => exact h
  | some d =>
    have hd' : d < a.tmps.size := by rw [h.nt]; simpa [dstOk] using hd
    refine { h with nt := by simp [Act.put, h.nt], defers := h.defers, frame := ?_ }
    intro t y hy
    simp only [SF.put] at hy
    simp only [Act.put]
    by_cases ht : t = d
    · subst ht
      simp only [if_true, Option.some.injEq] at hy
      subst hy
      have e : (a.tmps.setIfInBounds t v).getD t undef = v := by simp [Array.getD_eq_getD_getElem?, hd']
      show VRep w g x ((a.tmps.setIfInBounds t v).getD t undef)
      rw [e]; exact hx
    · simp only [ht, if_false] at hy
      have := h.frame t y hy
      have hne : d ≠ t := fun e => ht e.symm
      have e : (a.tmps.setIfInBounds d v).getD t undef = a.tmps.getD t undef := by simp [Array.getD_eq_getD_getElem?, hne]
      show VRep w g y ((a.tmps.setIfInBounds d v).getD t undef)
      rw [e]; exact this
end Go.H
end
section
set_option linter.unusedSimpArgs false
set_option linter.unusedVariables false
namespace Go.H
open Go
inductive Opd where
  | t (n : Tmp)
  | i (k : IntKind) (n : Int)
  | b (b : Bool)
  | s (s : ByteArray)
  | nl
  | nif
  | pn
  | f (id : FuncId)
  | no
def opd : Operand → Opd
  | .tmp t => .t t
  | .const (.int k n) => .i k n
  | .const (.bool b) => .b b
  | .const (.string s) => .s s
  | .const (.slice none 0 0) => .nl
  | .const .nilIface => .nif
  | .const (.pointer none) => .pn
  | .func f => .f f
  | _ => .no
def ev (F : Nat → Option V) : Opd → Option V
  | .t n => F n
  | .i k n => some (.int k n)
  | .b b => some (.bool b)
  | .s s => some (.str s)
  | .nl => some .nil
  | .nif => some (.lit .nilIface)
  | .pn => some (.lit (.pointer none))
  | .f id => some (.fn id [])
  | .no => none
theorem ev_ok {E : Env} {nt : Nat} {s : SF} {g : Gh} {a : Act} {w : World} (h : Sim E nt s g a w) {o : Operand} {x : V} (hx : ev s.F (opd o) = some x) : VRep w g x (a.eval o) := by
  unfold opd at hx
  split at hx <;> simp only [ev, Option.some.injEq, reduceCtorEq] at hx
  · exact h.frame _ x hx
  all_goals subst hx
  all_goals simp only [VRep, Act.eval]
  · exact ⟨none, rfl⟩
  · exact ⟨[], rfl, by simp only [VRepL]⟩
inductive AOp where
  | mv (x : Opd)
  | pick (c a b : Opd)
  | bin (op : BinOp) (x y : Opd)
  | eqa (neg : Bool) (x y : Opd) (ks : List Nat)
  | beq (neg : Bool) (x y : Opd)
  | not (x : Opd)
  | neg (x : Opd)
  | ext (x : Opd) (i : Nat)
  | fld (x : Opd) (off sz : Nat) (agg : Bool)
  | fad (x : Opd) (off : Nat)
  | nck (x : Opd)
  | idx (x i : Opd) (sz : Nat)
  | ixa (x i : Opd) (len sz : Nat)
  | six (x i : Opd)
  | load (x : Opd) (n : Nat) (agg : Bool)
  | store (x v : Opd) (n : Nat)
  | sls (x : Opd) (lo hi : Option Opd)
  | sll (x : Opd) (lo hi mx : Option Opd) (sz : Nat)
  | bld (zs : List V) (parts : List (Nat × Nat × Opd))
  | bsl (zs : List V) (len : Nat) (parts : List (Nat × Opd))
  | cvi (k : IntKind) (x : Opd)
  | cid (x : Opd)
  | cbs (x : Opd)
  | csb (x : Opd)
  | mkf (f : FuncId) (caps : List Opd)
  | len (x : Opd)
  | slen (x : Opd)
  | cap (x : Opd)
  | mnx (mx : Bool) (xs : List Opd)
  | app (str : Bool) (x y : Opd) (sz bytes : Nat)
  | cpy (str : Bool) (x y : Opd) (sz : Nat)
  | apz (x y : Opd) (zs : List V) (bytes : Nat)
  | clr (x : Opd) (zs : List V)
  | call (f : Opd) (args : List (Opd × Option Nat))
  | alloc (zs : List V)
  | box (x : Opd)
  | mks (len cap : Opd) (zs : List V) (bytes : Nat)
  | isn (neg : Bool) (x : Opd)
  | bad
def isAggT (P : Program) (t : TypeId) : Option Bool :=
  match P.underlying t with
  | some (.struct _) | some (.array _ _) => some true
  | some _ => some false
  | none => none
def tySz (P : Program) (t : TypeId) : Option Nat := (P.info? t).map (·.size)
structure FInfo where
  off : Nat
  sz : Nat
  agg : Bool
def fInfo (P : Program) (t : TypeId) (f : Nat) : Option FInfo :=
  match P.underlying t with
  | some (.struct fs) =>
    match fs[f]? with
    | some fd => match tySz P fd.type, isAggT P fd.type with
      | some n, some b => some ⟨fd.offset, n, b⟩
      | _, _ => none
    | none => none
  | _ => none
def zeroCs (P : Program) : Nat → TypeId → Option (List V)
  | 0, _ => none
  | n + 1, t =>
    match P.underlying t with
    | some .bool => some [.bool false]
    | some (.int k) => some [.int k 0]
    | some .string => some [.str ByteArray.empty]
    | some (.slice _) => some [.nil]
    | some (.pointer _) => some [.lit (.pointer none)]
    | some (.struct fs) => (fs.toList.mapM fun f => zeroCs P n f.type).map List.flatten
    | some (.array len e) => (zeroCs P n e).map fun z => (List.replicate len z).flatten
    | _ => none
def zeroOne : V → Value → Bool
  | .int k 0, .int k' 0 => decide (k = k')
  | .bool false, .bool false => true
  | .str s, .string s' => decide (s.size = 0) && decide (s'.size = 0)
  | .nil, .slice none 0 0 => true
  | .lit (.pointer none), .pointer none => true
  | _, _ => false
def zeroLike : List V → List Value → Bool
  | [], [] => true
  | x :: xs, y :: ys => zeroOne x y && zeroLike xs ys
  | _, _ => false
def zeroOf (P : Program) (t : TypeId) : Option (List V) :=
  match zeroCs P 12 t, (P.info? t).bind (·.zero) with
  | some vs, some z => if zeroLike vs z.cells.toList then some vs else none
  | _, _ => none
def slEl (P : Program) (t : TypeId) : Option TypeId :=
  match P.underlying t with
  | some (.slice e) => some e
  | _ => none
def isU8 (P : Program) (t : TypeId) : Bool :=
  match P.underlying t with
  | some (.int .u8) => true
  | _ => false
def ptN (P : Program) (t : TypeId) : Option Nat :=
  match P.underlying t with
  | some (.pointer e) => tySz P e
  | _ => none
def flatF (f : TypeId → Option (List Nat)) (off : Nat) : List Field → Option (List Nat)
  | [] => some []
  | x :: fs => match f x.type with
    | some ks => if x.offset = off ∧ x.name ≠ "_" ∧ ks.length ≠ 0 then (flatF f (off + ks.length) fs).map (ks ++ ·) else none
    | none => none
def flatK (P : Program) : Nat → TypeId → Option (List Nat)
  | 0, _ => none
  | n + 1, t =>
    match P.underlying t with
    | some .bool => if tySz P t = some 1 then some [0] else none
    | some (.int _) => if tySz P t = some 1 then some [1] else none
    | some .string => if tySz P t = some 1 then some [2] else none
    | some (.struct fs) => if P.stoodInHeld t = true then none else match flatF (flatK P n) 0 fs.toList with
      | some ks => if tySz P t = some ks.length then some ks else none
      | none => none
    | _ => none
def bparts (P : Program) (fs : Array Field) : List (Nat × Operand) → Option (List (Nat × Nat × Opd))
  | [] => some []
  | (i, o) :: l => match (fs[i]?).bind (fun f => (tySz P f.type).map fun n => (f.offset, n)), bparts P fs l with
    | some (off, n), some r => some ((off, n, opd o) :: r)
    | _, _ => none
def argL (P : Program) : List Operand → List TypeId → Option (List (Opd × Option Nat))
  | [], _ => some []
  | o :: os, t :: ts => (argL P os ts).map fun r => (opd o, ptN P t) :: r
  | _ :: _, [] => none
def cmpBuiltin (P : Program) (b : Builtin) (args : List Operand) (tys : List TypeId) : AOp :=
  match b, args, tys with
  | .len, [x], [t] => match P.underlying t with
    | some .string => .slen (opd x)
    | some (.slice _) => .len (opd x)
    | _ => .bad
  | .cap, [x], [t] => match P.underlying t with
    | some (.slice _) => .cap (opd x)
    | _ => .bad
  | .min, [x, y], _ => .mnx false [opd x, opd y]
  | .min, [x, y, z], _ => .mnx false [opd x, opd y, opd z]
  | .max, [x, y], _ => .mnx true [opd x, opd y]
  | .max, [x, y, z], _ => .mnx true [opd x, opd y, opd z]
  | .append, [x, y], [t, u] => match slEl P t with
    | some e => match P.info? e, zeroOf P e, P.underlying u with
      | some i, some zs, some (.slice e') => if i.size = 0 ∨ zs.length ≠ i.size ∨ (tySz P e' != some i.size) then .bad else .app false (opd x) (opd y) i.size i.bytes
      | some i, some zs, some (.int _) => if i.size = 0 ∨ zs.length ≠ i.size then .bad else .apz (opd x) (opd y) zs i.bytes
      | some i, some zs, some .string => if i.size ≠ 1 ∨ zs.length ≠ 1 then .bad else .app true (opd x) (opd y) i.size i.bytes
      | _, _, _ => .bad
    | none => .bad
  | .copy, [x, y], [t, u] => match slEl P t with
    | some e => match P.underlying u, tySz P e with
      | some (.slice e'), some n => if n = 0 ∨ (tySz P e' != some n) then .bad else .cpy false (opd x) (opd y) n
      | some .string, some n => if n ≠ 1 then .bad else .cpy true (opd x) (opd y) 1
      | _, _ => .bad
    | none => .bad
  | .clear, [x], [t] => match slEl P t with
    | some e => match zeroOf P e, tySz P e with
      | some zs, some n => if n = 0 ∨ zs.length ≠ n then .bad else .clr (opd x) zs
      | _, _ => .bad
    | none => .bad
  | _, _, _ => .bad
def cmp (P : Program) (op : Op) : AOp :=
  match op with
  | .move x => .mv (opd x)
  | .assign x => .mv (opd x)
  | .pick c a b => .pick (opd c) (opd a) (opd b)
  | .binOp o t x y _ => match P.underlying t with
    | some (.struct _) => match o, flatK P 12 t, P.eqGuardType P.depth t with
      | .eql, some ks, false => .eqa false (opd x) (opd y) ks
      | .neq, some ks, false => .eqa true (opd x) (opd y) ks
      | _, _, _ => .bad
    | some .bool => match o with
      | .eql => .beq false (opd x) (opd y)
      | .neq => .beq true (opd x) (opd y)
      | _ => .bad
    | some (.int _) | some .string => .bin o (opd x) (opd y)
    | some (.slice _) => match o, opd y with
      | .eql, .nl => .isn false (opd x)
      | .neq, .nl => .isn true (opd x)
      | _, _ => .bad
    | _ => .bad
  | .unOp .not _ x => .not (opd x)
  | .unOp .neg _ x => .neg (opd x)
  | .extract x i => .ext (opd x) i
  | .field t x f => match fInfo P t f with
    | some i => .fld (opd x) i.off i.sz i.agg
    | none => .bad
  | .fieldAddr t x f => match fInfo P t f with
    | some i => if i.sz = 0 then .bad else .fad (opd x) i.off
    | none => .bad
  | .nilCheck x => .nck (opd x)
  | .indexAddr t x i => match P.underlying t with
    | some (.slice e) => match tySz P e with
      | some n => .idx (opd x) (opd i) n
      | none => .bad
    | some (.array len e) => match tySz P e with
      | some n => .ixa (opd x) (opd i) len n
      | none => .bad
    | _ => .bad
  | .index t x i => match P.underlying t with
    | some .string => .six (opd x) (opd i)
    | _ => .bad
  | .load t x => match tySz P t, isAggT P t with
    | some n, some b => .load (opd x) n b
    | _, _ => .bad
  | .store t x v => match tySz P t with
    | some n => .store (opd x) (opd v) n
    | none => .bad
  | .slice t x lo hi mx => match P.underlying t with
    | some .string => match mx with
      | none => .sls (opd x) (lo.map opd) (hi.map opd)
      | some _ => .bad
    | some (.slice e) => match tySz P e with
      | some n => .sll (opd x) (lo.map opd) (hi.map opd) (mx.map opd) n
      | none => .bad
    | _ => .bad
  | .build t parts => match P.underlying t with
    | some (.struct fs) => match zeroOf P t, bparts P fs parts.toList, (fs.toList.mapM fun f => (P.info? f.type).map fun i => (f.offset, i.size)) with
      | some zs, some ps, some _ => .bld zs ps
      | _, _, _ => .bad
    | some (.array _ e) => match zeroOf P t, tySz P e with
      | some zs, some n => .bld zs (parts.toList.map fun p => (p.1 * n, n, opd p.2))
      | _, _ => .bad
    | _ => .bad
  | .buildSlice t len parts => match slEl P t with
    | some e => match zeroOf P e, tySz P e with
      | some zs, some n => if n = 0 ∨ len * n > 16777216 ∨ zs.length ≠ n then .bad else .bsl zs len (parts.toList.map fun p => (p.1, opd p.2))
      | _, _ => .bad
    | none => .bad
  | .convert s d x => match P.underlying s, P.underlying d with
    | some (.int _), some (.int k) => .cvi k (opd x)
    | some .string, some .string => .cid (opd x)
    | some (.slice e), some .string => if isU8 P e then .cbs (opd x) else .bad
    | some .string, some (.slice e) => if isU8 P e then .csb (opd x) else .bad
    | _, _ => .bad
  | .makeFunc (.func f) first caps => if first.isEmpty then .mkf f (caps.toList.map opd) else .bad
  | .call ⟨.value f, args, tys⟩ => match argL P args.toList tys.toList with
    | some l => .call (opd f) l
    | none => .bad
  | .call ⟨.builtin b, args, tys⟩ => cmpBuiltin P b args.toList tys.toList
  | .alloc t => match zeroOf P t with
    | some zs => .alloc zs
    | none => .bad
  | .box _ x => .box (opd x)
  | .makeSlice t l c => match slEl P t with
    | some e => match zeroOf P e, P.info? e with
      | some zs, some i => if i.size = 0 ∨ zs.length ≠ i.size then .bad else .mks (opd l) (opd c) zs i.bytes
      | _, _ => .bad
    | none => .bad
  | _ => .bad
def okI : IntKind → Int → Prop
  | .i64, n => -9223372036854775808 ≤ n ∧ n ≤ 9223372036854775807
  | .u8, n => 0 ≤ n ∧ n ≤ 255
  | .u64, n => 0 ≤ n ∧ n ≤ 18446744073709551615
  | k, n => k.wrap n = n
theorem okI_wrap {k : IntKind} {n : Int} (h : okI k n) : k.wrap n = n := by
  cases k <;> simp only [okI] at h <;> first | exact h | (simp only [IntKind.wrap, IntKind.signed, IntKind.bits]; simp; omega)
def arith (h : Nat) (k : IntKind) (n : Int) : Prop × V :=
  match h with
  | 0 => (True, .int k (k.wrap n))
  | _ => (okI k n, .int k n)
theorem arith_ok {h : Nat} {k : IntKind} {n : Int} (w : World) (g : Gh) (hp : (arith h k n).1) : VRep w g (arith h k n).2 (.int k (k.wrap n)) := by
  unfold arith at *
  split at hp
  · simp only [VRep]
  · simp only [VRep]
    rw [okI_wrap hp]
def binO (h : Nat) (op : BinOp) (x y : V) : Option (Prop × V) :=
  match x, y with
  | .int k a, .int k' b =>
    match op with
    | .shl => let r := arith h k (a * 2 ^ (min b.toNat k.bits)); some (0 ≤ b ∧ r.1, r.2)
    | .shr => some (0 ≤ b, .int k (a.fdiv (2 ^ (min b.toNat k.bits))))
    | .eql => if k = k' then some (True, .bool (decide (a = b))) else none
    | .neq => if k = k' then some (True, .bool (decide (a ≠ b))) else none
    | .lss => if k = k' then some (True, .bool (decide (a < b))) else none
    | .leq => if k = k' then some (True, .bool (decide (a ≤ b))) else none
    | .gtr => if k = k' then some (True, .bool (decide (b < a))) else none
    | .geq => if k = k' then some (True, .bool (decide (b ≤ a))) else none
    | .add => if k = k' then some (arith h k (a + b)) else none
    | .sub => if k = k' then some (arith h k (a - b)) else none
    | .mul => if k = k' then some (arith h k (a * b)) else none
    | .quo => if k = k' then let r := arith h k (a.tdiv b); some (b ≠ 0 ∧ r.1, r.2) else none
    | .rem => if k = k' then some (b ≠ 0, .int k (a.tmod b)) else none
    | .and => if k = k' then some (True, .int k (k.wrap (BitVec.ofInt k.bits a &&& BitVec.ofInt k.bits b).toNat)) else none
    | .or => if k = k' then some (True, .int k (k.wrap (BitVec.ofInt k.bits a ||| BitVec.ofInt k.bits b).toNat)) else none
    | .xor => if k = k' then some (True, .int k (k.wrap (BitVec.ofInt k.bits a ^^^ BitVec.ofInt k.bits b).toNat)) else none
    | _ => none
  | .str a, .str b =>
    match op with
    | .add => some (a.size + b.size ≤ 9223372036854775807, .str (a ++ b))
    | .eql => some (True, .bool (decide (a = b)))
    | .neq => some (True, .bool (decide (a ≠ b)))
    | _ => none
  | _, _ => none
theorem bytes_beq (a b : ByteArray) : (a.toList == b.toList) = decide (a = b) := by
  have key : a.toList = b.toList ↔ a = b := by
    constructor
    · intro h
      rw [ByteArray.toList_eq, ByteArray.toList_eq] at h
      cases a; cases b
      simp only [ByteArray.mk.injEq]
      exact Array.toList_inj.1 h
    · intro h; rw [h]
  by_cases h : a = b
  · subst h; simp
  · have : a.toList ≠ b.toList := fun e => h (key.1 e)
    simp [h, this]
theorem binO_ok {P : Program} {h : Nat} {op : BinOp} {t : TypeId} {x y z : V} {p : Prop} (hz : binO h op x y = some (p, z)) (hp : p) (w : World) {g : Gh} {u v : Value} (hx : VRep w g x u) (hy : VRep w g y v) :
    ∃ r, (binOp op t u v).run P w = .ok r w ∧ VRep w g z r := by
  unfold binO at hz
  split at hz
  · rename_i k a k' b
    simp only [VRep] at hx hy
    subst hx; subst hy
    split at hz
    case h_1 =>
      simp only [Option.some.injEq, Prod.mk.injEq] at hz
      obtain ⟨rfl, rfl⟩ := hz
      have h0 : ¬ b < 0 := by omega
      exact ⟨_, by simp [binOp, Op.shift, h0], arith_ok w g hp.2⟩
    case h_2 =>
      simp only [Option.some.injEq, Prod.mk.injEq] at hz
      obtain ⟨rfl, rfl⟩ := hz
      have h0 : ¬ b < 0 := by omega
      exact ⟨_, by simp [binOp, Op.shift, h0]; rfl, by simp only [VRep]⟩
    case h_17 => cases hz
    all_goals
      split at hz
      rotate_left
      · cases hz
      rename_i hk; subst hk
    case h_9 | h_10 | h_11 =>
      simp only [Option.some.injEq] at hz
      have e1 : p = (p, z).1 := rfl
      have e2 : z = (p, z).2 := rfl
      rw [← hz] at e1 e2
      subst e1; subst e2
      exact ⟨_, by simp only [binOp, ne_eq, not_true_eq_false, if_false]; rfl, arith_ok w g hp⟩
    case h_12 =>
      simp only [Option.some.injEq, Prod.mk.injEq] at hz
      obtain ⟨rfl, rfl⟩ := hz
      exact ⟨_, by simp [binOp, Op.intDiv, hp.1], arith_ok w g hp.2⟩
    case h_13 =>
      simp only [Option.some.injEq, Prod.mk.injEq] at hz
      obtain ⟨rfl, rfl⟩ := hz
      exact ⟨_, by simp [binOp, Op.intDiv, hp]; rfl, by simp only [VRep]⟩
    case h_4 =>
      simp only [Option.some.injEq, Prod.mk.injEq] at hz
      obtain ⟨rfl, rfl⟩ := hz
      refine ⟨_, by simp only [binOp, ne_eq, not_true_eq_false, if_false]; rfl, ?_⟩
      simp only [VRep]
      congr 1
      by_cases e : a = b <;> simp [e]
    all_goals
      simp only [Option.some.injEq, Prod.mk.injEq] at hz
      obtain ⟨rfl, rfl⟩ := hz
      refine ⟨_, by simp only [binOp, ne_eq, not_true_eq_false, if_false]; rfl, ?_⟩
      simp only [VRep]
      try congr 1
  · rename_i a b
    simp only [VRep] at hx hy
    subst hx; subst hy
    split at hz
    · simp only [Option.some.injEq, Prod.mk.injEq] at hz
      obtain ⟨rfl, rfl⟩ := hz
      have hn : ¬ (9223372036854775807 : Int) < ((a.size + b.size : Nat) : Int) := by omega
      exact ⟨_, by simp only [binOp, Op.stringOp]; rw [if_neg (by simpa [IntKind.max, IntKind.signed, IntKind.bits] using hn)]; rfl, by simp only [VRep]⟩
    · simp only [Option.some.injEq, Prod.mk.injEq] at hz
      obtain ⟨rfl, rfl⟩ := hz
      exact ⟨_, by simp only [binOp, Op.stringOp]; rfl, by simp only [VRep, bytes_beq]⟩
    · simp only [Option.some.injEq, Prod.mk.injEq] at hz
      obtain ⟨rfl, rfl⟩ := hz
      exact ⟨_, by simp only [binOp, Op.stringOp]; rfl, by simp only [VRep, bytes_beq, decide_not]⟩
    · cases hz
  · cases hz
theorem run_beq {P : Program} {t : TypeId} (ht : P.underlying t = some .bool) (a b : Bool) (w : World) :
    (binOp .eql t (.bool a) (.bool b)).run P w = .ok (.bool (a == b)) w ∧ (binOp .neq t (.bool a) (.bool b)).run P w = .ok (.bool (a != b)) w := by
  have e : (Op.equal t (.bool a) (.bool b)).run P w = .ok (a == b) w := by
    unfold Op.equal Op.maxDepth Op.equalIn
    simp only [Sem.run_bind, run_underlying ht, Result.andThen_ok, Sem.run_pure]
  constructor
  · simp only [binOp, Sem.run_bind, e, Result.andThen_ok, Sem.run_pure]
  · simp only [binOp, Sem.run_bind, e, Result.andThen_ok, Sem.run_pure]
    rfl
mutual
def T.toV (dep : Dep) : T → V
  | .int k n => .int k n
  | .bool b => .bool b
  | .str s => .str s
  | .sl _ sz rows => .sl dep sz rows
  | .ptr row => .rptr dep row 0
  | .fn f caps => .fn f (T.toVL dep caps)
  | .junk => .undef
  | .nl => match dep with
    | none => .nil
    | some _ => .undef
  | .val v => match dep with
    | none => .lit v
    | some _ => .undef
def T.toVL (dep : Dep) : List T → List V
  | [] => []
  | t :: ts => t.toV dep :: T.toVL dep ts
end
def T.own (dep : Dep) : T → V
  | .sl true sz rows => .sl dep sz rows
  | .sl false sz rows => .sl none sz rows
  | t => t.toV none
def T.ownL (dep : Dep) : List T → List V
  | [] => []
  | t :: ts => t.own dep :: T.ownL dep ts
mutual
theorem RoT.toV {w : World} {g : Gh} {dep : Dep} (hw : was g dep) : ∀ {t : T} {v : Value}, (live g dep → RoT w (okd g dep) t v) → (∀ f caps, t = .fn f caps → live g dep) → (∀ k n, t = .int k n → live g dep) → (∀ b, t = .bool b → live g dep) → (∀ s, t = .str s → live g dep) → VRep w g (t.toV dep) v
  | .int k n, v, h, _, hi, _, _ => by simpa only [T.toV, VRep, RoT] using h (hi k n rfl)
  | .bool b, v, h, _, _, hb, _ => by simpa only [T.toV, VRep, RoT] using h (hb b rfl)
  | .str s, v, h, _, _, _, hs => by simpa only [T.toV, VRep, RoT] using h (hs s rfl)
  | .sl _ sz rows, v, h, _, _, _, _ => by
    simp only [T.toV, VRep, RoT] at h ⊢
    exact ⟨hw, h⟩
  | .ptr row, v, h, _, _, _, _ => by
    simp only [T.toV, VRep, RoT] at h ⊢
    refine ⟨hw, fun hl => ?_⟩
    obtain ⟨b, o, xs, e, h1, h2, h3, h4⟩ := h hl
    exact ⟨b, o, xs, by rw [e, Nat.add_zero], h1, h2, h3, h4⟩
  | .fn f caps, v, h, hf, _, _, _ => by
    simp only [T.toV, VRep, RoT] at h ⊢
    have hl := hf f caps rfl
    obtain ⟨cs, e, hc⟩ := h hl
    exact ⟨cs, e, RoL.toV hw hl hc⟩
  | .junk, v, _, _, _, _, _ => by simp only [T.toV, VRep]
  | .nl, v, h, _, _, _, _ => by
    cases dep with
    | none => simpa only [T.toV, VRep, RoT] using h trivial
    | some kn => simp only [T.toV, VRep]
  | .val x, v, h, _, _, _, _ => by
    cases dep with
    | none => simpa only [T.toV, VRep, RoT] using h trivial
    | some kn => simp only [T.toV, VRep]
theorem RoL.toV {w : World} {g : Gh} {dep : Dep} (hw : was g dep) (hl : live g dep) : ∀ {ts : List T} {vs : List Value}, RoL w (okd g dep) ts vs → VRepL w g (T.toVL dep ts) vs
  | [], vs, h => by simpa only [T.toVL, VRepL, RoL] using h
  | t :: ts, vs, h => by
    simp only [T.toVL, VRepL, RoL] at h ⊢
    obtain ⟨u, us, e, h1, h2⟩ := h
    exact ⟨u, us, e, RoT.toV hw (fun _ => h1) (fun _ _ _ => hl) (fun _ _ _ => hl) (fun _ _ => hl) (fun _ _ => hl), RoL.toV hw hl h2⟩
end
theorem OwT.toV {w : World} {g : Gh} {κ : Nat} {t : T} {S : Nat → Prop} {v : Value} (hS : ∀ b, S b → g.fp κ b) (h : OwT w g.fz t S v) : VRep w g (t.own (some (κ, g.top κ))) v := by
  have hro : RoT w (okd g (some (κ, g.top κ))) t v := h.ro (fun b hb => .inl hb) (fun b _ hb => .inr (hS b hb))
  have hn : ∀ {t : T}, RoT w g.fz t v → VRep w g (t.toV none) v := fun h => RoT.toV (dep := none) trivial (fun _ => h) (fun _ _ _ => trivial) (fun _ _ _ => trivial) (fun _ _ => trivial) (fun _ _ => trivial)
  cases t with
  | sl o sz rows =>
    cases o with
    | true =>
      simp only [T.own, VRep]
      exact ⟨Nat.le_refl _, fun _ => by simpa only [RoT] using hro⟩
    | false =>
      simp only [OwT] at h
      simpa only [T.own, T.toV] using hn h
  | int k n => exact hn (by simpa only [OwT, RoT] using h)
  | bool b => exact hn (by simpa only [OwT, RoT] using h)
  | str s => exact hn (by simpa only [OwT, RoT] using h)
  | ptr row => exact hn (by simpa only [OwT] using h)
  | fn f caps => exact hn (by simpa only [OwT] using h)
  | junk => exact hn (by simp only [RoT])
  | nl => exact hn (by simpa only [OwT, RoT] using h)
  | val x => exact hn (by simpa only [OwT, RoT] using h)
theorem OwL.toV {w : World} {g : Gh} {κ : Nat} : ∀ {ts : List T} {S : Nat → Prop} {vs : List Value}, (∀ b, S b → g.fp κ b) → OwL w g.fz ts S vs → VRepL w g (T.ownL (some (κ, g.top κ)) ts) vs
  | [], _, vs, _, h => by simpa only [T.ownL, VRepL, OwL] using h
  | t :: ts, S, vs, hS, h => by
    simp only [T.ownL, VRepL, OwL] at h ⊢
    obtain ⟨u, us, S1, S2, e, h3, h4, h1, h2⟩ := h
    exact ⟨u, us, e, OwT.toV (fun b hb => hS b (h3 b hb).1) h1, OwL.toV (fun b hb => hS b (h4 b hb)) h2⟩
def V.scalar : V → Bool
  | .agg _ | .tup _ | .opt .. | .undef => false
  | .lit v => match v with
    | .slice .. => true
    | _ => false
  | _ => true
def V.cells : V → List V
  | .agg vs => vs
  | x => [x]
theorem VRepL.get {w : World} {g : Gh} : ∀ {xs : List V} {vs : List Value} {i : Nat} {x : V}, VRepL w g xs vs → xs[i]? = some x → ∃ v, vs[i]? = some v ∧ VRep w g x v
  | [], _, i, x, _, h => by simp at h
  | y :: ys, vs, i, x, hr, h => by
    simp only [VRepL] at hr
    obtain ⟨u, us, rfl, h1, h2⟩ := hr
    cases i with
    | zero => simp at h; subst h; exact ⟨u, rfl, h1⟩
    | succ i => simpa using VRepL.get h2 (by simpa using h)
theorem VRepL.drop {w : World} {g : Gh} : ∀ {xs : List V} {vs : List Value} (n : Nat), VRepL w g xs vs → VRepL w g (xs.drop n) (vs.drop n)
  | xs, vs, 0, hr => by simpa using hr
  | [], vs, n + 1, hr => by simp only [VRepL] at hr; subst hr; simp [VRepL]
  | y :: ys, vs, n + 1, hr => by
    simp only [VRepL] at hr
    obtain ⟨u, us, rfl, h1, h2⟩ := hr
    simpa using VRepL.drop n h2
theorem VRepL.take {w : World} {g : Gh} : ∀ {xs : List V} {vs : List Value} (n : Nat), VRepL w g xs vs → VRepL w g (xs.take n) (vs.take n)
  | xs, vs, 0, hr => by simp [VRepL]
  | [], vs, n + 1, hr => by simp only [VRepL] at hr; subst hr; simp [VRepL]
  | y :: ys, vs, n + 1, hr => by
    simp only [VRepL] at hr
    obtain ⟨u, us, rfl, h1, h2⟩ := hr
    simp only [List.take_succ_cons, VRepL]
    exact ⟨u, _, rfl, h1, VRepL.take n h2⟩
theorem VRepL.append {w : World} {g : Gh} : ∀ {xs ys : List V} {us vs : List Value}, VRepL w g xs us → VRepL w g ys vs → VRepL w g (xs ++ ys) (us ++ vs)
  | [], ys, us, vs, h1, h2 => by simp only [VRepL] at h1; subst h1; simpa using h2
  | x :: xs, ys, us, vs, h1, h2 => by
    simp only [VRepL, List.cons_append] at h1 ⊢
    obtain ⟨u, us', rfl, h3, h4⟩ := h1
    exact ⟨u, us' ++ vs, by simp, h3, VRepL.append h4 h2⟩
theorem VRep.one {w : World} {g : Gh} {x : V} {v : Value} (h : VRep w g x v) (hs : x.scalar = true) (hl : ∀ dep sz rows, x = .sl dep sz rows → live g dep) (hr : ∀ dep row j, x = .rptr dep row j → live g dep) : v.oneCell' = true ∧ v.cells = #[v] := by
  cases x <;> simp only [V.scalar, Bool.false_eq_true] at hs <;> simp only [VRep] at h
  case lit c => subst h; cases v <;> simp only [Bool.false_eq_true] at hs; exact ⟨rfl, rfl⟩
  case int | bool | str => subst h; exact ⟨rfl, rfl⟩
  case vptr => obtain ⟨_, _, rfl⟩ := h; exact ⟨rfl, rfl⟩
  case nil => obtain ⟨b, rfl⟩ := h; exact ⟨rfl, rfl⟩
  case sl dep sz rows =>
    have := h.2 (hl _ _ _ rfl)
    simp only [RoT] at this
    obtain ⟨_, _, _, rfl, _⟩ := this
    exact ⟨rfl, rfl⟩
  case ref => obtain ⟨_, _, _, _, _, _, rfl, _⟩ := h; exact ⟨rfl, rfl⟩
  case eptr => obtain ⟨_, _, _, _, rfl⟩ := h; exact ⟨rfl, rfl⟩
  case rptr dep row j => obtain ⟨_, _, _, rfl, _⟩ := h.2 (hr _ _ _ rfl); exact ⟨rfl, rfl⟩
  case fn => obtain ⟨_, rfl, _⟩ := h; exact ⟨rfl, rfl⟩
  case hm => obtain ⟨⟨_, _, _, _, _, rfl⟩, _⟩ := h; exact ⟨rfl, rfl⟩
  case hv => obtain ⟨_, _, _, _, _, _, rfl⟩ := h; exact ⟨rfl, rfl⟩
def partV (vs : List V) (off sz : Nat) (agg : Bool) : Option V :=
  match agg with
  | true => if off + sz ≤ vs.length then some (.agg ((vs.drop off).take sz)) else none
  | false => vs[off]?
theorem run_isAgg {P : Program} {t : TypeId} {b : Bool} (h : isAggT P t = some b) (w : World) : (Go.isAgg t).run P w = .ok b w := by
  unfold isAggT at h
  cases hu : P.underlying t with
  | none => rw [hu] at h; cases h
  | some d =>
    rw [hu] at h
    unfold Go.isAgg
    rw [Sem.run_bind, run_underlying hu]
    cases d <;> simp at h <;> subst h <;> rfl
theorem run_sizeOf' {P : Program} {t : TypeId} {n : Nat} (h : tySz P t = some n) (w : World) : (Go.sizeOf t).run P w = .ok n w := by
  unfold tySz at h
  cases hi : P.info? t with
  | none => rw [hi] at h; cases h
  | some i =>
    rw [hi] at h
    cases h
    simp [Go.sizeOf, Go.typeInfo, hi]
theorem partV_ok {P : Program} {t : TypeId} {sz : Nat} {b : Bool} (hs : tySz P t = some sz) (hb : isAggT P t = some b) {w : World} {g : Gh} {vs : List V} {cs : List Value}
    (hr : VRepL w g vs cs) {off : Nat} {x : V} (hx : partV vs off sz b = some x) : ∃ v, (Go.part t cs.toArray off).run P w = .ok v w ∧ VRep w g x v := by
  unfold partV at hx
  unfold Go.part
  rw [Sem.run_bind, run_isAgg hb]
  cases b with
  | true =>
    simp only [if_true] at hx
    split at hx
    · rename_i hle
      cases hx
      refine ⟨.agg ((cs.drop off).take sz).toArray, ?_, ?_⟩
      · simp only [Result.andThen_ok, if_true, Sem.run_bind, run_sizeOf' hs]
        simp only [Result.andThen_ok, Sem.run_pure]
        congr 2
        apply Array.ext'
        simp [List.extract_eq_take_drop]
      · simp only [VRep]
        exact ⟨_, rfl, (hr.drop off).take sz⟩
    · cases hx
  | false =>
    simp only [Bool.false_eq_true, if_false] at hx
    obtain ⟨v, hv, hxv⟩ := hr.get hx
    refine ⟨v, ?_, hxv⟩
    simp [hv]
def liveD (M : Nat → Option Mem) : Dep → Prop
  | none => True
  | some (κ, n) => match M κ with
    | some (.arr A) => A.ver = n
    | _ => False
theorem liveD_ok {E : Env} {nt : Nat} {s : SF} {g : Gh} {a : Act} {w : World} (h : Sim E nt s g a w) {dep : Dep} (hl : liveD s.M dep) : live g dep := by
  cases dep with
  | none => trivial
  | some kn =>
    obtain ⟨κ, n⟩ := kn
    simp only [liveD] at hl
    split at hl
    · rename_i A hA
      obtain ⟨_, _, _, ht, _⟩ := h.mem κ _ hA
      simp only [live]
      omega
    · exact hl.elim
def bnd (F : Nat → Option V) (df : Int) : Option Opd → Option Int
  | none => some df
  | some o => match ev F o with
    | some (.int _ n) => some n
    | _ => none
def isZ : Option Opd → Bool
  | some (.i _ 0) => true
  | _ => false
def fillO (F : Nat → Option V) (cells : List V) : List (Nat × Nat × Opd) → Option (List V)
  | [] => some cells
  | (off, n, o) :: l => match ev F o with
    | some x => if x.cells.length = n ∧ x.cells.all V.scalar = true ∧ off + n ≤ cells.length then fillO F (cells.take off ++ x.cells ++ cells.drop (off + n)) l else none
    | none => none
def evL (F : Nat → Option V) : List Opd → Option (List V)
  | [] => some []
  | o :: l => match ev F o, evL F l with
    | some x, some xs => some (x :: xs)
    | _, _ => none
def eqV : Nat → V → V → Option Bool
  | 1, .int k a, .int k' b => if k = k' then some (decide (a = b)) else none
  | 0, .bool a, .bool b => some (a == b)
  | 2, .str a, .str b => some (decide (a = b))
  | _, _, _ => none
def eqVL : List Nat → List V → List V → Option Bool
  | [], [], [] => some true
  | k :: ks, x :: xs, y :: ys => match eqV k x y, eqVL ks xs ys with
    | some a, some b => some (a && b)
    | _, _ => none
  | _, _, _ => none
def mnxI (mx : Bool) (a b : Int) : Int :=
  match mx with
  | true => if b > a then b else a
  | false => if b < a then b else a
def liveV (M : Nat → Option Mem) : V → Prop
  | .sl dep _ _ => liveD M dep
  | .rptr dep _ _ => liveD M dep
  | _ => True
def liveL (M : Nat → Option Mem) : List V → Prop
  | [] => True
  | x :: xs => liveV M x ∧ liveL M xs
def liveO (F : Nat → Option V) (M : Nat → Option Mem) : List Opd → Prop
  | [] => True
  | o :: l => (match ev F o with
    | some x => liveL M x.cells
    | none => True) ∧ liveO F M l
def qO (F : Nat → Option V) (M : Nat → Option Mem) (h : Nat) : AOp → Option (Prop × V)
  | .mv x => (ev F x).map fun v => (True, v)
  | .pick c a b => match ev F c with
    | some (.bool true) => (ev F a).map fun v => (True, v)
    | some (.bool false) => (ev F b).map fun v => (True, v)
    | _ => none
  | .bin op x y => match ev F x, ev F y with
    | some x, some y => binO h op x y
    | _, _ => none
  | .beq n x y => match ev F x, ev F y with
    | some (.bool a), some (.bool b) => some (True, .bool (match n with | false => a == b | true => a != b))
    | _, _ => none
  | .not x => match ev F x with
    | some (.bool b) => some (True, .bool !b)
    | _ => none
  | .neg x => match ev F x with
    | some (.int k n) => some (arith h k (0 - n))
    | _ => none
  | .ext x i => match ev F x with
    | some (.tup vs) => vs[i]?.map fun v => (True, v)
    | _ => none
  | .fld x off n agg => match ev F x with
    | some (.agg vs) => (partV vs off n agg).map fun v => (True, v)
    | _ => none
  | .fad x off => match ev F x with
    | some (.vptr d j) => some (True, .vptr d (j + off))
    | some (.eptr κ i j) => some (True, .eptr κ i (j + off))
    | some (.rptr dep row j) => some (liveD M dep, .rptr dep row (j + off))
    | _ => none
  | .nck x => match ev F x with
    | some (.vptr d j) => some (True, .vptr d j)
    | some (.eptr κ i j) => some (True, .eptr κ i j)
    | some (.rptr dep row j) => some (liveD M dep, .rptr dep row j)
    | _ => none
  | .idx x i n => match ev F x, ev F i with
    | some (.ref κ off len), some (.int _ k) => match M κ with
      | some (.arr A) => some (A.sz = n ∧ 0 ≤ k ∧ k < len ∧ off + len ≤ A.rows.length, .eptr κ (off + k.toNat) 0)
      | _ => none
    | _, _ => none
  | .ixa x i len n => match ev F x, ev F i with
    | some (.vptr d j), some (.int _ k) => some (0 ≤ k ∧ k < len, .vptr d (j + k.toNat * n))
    | _, _ => none
  | .six x i => match ev F x, ev F i with
    | some (.str s), some (.int _ k) => some (0 ≤ k ∧ k < s.size, .int .u8 (s.data.getD k.toNat 0).toNat)
    | _, _ => none
  | .load x n agg => match ev F x with
    | some (.vptr d j) => match M d with
      | some (.var cells) => (partV cells j n agg).map fun v => (True, v)
      | _ => none
    | some (.rptr dep row j) => (partV (T.toVL dep row) j n agg).map fun v => (liveD M dep, v)
    | _ => none
  | .sls x lo hi => match ev F x with
    | some (.str s) => match bnd F 0 lo, bnd F s.size hi with
      | some l, some h => some (0 ≤ l ∧ l ≤ h ∧ h ≤ s.size, .str (s.extract l.toNat h.toNat))
      | _, _ => none
    | _ => none
  | .sll x lo hi mx n => match ev F x with
    | some (.sl dep sz rows) => match isZ mx && isZ hi with
      | true => match bnd F 0 lo with
        | some 0 => some (liveD M dep, .nil)
        | _ => none
      | false => match bnd F 0 lo, bnd F rows.length hi, bnd F rows.length mx with
        | some l, some h, some m => some (liveD M dep ∧ (sz = n ∨ rows = []) ∧ (mx.isSome = true → hi.isSome = true) ∧ 0 ≤ l ∧ l ≤ h ∧ h ≤ m ∧ m ≤ rows.length, .sl dep sz ((rows.take h.toNat).drop l.toNat))
        | _, _, _ => none
    | some (.ref κ off len) => match M κ with
      | some (.arr A) => match isZ mx && isZ hi with
        | true => match bnd F 0 lo with
          | some 0 => some (True, .nil)
          | _ => none
        | false => match mx with
          | none => match bnd F 0 lo, bnd F len hi with
            | some l, some h => some (A.sz = n ∧ 0 ≤ l ∧ l ≤ h ∧ off + h ≤ A.rows.length ∧ (off = 0 ∨ h ≤ len), .ref κ (off + l.toNat) (h - l).toNat)
            | _, _ => none
          | some _ => match bnd F 0 lo, bnd F len hi, bnd F len mx with
            | some l, some h, some m => some (A.sz = n ∧ hi.isSome = true ∧ 0 ≤ l ∧ l ≤ h ∧ h ≤ m ∧ off + m ≤ A.rows.length ∧ (off = 0 ∨ h ≤ len), .sl (some (κ, A.ver)) A.sz ((A.rows.drop (off + l.toNat)).take (h - l).toNat))
            | _, _, _ => none
      | _ => none
    | some .nil => match bnd F 0 lo, bnd F 0 hi, bnd F 0 mx with
      | some 0, some 0, some 0 => if mx.isSome = true ∧ hi.isSome = false then none else some (True, .nil)
      | _, _, _ => none
    | _ => none
  | .bld zs ps => (fillO F zs ps).map fun out => (liveO F M (ps.map (·.2.2)), .agg out)
  | .cvi k x => match ev F x with
    | some (.int _ n) => some (arith h k n)
    | _ => none
  | .cid x => match ev F x with
    | some (.str s) => some (True, .str s)
    | _ => none
  | .mkf f caps => (evL F caps).map fun cs => (True, .fn f cs)
  | .slen x => match ev F x with
    | some (.str s) => some (True, .int .i64 s.size)
    | _ => none
  | .len x => match ev F x with
    | some .nil => some (True, .int .i64 0)
    | some (.sl dep _ rows) => some (liveD M dep, .int .i64 rows.length)
    | some (.ref _ _ n) => some (True, .int .i64 n)
    | _ => none
  | .cap x => match ev F x with
    | some (.ref κ off _) => match M κ with
      | some (.arr A) => match A.cap with
        | some c => some (off ≤ c, .int .i64 ((c - off : Nat) : Int))
        | none => none
      | _ => none
    | _ => none
  | .mnx mx xs => match evL F xs with
    | some [.int k a, .int k' b] => some (k = k', .int k (mnxI mx a b))
    | some [.int k a, .int k' b, .int k'' c] => some (k = k' ∧ k = k'', .int k (mnxI mx (mnxI mx a b) c))
    | _ => none
  | .eqa ng x y ks => match ev F x, ev F y with
    | some (.agg xs), some (.agg ys) => (eqVL ks xs ys).map fun b => (True, .bool (match ng with | false => b | true => !b))
    | _, _ => none
  | _ => none
def Quiet (P : Program) (E : Env) (nt : Nat) (o : Oper) (s : SF) (v : V) : Prop :=
  ∀ g a w, Sim E nt s g a w → ∃ u, (execOp a.eval o).run P w = .ok (.value u) w ∧ VRep w g v u
theorem fInfo_spec {P : Program} {t : TypeId} {f : Nat} {i : FInfo} (h : fInfo P t f = some i) :
    ∃ fs fd, P.underlying t = some (.struct fs) ∧ fs[f]? = some fd ∧ fd.offset = i.off ∧ tySz P fd.type = some i.sz ∧ isAggT P fd.type = some i.agg := by
  unfold fInfo at h
  split at h
  · rename_i fs hu
    split at h
    · rename_i fd hf
      split at h
      · rename_i n b hn hb
        cases h
        exact ⟨fs, fd, hu, hf, rfl, hn, hb⟩
      · cases h
    · cases h
  · cases h
theorem run_fieldPlace {P : Program} {fd : Field} {n : Nat} (hn : tySz P fd.type = some n) (h0 : n ≠ 0) (a : Addr) (w : World) : (Go.fieldPlace a fd).run P w = .ok (a.add fd.offset) w := by
  unfold Go.fieldPlace
  rw [Sem.run_bind, run_sizeOf' hn]
  simp [h0]
theorem add_mk (b o n : Nat) : (⟨b, o, none⟩ : Addr).add n = ⟨b, o + n, none⟩ := by
  unfold Addr.add
  split
  · rename_i h; simp [h]
  · rfl
theorem evL_ok {E : Env} {nt : Nat} {s : SF} {g : Gh} {a : Act} {w : World} (h : Sim E nt s g a w) : ∀ {l : List Operand} {xs : List V}, evL s.F (l.map opd) = some xs → VRepL w g xs (l.map a.eval)
  | [], xs, e => by simp [evL] at e; subst e; simp [VRepL]
  | o :: l, xs, e => by
    simp only [List.map_cons, evL] at e
    split at e
    · rename_i x ys h1 h2
      cases e
      simp only [List.map_cons, VRepL]
      exact ⟨_, _, rfl, ev_ok h h1, evL_ok h h2⟩
    · cases e
section
variable {P : Program} {E : Env} {nt : Nat} {o : Oper} {s : SF} {h : Nat} {p : Prop} {v : V}
theorem q_mv {x : Operand} (ho : o.op = .move x ∨ o.op = .assign x) (hq : qO s.F s.M h (.mv (opd x)) = some (p, v)) : Quiet P E nt o s v := by
  intro g a w hs
  simp only [qO, Option.map_eq_some_iff, Prod.mk.injEq] at hq
  obtain ⟨y, hy, _, rfl⟩ := hq
  refine ⟨a.eval x, ?_, ev_ok hs hy⟩
  unfold execOp
  rcases ho with ho | ho <;> (rw [ho]; rfl)
theorem q_pick {c x y : Operand} (ho : o.op = .pick c x y) (hq : qO s.F s.M h (.pick (opd c) (opd x) (opd y)) = some (p, v)) : Quiet P E nt o s v := by
  intro g a w hs
  simp only [qO] at hq
  unfold execOp
  rw [ho]; dsimp only
  split at hq
  · rename_i hc
    simp only [Option.map_eq_some_iff, Prod.mk.injEq] at hq
    obtain ⟨z, hz, _, rfl⟩ := hq
    have := ev_ok hs hc
    simp only [VRep] at this
    exact ⟨_, by simp only [this]; rfl, ev_ok hs hz⟩
  · rename_i hc
    simp only [Option.map_eq_some_iff, Prod.mk.injEq] at hq
    obtain ⟨z, hz, _, rfl⟩ := hq
    have := ev_ok hs hc
    simp only [VRep] at this
    exact ⟨_, by simp only [this]; rfl, ev_ok hs hz⟩
  · cases hq
theorem q_bin {op : BinOp} {t ty : TypeId} {x y : Operand} (ho : o.op = .binOp op t x y ty) (hq : qO s.F s.M h (.bin op (opd x) (opd y)) = some (p, v)) (hp : p) : Quiet P E nt o s v := by
  intro g a w hs
  simp only [qO] at hq
  unfold execOp
  rw [ho]; dsimp only
  split at hq
  · rename_i x' y' hx hy
    have h1 := ev_ok hs hx
    have h2 := ev_ok hs hy
    obtain ⟨r, hr, hz⟩ := binO_ok (P := P) (t := t) hq hp w h1 h2
    refine ⟨r, ?_, hz⟩
    have hg : (eqGuard op t x y (a.eval x) (a.eval y)).run P w = .ok () w := by
      unfold eqGuard
      unfold binO at hq
      split at hq <;> (try (simp only [VRep] at h1)) <;> try (cases hq)
      all_goals (rw [h1]; cases op <;> simp)
    simp only [Sem.run_bind, hg, Result.andThen_ok, hr]
    rfl
  · cases hq
theorem q_beq {ng : Bool} {t ty : TypeId} {x y : Operand} (ho : o.op = .binOp (match ng with | false => .eql | true => .neq) t x y ty) (ht : P.underlying t = some .bool) (hq : qO s.F s.M h (.beq ng (opd x) (opd y)) = some (p, v)) : Quiet P E nt o s v := by
  intro g a w hs
  simp only [qO] at hq
  unfold execOp
  rw [ho]; dsimp only
  split at hq
  · rename_i x' y' hx hy
    simp only [Option.some.injEq, Prod.mk.injEq] at hq
    obtain ⟨_, rfl⟩ := hq
    have h1 := ev_ok hs hx
    have h2 := ev_ok hs hy
    simp only [VRep] at h1 h2
    obtain ⟨r1, r2⟩ := run_beq (P := P) ht x' y' w
    have hg : ∀ op, (eqGuard op t x y (.bool x') (.bool y')).run P w = .ok () w := by
      intro op
      unfold eqGuard
      cases op <;> simp
    cases ng
    · exact ⟨.bool (x' == y'), by simp only [Sem.run_bind, hg, Result.andThen_ok, h1, h2, r1, Sem.run_pure], by simp only [VRep]⟩
    · exact ⟨.bool (x' != y'), by simp only [Sem.run_bind, hg, Result.andThen_ok, h1, h2, r2, Sem.run_pure], by simp only [VRep]⟩
  · cases hq
theorem q_not {t : TypeId} {x : Operand} (ho : o.op = .unOp .not t x) (hq : qO s.F s.M h (.not (opd x)) = some (p, v)) : Quiet P E nt o s v := by
  intro g a w hs
  simp only [qO] at hq
  unfold execOp
  rw [ho]; dsimp only
  split at hq
  · rename_i b hb
    cases hq
    have := ev_ok hs hb
    simp only [VRep] at this
    exact ⟨_, by simp only [this]; rfl, by simp only [VRep]⟩
  · cases hq
theorem q_neg {t : TypeId} {x : Operand} (ho : o.op = .unOp .neg t x) (hq : qO s.F s.M h (.neg (opd x)) = some (p, v)) (hp : p) : Quiet P E nt o s v := by
  intro g a w hs
  simp only [qO] at hq
  unfold execOp
  rw [ho]; dsimp only
  split at hq
  · rename_i k n hb
    simp only [Option.some.injEq] at hq
    have e1 : p = (p, v).1 := rfl
    have e2 : v = (p, v).2 := rfl
    rw [← hq] at e1 e2
    subst e1; subst e2
    have := ev_ok hs hb
    simp only [VRep] at this
    exact ⟨_, by simp only [this]; rfl, arith_ok w g hp⟩
  · cases hq
theorem q_ext {x : Operand} {i : Nat} (ho : o.op = .extract x i) (hq : qO s.F s.M h (.ext (opd x) i) = some (p, v)) : Quiet P E nt o s v := by
  intro g a w hs
  simp only [qO] at hq
  unfold execOp
  rw [ho]; dsimp only
  split at hq
  · rename_i vs hb
    simp only [Option.map_eq_some_iff, Prod.mk.injEq] at hq
    obtain ⟨z, hz, _, rfl⟩ := hq
    have := ev_ok hs hb
    simp only [VRep] at this
    obtain ⟨cs, hcs, hl⟩ := this
    obtain ⟨u, hv, hxv⟩ := hl.get hz
    refine ⟨u, ?_, hxv⟩
    rw [hcs]
    simp [Instr.extract, hv]
  · cases hq
theorem q_fld {t : TypeId} {x : Operand} {f : Nat} {i : FInfo} (ho : o.op = .field t x f) (hi : fInfo P t f = some i) (hq : qO s.F s.M h (.fld (opd x) i.off i.sz i.agg) = some (p, v)) : Quiet P E nt o s v := by
  intro g a w hs
  simp only [qO] at hq
  unfold execOp
  rw [ho]; dsimp only
  split at hq
  · rename_i vs hb
    simp only [Option.map_eq_some_iff, Prod.mk.injEq] at hq
    obtain ⟨z, hz, _, rfl⟩ := hq
    have := ev_ok hs hb
    simp only [VRep] at this
    obtain ⟨cs, hcs, hl⟩ := this
    obtain ⟨fs, fd, hu, hfd, hoff, hsz, hag⟩ := fInfo_spec hi
    obtain ⟨u, hv, hxv⟩ := partV_ok hsz hag hl hz
    refine ⟨u, ?_, hxv⟩
    rw [hcs]
    simp [Instr.field, run_underlying hu, hfd, asAgg, hoff, hv]
  · cases hq
theorem q_fad {t : TypeId} {x : Operand} {f : Nat} {i : FInfo} (ho : o.op = .fieldAddr t x f) (hi : fInfo P t f = some i) (h0 : i.sz ≠ 0) (hq : qO s.F s.M h (.fad (opd x) i.off) = some (p, v)) (hp : p) : Quiet P E nt o s v := by
  intro g a w hs
  obtain ⟨fs, fd, hu, hfd, hoff, hsz, hag⟩ := fInfo_spec hi
  simp only [qO] at hq
  unfold execOp
  rw [ho]; dsimp only
  split at hq
  · rename_i d j hb
    cases hq
    have := ev_ok hs hb
    simp only [VRep] at this ⊢
    obtain ⟨b, hbv, e⟩ := this
    refine ⟨_, ?_, b, hbv, rfl⟩
    rw [e]
    simp [Instr.fieldAt, run_underlying hu, hfd, Instr.sureAddr, run_fieldPlace hsz h0, hoff, add_mk]
  · rename_i κ r j hb
    cases hq
    have := ev_ok hs hb
    simp only [VRep] at this ⊢
    obtain ⟨b, cap, sz, hab, e⟩ := this
    refine ⟨_, ?_, b, cap, sz, hab, rfl⟩
    rw [e]
    simp [Instr.fieldAt, run_underlying hu, hfd, Instr.sureAddr, run_fieldPlace hsz h0, hoff, add_mk, Nat.add_assoc]
  · rename_i dep row j hb
    cases hq
    have := ev_ok hs hb
    have hl := liveD_ok hs hp
    simp only [VRep] at this ⊢
    obtain ⟨hw, hr⟩ := this
    obtain ⟨b, o', xs, e, hlt, hok, hrow, hcell⟩ := hr hl
    refine ⟨_, ?_, hw, fun _ => ⟨b, o', xs, rfl, hlt, hok, hrow, hcell⟩⟩
    rw [e]
    simp [Instr.fieldAt, run_underlying hu, hfd, Instr.sureAddr, run_fieldPlace hsz h0, hoff, add_mk, Nat.add_assoc]
  · cases hq
theorem q_nck {x : Operand} (ho : o.op = .nilCheck x) (hq : qO s.F s.M h (.nck (opd x)) = some (p, v)) (hp : p) : Quiet P E nt o s v := by
  intro g a w hs
  simp only [qO] at hq
  unfold execOp
  rw [ho]; dsimp only
  split at hq
  · rename_i hb
    cases hq
    have := ev_ok hs hb
    refine ⟨_, ?_, this⟩
    simp only [VRep] at this
    obtain ⟨b, hbv, e⟩ := this
    rw [e]; rfl
  · rename_i hb
    cases hq
    have := ev_ok hs hb
    refine ⟨_, ?_, this⟩
    simp only [VRep] at this
    obtain ⟨b, cap, sz, hab, e⟩ := this
    rw [e]; rfl
  · rename_i hb
    cases hq
    have := ev_ok hs hb
    refine ⟨_, ?_, this⟩
    simp only [VRep] at this
    obtain ⟨hw, hr⟩ := this
    obtain ⟨b, o', xs, e, _⟩ := hr (liveD_ok hs hp)
    rw [e]; rfl
  · cases hq
theorem q_load {t : TypeId} {ad : Operand} {n : Nat} {agg : Bool} (ho : o.op = .load t ad) (hn : tySz P t = some n) (hb : isAggT P t = some agg) (hq : qO s.F s.M h (.load (opd ad) n agg) = some (p, v)) (hp : p) : Quiet P E nt o s v := by
  intro g a w hs
  simp only [qO] at hq
  have key : ∀ (b off j : Nat) (vs : List V) (cs : List Value), a.eval ad = .pointer (some ⟨b, off + j, none⟩) → VRepL w g vs cs → (∀ i u, cs[i]? = some u → w.cell? ⟨b, off + i, none⟩ = some u) → partV vs j n agg = some v →
      ∃ u, (execOp a.eval o).run P w = .ok (.value u) w ∧ VRep w g v u := by
    intro b off j vs cs he hr hc hpv
    have hlen := hr.length
    unfold execOp
    rw [ho]; dsimp only
    rw [he]
    unfold partV at hpv
    cases agg with
    | true =>
      simp only at hpv
      split at hpv
      · rename_i hle
        cases hpv
        have hl : ((cs.drop j).take n).length = n := by simp; omega
        have hcells : ∀ i u, ((cs.drop j).take n)[i]? = some u → w.cell? ((⟨b, off + j, none⟩ : Addr).add i) = some u := by
          intro i u hi
          rw [add_mk, Nat.add_assoc]
          refine hc (j + i) u ?_
          have := List.getElem?_eq_some_iff.1 hi
          obtain ⟨h1, h2⟩ := this
          rw [List.getElem?_take_of_lt (by rw [hl] at h1; exact h1), List.getElem?_drop] at hi
          exact hi
        have hld := run_loadCells_list (P := P) w ⟨b, off + j, none⟩ _ hcells
        rw [hl] at hld
        refine ⟨.agg ((cs.drop j).take n).toArray, ?_, ?_⟩
        · simp [loadVar, Instr.loadAt, Instr.sureAddr, run_isAgg hb, run_sizeOf' hn, hld]
        · simp only [VRep]
          exact ⟨_, rfl, (hr.drop j).take n⟩
      · cases hpv
    | false =>
      simp only at hpv
      obtain ⟨u, hu, hv⟩ := hr.get hpv
      have := hc j u hu
      refine ⟨u, ?_, hv⟩
      simp [loadVar, Instr.loadAt, Instr.sureAddr, run_isAgg hb, this]
  split at hq
  · rename_i d j hb'
    split at hq
    · rename_i cells hd
      simp only [Option.map_eq_some_iff, Prod.mk.injEq] at hq
      obtain ⟨z, hz, _, rfl⟩ := hq
      have := ev_ok hs hb'
      simp only [VRep] at this
      obtain ⟨b, hbv, e⟩ := this
      obtain ⟨b', cur, el, h1, h2, h3⟩ := hs.mem d _ hd
      rw [hbv] at h1
      cases h1
      refine key b 0 j cells cur.toList (by rw [e, Nat.zero_add]) h3 (fun i u hi => ?_) hz
      simp only [World.cell?, h2, Nat.zero_add]
      simpa using hi
    · cases hq
  · rename_i dep row j hb'
    simp only [Option.map_eq_some_iff, Prod.mk.injEq] at hq
    obtain ⟨z, hz, rfl, rfl⟩ := hq
    have := ev_ok hs hb'
    have hl := liveD_ok hs hp
    simp only [VRep] at this
    obtain ⟨hw, hr⟩ := this
    obtain ⟨b, o', xs, e, hlt, hok, hrow, hcell⟩ := hr hl
    exact key b o' j _ xs e (RoL.toV hw hl hrow) hcell hz
  · cases hq
end
theorem ba_empty {s : ByteArray} (h : s.size = 0) : s = ByteArray.empty := by
  cases s with
  | mk a =>
    have : a.size = 0 := h
    rw [Array.eq_empty_of_size_eq_zero this]
    rfl
theorem zeroOne_ok {w : World} {g : Gh} {x : V} {y : Value} (h : zeroOne x y = true) : VRep w g x y := by
  unfold zeroOne at h
  split at h
  · simp at h; subst h; simp only [VRep]
  · simp only [VRep]
  · simp only [Bool.and_eq_true, decide_eq_true_eq] at h
    simp only [VRep]
    rw [ba_empty h.1, ba_empty h.2]
  · simp only [VRep]; exact ⟨none, rfl⟩
  · simp only [VRep]
  · cases h
theorem zeroLike_ok {w : World} {g : Gh} : ∀ {vs : List V} {cs : List Value}, zeroLike vs cs = true → VRepL w g vs cs
  | [], [], _ => by simp only [VRepL]
  | [], _ :: _, h => by simp [zeroLike] at h
  | _ :: _, [], h => by simp [zeroLike] at h
  | x :: xs, y :: ys, h => by
    simp only [zeroLike, Bool.and_eq_true] at h
    simp only [VRepL]
    exact ⟨y, ys, rfl, zeroOne_ok h.1, zeroLike_ok h.2⟩
theorem zeroOf_info {P : Program} {t : TypeId} {vs : List V} (h : zeroOf P t = some vs) : ∃ i z, P.info? t = some i ∧ i.zero = some z ∧ ∀ w g, VRepL w g vs z.cells.toList := by
  unfold zeroOf at h
  split at h
  · rename_i vs' z h1 h2
    split at h
    · rename_i hz
      cases h
      cases hi : P.info? t with
      | none => rw [hi] at h2; cases h2
      | some i =>
        rw [hi] at h2
        exact ⟨i, z, rfl, h2, fun w g => zeroLike_ok hz⟩
    · cases h
  · cases h
theorem setAll_toList (off : Nat) : ∀ (l : List Value) (k : Nat) (cs : Array Value), off + k + l.length ≤ cs.size →
    ((l.zipIdx k).foldl (fun (cs : Array Value) (p : Value × Nat) => cs.setIfInBounds (off + p.2) p.1) cs).toList = cs.toList.take (off + k) ++ l ++ cs.toList.drop (off + k + l.length)
  | [], k, cs, _ => by simp
  | u :: l, k, cs, h => by
    simp only [List.zipIdx_cons, List.foldl_cons]
    rw [setAll_toList off l (k + 1) _ (by simp at h ⊢; omega)]
    simp only [List.length_cons] at h
    have hlt : off + k < cs.size := by omega
    have e1 : (cs.setIfInBounds (off + k) u).toList = cs.toList.take (off + k) ++ u :: cs.toList.drop (off + k + 1) := by
      simp [Array.setIfInBounds, hlt, List.set_eq_take_append_cons_drop]
    rw [e1]
    apply List.ext_getElem?
    intro i
    have hl : (cs.toList.take (off + k)).length = off + k := by simp; omega
    simp only [List.append_assoc]
    rw [List.take_append, List.drop_append, hl]
    simp only [List.take_take, List.drop_drop, List.length_cons]
    have h1 : min (off + (k + 1)) (off + k) = off + k := by omega
    have h2 : off + (k + 1) - (off + k) = 1 := by omega
    have h3 : (cs.toList.take (off + k)).drop (off + (k + 1) + l.length) = [] := by simp; omega
    have h4 : off + (k + 1) + l.length - (off + k) = l.length + 1 := by omega
    have h5 : off + k + 1 + l.length = off + k + (l.length + 1) := by omega
    rw [h1, h2, h3, h4]
    simp [h5]
theorem VRep.cells {w : World} {g : Gh} {x : V} {v : Value} (h : VRep w g x v) (hs : x.cells.all V.scalar = true) (hl : ∀ y ∈ x.cells, ∀ dep, ((∃ sz rows, y = .sl dep sz rows) ∨ ∃ row j, y = .rptr dep row j) → live g dep) :
    VRepL w g x.cells v.cells.toList ∧ ∀ u ∈ v.cells.toList, u.oneCell' = true := by
  have one : ∀ {xs : List V} {vs : List Value}, VRepL w g xs vs → xs.all V.scalar = true → (∀ y ∈ xs, ∀ dep, ((∃ sz rows, y = .sl dep sz rows) ∨ ∃ row j, y = .rptr dep row j) → live g dep) → ∀ u ∈ vs, u.oneCell' = true := by
    intro xs
    induction xs with
    | nil => intro vs h _ _; simp only [VRepL] at h; subst h; simp
    | cons y ys ih =>
      intro vs h hs hl
      simp only [VRepL] at h
      obtain ⟨u, us, rfl, h1, h2⟩ := h
      simp only [List.all_cons, Bool.and_eq_true] at hs
      intro v hv
      rcases List.mem_cons.1 hv with rfl | hv
      · exact (h1.one hs.1 (fun dep sz rows e => hl y (List.mem_cons_self ..) dep (.inl ⟨sz, rows, e⟩)) (fun dep row j e => hl y (List.mem_cons_self ..) dep (.inr ⟨row, j, e⟩))).1
      · exact ih h2 hs.2 (fun y hy => hl y (List.mem_cons_of_mem _ hy)) v hv
  have key : VRepL w g x.cells v.cells.toList := by
    cases x with
    | agg vs =>
      simp only [VRep] at h
      obtain ⟨cs, rfl, hc⟩ := h
      exact hc
    | tup vs => simp [V.cells, V.scalar] at hs
    | opt c x => simp [V.cells, V.scalar] at hs
    | lit c =>
      have := (h.one (by simpa [V.cells] using hs) (fun dep sz rows e => by cases e) (fun dep row j e => by cases e)).2
      simp only [V.cells, this, VRepL]
      exact ⟨_, _, rfl, h, rfl⟩
    | undef => simp [V.cells, V.scalar] at hs
    | _ =>
      have := (h.one (by simpa [V.cells] using hs) (fun dep sz rows e => hl _ (by simp [V.cells]) dep (.inl ⟨sz, rows, e⟩)) (fun dep row j e => hl _ (by simp [V.cells]) dep (.inr ⟨row, j, e⟩))).2
      simp only [V.cells, this, VRepL]
      exact ⟨_, _, rfl, h, rfl⟩
  exact ⟨key, one key hs hl⟩
theorem liveL_ok {E : Env} {nt : Nat} {s : SF} {g : Gh} {a : Act} {w : World} (h : Sim E nt s g a w) : ∀ {xs : List V}, liveL s.M xs → ∀ y ∈ xs, ∀ dep, ((∃ sz rows, y = .sl dep sz rows) ∨ ∃ row j, y = .rptr dep row j) → live g dep
  | [], _, y, hy, _, _ => by cases hy
  | x :: xs, hl, y, hy, dep, hd => by
    simp only [liveL] at hl
    rcases List.mem_cons.1 hy with rfl | hy
    · rcases hd with ⟨sz, rows, rfl⟩ | ⟨row, j, rfl⟩
      · exact liveD_ok h hl.1
      · exact liveD_ok h hl.1
    · exact liveL_ok h hl.2 y hy dep hd
theorem fillO_ok {E : Env} {nt : Nat} {s : SF} {g : Gh} {a : Act} {w : World} (h : Sim E nt s g a w) {place : Nat → Option (Nat × Nat)} : ∀ {ps : List (Nat × Operand)} {qs : List (Nat × Nat × Opd)} {cells out : List V} {cs : Array Value},
    qs.map (fun q => (some (q.1, q.2.1), q.2.2)) = ps.map (fun p => (place p.1, opd p.2)) →
    fillO s.F cells qs = some out → liveO s.F s.M (qs.map (·.2.2)) → VRepL w g cells cs.toList → ∃ cs', Instr.fill place cs (ps.map fun p => (p.1, a.eval p.2)) = some cs' ∧ VRepL w g out cs'.toList
  | [], qs, cells, out, cs, hq, hf, _, hr => by
    have : qs = [] := by cases qs with
      | nil => rfl
      | cons _ _ => simp at hq
    subst this
    simp only [fillO, Option.some.injEq] at hf
    subst hf
    exact ⟨cs, by simp [Instr.fill], hr⟩
  | (i, o) :: ps, qs, cells, out, cs, hq, hf, hl, hr => by
    cases qs with
    | nil => simp at hq
    | cons q qs =>
      obtain ⟨off, n, od⟩ := q
      simp only [List.map_cons, List.cons.injEq, Prod.mk.injEq] at hq
      obtain ⟨⟨hpl, rfl⟩, hq⟩ := hq
      simp only [fillO] at hf
      split at hf
      · rename_i x hx
        split at hf
        · rename_i hc
          obtain ⟨h1, h2, h3⟩ := hc
          simp only [List.map_cons, liveO, hx] at hl
          obtain ⟨hc1, hc2⟩ := (ev_ok h hx).cells h2 (liveL_ok h hl.1)
          have hlen := hc1.length
          have hcl := hr.length
          simp only [Array.length_toList] at hlen hcl
          have hset : ((a.eval o).cells.zipIdx.foldl (fun (cs : Array Value) (p : Value × Nat) => cs.setIfInBounds (off + p.2) p.1) cs).toList = cs.toList.take off ++ (a.eval o).cells.toList ++ cs.toList.drop (off + (a.eval o).cells.toList.length) := by
            have := setAll_toList off (a.eval o).cells.toList 0 cs (by simp; omega)
            simp only [Nat.add_zero] at this
            rw [← this, ← Array.foldl_toList]
            simp
          have hrep : VRepL w g (cells.take off ++ x.cells ++ cells.drop (off + n)) ((a.eval o).cells.zipIdx.foldl (fun (cs : Array Value) (p : Value × Nat) => cs.setIfInBounds (off + p.2) p.1) cs).toList := by
            rw [hset]
            have e : (a.eval o).cells.toList.length = n := by simp; omega
            rw [e]
            exact ((hr.take off).append hc1).append (hr.drop (off + n))
          obtain ⟨cs', hf', ho'⟩ := fillO_ok h hq hf hl.2 hrep
          refine ⟨cs', ?_, ho'⟩
          simp only [List.map_cons, Instr.fill, ← hpl]
          rw [if_neg]
          · exact hf'
          · simp
            omega
        · cases hf
      · cases hf
section
variable {P : Program} {E : Env} {nt : Nat} {o : Oper} {s : SF} {h : Nat} {p : Prop} {v : V}
theorem bparts_ok {fs : Array Field} : ∀ {ps : List (Nat × Operand)} {qs : List (Nat × Nat × Opd)}, bparts P fs ps = some qs → ∀ {pl : List (Nat × Nat)}, (fs.toList.mapM fun f => (P.info? f.type).map fun i => (f.offset, i.size)) = some pl →
    qs.map (fun q => (some (q.1, q.2.1), q.2.2)) = ps.map (fun p => (pl[p.1]?, opd p.2))
  | [], qs, hb, pl, hp => by simp only [bparts, Option.some.injEq] at hb; subst hb; rfl
  | (i, od) :: ps, qs, hb, pl, hp => by
    simp only [bparts] at hb
    split at hb
    · rename_i off n r h1 h2
      cases hb
      simp only [List.map_cons, List.cons.injEq, Prod.mk.injEq, and_true]
      refine ⟨?_, bparts_ok h2 hp⟩
      cases hf : fs[i]? with
      | none => rw [hf] at h1; cases h1
      | some f =>
        rw [hf] at h1
        simp only [Option.bind_some, tySz] at h1
        cases hi : P.info? f.type with
        | none => rw [hi] at h1; cases h1
        | some inf =>
          rw [hi] at h1
          simp only [Option.map_some, Option.some.injEq, Prod.mk.injEq] at h1
          obtain ⟨rfl, rfl⟩ := h1
          have key : ∀ (l : List Field) (pl : List (Nat × Nat)) (i : Nat), (l.mapM fun f => (P.info? f.type).map fun i => (f.offset, i.size)) = some pl → l[i]? = some f → pl[i]? = some (f.offset, inf.size) := by
            intro l
            induction l with
            | nil => intro pl i _ h; simp at h
            | cons f0 l ih =>
              intro pl i hm hi'
              simp only [List.mapM_cons, Option.pure_def, Option.bind_eq_bind] at hm
              cases h0 : (P.info? f0.type).map fun i => (f0.offset, i.size) with
              | none => rw [h0] at hm; cases hm
              | some x =>
                rw [h0] at hm
                cases hl : l.mapM fun f => (P.info? f.type).map fun i => (f.offset, i.size) with
                | none => rw [hl] at hm; cases hm
                | some xs =>
                  rw [hl] at hm
                  cases hm
                  cases i with
                  | zero =>
                    simp only [List.getElem?_cons_zero, Option.some.injEq] at hi' ⊢
                    subst hi'
                    rw [hi] at h0
                    simpa using h0.symm
                  | succ i => simpa using ih xs i hl (by simpa using hi')
          exact (key fs.toList pl i hp (by simpa using hf)).symm
    · cases hb
theorem q_bldS {t : TypeId} {fs : Array Field} {parts : Array (Nat × Operand)} {zs : List V} {qs : List (Nat × Nat × Opd)} (ho : o.op = .build t parts) (hu : P.underlying t = some (.struct fs)) (hz : zeroOf P t = some zs) (hqs : bparts P fs parts.toList = some qs)
    (hpl : (fs.toList.mapM fun f => (P.info? f.type).map fun i => (f.offset, i.size)).isSome = true) (hq : qO s.F s.M h (.bld zs qs) = some (p, v)) (hp : p) : Quiet P E nt o s v := by
  intro g a w hs
  simp only [qO, Option.map_eq_some_iff, Prod.mk.injEq] at hq
  obtain ⟨out, hf, rfl, rfl⟩ := hq
  obtain ⟨i, zv, hi, hzv, hrep⟩ := zeroOf_info hz
  cases hpp : (fs.toList.mapM fun f => (P.info? f.type).map fun i => (f.offset, i.size)) with
  | none => rw [hpp] at hpl; cases hpl
  | some pl =>
    obtain ⟨cs', hf', hr'⟩ := fillO_ok hs (bparts_ok hqs hpp) hf hp (hrep w g)
    have hm : (parts.map fun (i, x) => (i, a.eval x)).toList = parts.toList.map fun p => (p.1, a.eval p.2) := by simp
    have hb : P.built t (parts.map fun (i, x) => (i, a.eval x)).toList = some cs' := by
      rw [hm]
      unfold Program.built
      simp only [hi, hu, hzv]
      rw [hpp]
      simpa using hf'
    refine ⟨.agg cs', ?_, ?_⟩
    · unfold execOp
      rw [ho]; dsimp only
      simp only [Sem.run_bind, run_build w t _ cs' hb, Result.andThen_ok, Sem.run_pure]
    · simp only [VRep]
      exact ⟨cs'.toList, rfl, hr'⟩
theorem q_bldA {t e : TypeId} {len n : Nat} {parts : Array (Nat × Operand)} {zs : List V} (ho : o.op = .build t parts) (hu : P.underlying t = some (.array len e)) (hz : zeroOf P t = some zs) (hn : tySz P e = some n)
    (hq : qO s.F s.M h (.bld zs (parts.toList.map fun p => (p.1 * n, n, opd p.2))) = some (p, v)) (hp : p) : Quiet P E nt o s v := by
  intro g a w hs
  simp only [qO, Option.map_eq_some_iff, Prod.mk.injEq] at hq
  obtain ⟨out, hf, rfl, rfl⟩ := hq
  obtain ⟨i, zv, hi, hzv, hrep⟩ := zeroOf_info hz
  obtain ⟨cs', hf', hr'⟩ := fillO_ok hs (place := fun i => some (i * n, n)) (ps := parts.toList) (by simp) hf hp (hrep w g)
  have hm : (parts.map fun (i, x) => (i, a.eval x)).toList = parts.toList.map fun p => (p.1, a.eval p.2) := by simp
  have hb : P.built t (parts.map fun (i, x) => (i, a.eval x)).toList = some cs' := by
    rw [hm]
    unfold Program.built
    unfold tySz at hn
    cases hie : P.info? e with
    | none => rw [hie] at hn; cases hn
    | some ie =>
      rw [hie] at hn
      cases hn
      simp only [hi, hu, hzv, hie]
      exact hf'
  refine ⟨.agg cs', ?_, ?_⟩
  · unfold execOp
    rw [ho]; dsimp only
    simp only [Sem.run_bind, run_build w t _ cs' hb, Result.andThen_ok, Sem.run_pure]
  · simp only [VRep]
    exact ⟨cs'.toList, rfl, hr'⟩
end
section
variable {P : Program} {E : Env} {nt : Nat} {o : Oper} {s : SF} {h : Nat} {p : Prop} {v : V}
theorem q_cvi {sT d : TypeId} {x : Operand} {ds : TypeDesc} {k : IntKind} (ho : o.op = .convert sT d x) (hsT : P.underlying sT = some ds) (hd : P.underlying d = some (.int k)) (hq : qO s.F s.M h (.cvi k (opd x)) = some (p, v)) (hp : p) : Quiet P E nt o s v := by
  intro g a w hs
  simp only [qO] at hq
  unfold execOp
  rw [ho]; dsimp only
  split at hq
  · rename_i k' n hb
    simp only [Option.some.injEq] at hq
    have e1 : p = (p, v).1 := rfl
    have e2 : v = (p, v).2 := rfl
    rw [← hq] at e1 e2
    subst e1; subst e2
    have := ev_ok hs hb
    simp only [VRep] at this
    refine ⟨_, ?_, arith_ok w g hp⟩
    rw [this]
    simp only [convert, Sem.run_bind, run_underlying hsT, run_underlying hd, Result.andThen_ok]
    cases ds <;> rfl
  · cases hq
theorem q_cid {sT d : TypeId} {x : Operand} (ho : o.op = .convert sT d x) (hsT : P.underlying sT = some .string) (hd : P.underlying d = some .string) (hq : qO s.F s.M h (.cid (opd x)) = some (p, v)) : Quiet P E nt o s v := by
  intro g a w hs
  simp only [qO] at hq
  unfold execOp
  rw [ho]; dsimp only
  split at hq
  · rename_i n hb
    cases hq
    have := ev_ok hs hb
    simp only [VRep] at this
    refine ⟨_, ?_, by simp only [VRep]; rfl⟩
    rw [this]
    simp [convert, run_underlying hsT, run_underlying hd]
  · cases hq
theorem q_mkf {f : FuncId} {first caps : Array Operand} (ho : o.op = .makeFunc (.func f) first caps) (h0 : first.isEmpty = true) (hq : qO s.F s.M h (.mkf f (caps.toList.map opd)) = some (p, v)) : Quiet P E nt o s v := by
  intro g a w hs
  simp only [qO, Option.map_eq_some_iff, Prod.mk.injEq] at hq
  obtain ⟨cs, hc, _, rfl⟩ := hq
  have := evL_ok hs hc
  have h0 : first = #[] := by simpa using h0
  subst h0
  unfold execOp
  rw [ho]; dsimp only
  refine ⟨_, rfl, ?_⟩
  simp only [VRep]
  refine ⟨_, ?_, this⟩
  simp only [Array.map_empty, List.map_toArray]
  congr 1
  apply Array.ext'
  simp
theorem q_slen {args : Array Operand} {tys : Array TypeId} {t : TypeId} {x : Operand} (ho : o.op = .call ⟨.builtin .len, args, tys⟩) (ha : args.toList = [x]) (ht : tys.toList = [t])
    (hu : P.underlying t = some .string) (hq : qO s.F s.M h (.slen (opd x)) = some (p, v)) (hp : p) : Quiet P E nt o s v := by
  intro g a w hs
  have et : tys = #[t] := by cases tys; simp_all
  have ea : args = #[x] := by cases args; simp_all
  subst et; subst ea
  simp only [qO] at hq
  unfold execOp
  rw [ho]; dsimp only
  split at hq
  · rename_i n hb
    cases hq
    have := ev_ok hs hb
    simp only [VRep] at this
    refine ⟨_, ?_, by simp only [VRep]; rfl⟩
    simp [resolve, invoke, builtin, this, Builtin.len_, run_underlying hu, goInt]
  · cases hq
theorem q_len {args : Array Operand} {tys : Array TypeId} {t e : TypeId} {x : Operand} (ho : o.op = .call ⟨.builtin .len, args, tys⟩) (ha : args.toList = [x]) (ht : tys.toList = [t])
    (hu : P.underlying t = some (.slice e)) (hq : qO s.F s.M h (.len (opd x)) = some (p, v)) (hp : p) : Quiet P E nt o s v := by
  intro g a w hs
  have et : tys = #[t] := by cases tys; simp_all
  have ea : args = #[x] := by cases args; simp_all
  subst et; subst ea
  simp only [qO] at hq
  unfold execOp
  rw [ho]; dsimp only
  split at hq
  · rename_i hb
    cases hq
    have := ev_ok hs hb
    simp only [VRep] at this
    obtain ⟨base, hv⟩ := this
    refine ⟨_, ?_, by simp only [VRep]; rfl⟩
    simp [resolve, invoke, builtin, hv, Builtin.len_, run_underlying hu, goInt]
  · rename_i dep sz rows hb
    cases hq
    have := ev_ok hs hb
    simp only [VRep, RoT] at this
    obtain ⟨base, cap, xs, hv, _⟩ := this.2 (liveD_ok hs hp)
    refine ⟨_, ?_, by simp only [VRep]; rfl⟩
    simp [resolve, invoke, builtin, hv, Builtin.len_, run_underlying hu, goInt]
  · rename_i κ off n hb
    cases hq
    have := ev_ok hs hb
    simp only [VRep] at this
    obtain ⟨base, cap, sz, base', _, _, hv, _⟩ := this
    refine ⟨_, ?_, by simp only [VRep]; rfl⟩
    simp [resolve, invoke, builtin, hv, Builtin.len_, run_underlying hu, goInt]
  · cases hq
theorem q_cap {args : Array Operand} {tys : Array TypeId} {t e : TypeId} {x : Operand} (ho : o.op = .call ⟨.builtin .cap, args, tys⟩) (ha : args.toList = [x]) (ht : tys.toList = [t])
    (hu : P.underlying t = some (.slice e)) (hq : qO s.F s.M h (.cap (opd x)) = some (p, v)) (hp : p) : Quiet P E nt o s v := by
  intro g a w hs
  have et : tys = #[t] := by cases tys; simp_all
  have ea : args = #[x] := by cases args; simp_all
  subst et; subst ea
  simp only [qO] at hq
  unfold execOp
  rw [ho]; dsimp only
  split at hq
  · rename_i κ off n hb
    split at hq
    · rename_i A hA
      split at hq
      · rename_i c hc
        cases hq
        have := ev_ok hs hb
        simp only [VRep] at this
        obtain ⟨base, cap, sz, base', hab, _, hv, _⟩ := this
        obtain ⟨base2, cap2, hab2, _, _, hcap⟩ := hs.mem κ _ hA
        rw [hab] at hab2
        cases hab2
        have := hcap c hc
        subst this
        refine ⟨_, ?_, by simp only [VRep]; rfl⟩
        simp [resolve, invoke, builtin, hv, Builtin.cap_, run_underlying hu, goInt]
      · cases hq
    · cases hq
  · cases hq
theorem q_mnx {mx : Bool} {args : Array Operand} {tys : Array TypeId} {xs : List Operand} (ho : o.op = .call ⟨.builtin (match mx with | false => .min | true => .max), args, tys⟩) (ha : args.toList = xs)
    (hq : qO s.F s.M h (.mnx mx (xs.map opd)) = some (p, v)) (hp : p) : Quiet P E nt o s v := by
  intro g a w hs
  simp only [qO] at hq
  unfold execOp
  rw [ho]; dsimp only
  split at hq
  · rename_i k x k' y he
    cases hq
    subst hp
    have := evL_ok hs he
    have hlen := this.length
    match xs, ha, hlen with
    | [p, q], ha, _ =>
      have ea : args = #[p, q] := by cases args; simp_all
      subst ea
      simp only [List.map_cons, List.map_nil, VRepL] at this
      obtain ⟨u, us, e1, h1, u2, us2, e2, h2, e3⟩ := this
      simp only [List.cons.injEq] at e1
      obtain ⟨rfl, rfl⟩ := e1
      simp only [List.cons.injEq] at e2
      obtain ⟨rfl, _⟩ := e2
      simp only [VRep] at h1 h2
      refine ⟨_, ?_, by simp only [VRep]; rfl⟩
      cases mx <;> simp [resolve, invoke, builtin, h1, h2, Builtin.min_, Builtin.min2, Builtin.max_, Builtin.max2, mnxI]
  · rename_i k x k' y k'' z he
    cases hq
    obtain ⟨rfl, rfl⟩ := hp
    have := evL_ok hs he
    have hlen := this.length
    match xs, ha, hlen with
    | [p, q, r], ha, _ =>
      have ea : args = #[p, q, r] := by cases args; simp_all
      subst ea
      simp only [List.map_cons, List.map_nil, VRepL] at this
      obtain ⟨u, us, e1, h1, u2, us2, e2, h2, u3, us3, e3, h3, _⟩ := this
      simp only [List.cons.injEq] at e1
      obtain ⟨rfl, rfl⟩ := e1
      simp only [List.cons.injEq] at e2
      obtain ⟨rfl, rfl⟩ := e2
      simp only [List.cons.injEq] at e3
      obtain ⟨rfl, _⟩ := e3
      simp only [VRep] at h1 h2 h3
      refine ⟨_, ?_, by simp only [VRep]; rfl⟩
      cases mx <;> simp [resolve, invoke, builtin, h1, h2, h3, Builtin.min_, Builtin.min2, Builtin.max_, Builtin.max2, mnxI] <;> rfl
  · cases hq
theorem q_six {t : TypeId} {x i : Operand} (ho : o.op = .index t x i) (hu : P.underlying t = some .string) (hq : qO s.F s.M h (.six (opd x) (opd i)) = some (p, v)) (hp : p) : Quiet P E nt o s v := by
  intro g a w hs
  simp only [qO] at hq
  unfold execOp
  rw [ho]; dsimp only
  split at hq
  · rename_i sv k n hb hi
    cases hq
    have h1 := ev_ok hs hb
    have h2 := ev_ok hs hi
    simp only [VRep] at h1 h2
    refine ⟨_, ?_, by simp only [VRep]; rfl⟩
    have hlt : n.toNat < sv.size := by omega
    have hlt' : n.toNat < sv.data.size := hlt
    rw [h1, h2]
    have e : (sv.data.getD n.toNat 0) = sv[n.toNat] := by
      simp [Array.getD, hlt', hlt, ByteArray.getElem_eq_getElem_data]
    simp [Instr.index, run_underlying hu, asIntOf, hp.1, hlt, e]
  · cases hq
end
theorem eqVL_len : ∀ {ks : List Nat} {X Y : List V} {b : Bool}, eqVL ks X Y = some b → X.length = ks.length ∧ Y.length = ks.length
  | [], [], [], _, _ => ⟨rfl, rfl⟩
  | k :: ks, x :: xs, y :: ys, b, h => by
    simp only [eqVL] at h
    split at h
    · rename_i p q h1 h2
      obtain ⟨h3, h4⟩ := eqVL_len h2
      simp [h3, h4]
    · cases h
  | [], _ :: _, _, b, h => by simp [eqVL] at h
  | [], [], _ :: _, b, h => by simp [eqVL] at h
  | _ :: _, [], _, b, h => by simp [eqVL] at h
  | _ :: _, _ :: _, [], b, h => by simp [eqVL] at h
theorem eqVL_split : ∀ {k1 k2 : List Nat} {X Y : List V} {b : Bool}, eqVL (k1 ++ k2) X Y = some b → ∃ b1 b2, eqVL k1 (X.take k1.length) (Y.take k1.length) = some b1 ∧ eqVL k2 (X.drop k1.length) (Y.drop k1.length) = some b2 ∧ b = (b1 && b2)
  | [], k2, X, Y, b, h => ⟨true, b, by simp [eqVL], by simpa using h, by simp⟩
  | k :: ks, k2, [], Y, b, h => by simp [eqVL] at h
  | k :: ks, k2, x :: X, [], b, h => by simp [eqVL] at h
  | k :: ks, k2, x :: X, y :: Y, b, h => by
    simp only [List.cons_append, eqVL] at h
    split at h
    · rename_i p q h1 h2
      cases h
      obtain ⟨b1, b2, h3, h4, h5⟩ := eqVL_split h2
      refine ⟨p && b1, b2, by simp [eqVL, h1, h3], by simpa using h4, by rw [h5, Bool.and_assoc]⟩
    · cases h
def relT (P : Program) (w : World) (g : Gh) (t : TypeId) (X : List V) (u : Value) : Prop :=
  match isAggT P t with
  | some true => ∃ C, u = .agg (List.toArray C) ∧ VRepL w g X C
  | some false => VRepL w g X [u]
  | none => False
theorem part_rel {P : Program} {w : World} {g : Gh} {t : TypeId} {k : Nat} {b : Bool} (hb : isAggT P t = some b) (hk : tySz P t = some k) (h1 : b = false → k = 1) {X : List V} {C : List Value} (hr : VRepL w g X C) {off : Nat} (hl : off + k ≤ X.length) :
    ∃ u, (part t C.toArray off).run P w = .ok u w ∧ relT P w g t ((X.drop off).take k) u := by
  cases b with
  | true =>
    obtain ⟨u, hu, hx⟩ := partV_ok hk hb hr (off := off) (x := .agg ((X.drop off).take k)) (by simp [partV, hl])
    refine ⟨u, hu, ?_⟩
    simp only [relT, hb]
    simpa only [VRep] using hx
  | false =>
    have := h1 rfl
    subst this
    have hlt : off < X.length := by omega
    obtain ⟨u, hu, hx⟩ := partV_ok hk hb hr (off := off) (x := X[off]) (by simp [partV, hlt])
    refine ⟨u, hu, ?_⟩
    simp only [relT, hb]
    have e : (X.drop off).take 1 = [X[off]] := by
      rw [List.drop_eq_getElem_cons hlt]; rfl
    rw [e]
    simp only [VRepL]
    exact ⟨u, [], rfl, hx, rfl⟩
theorem flatK_agg {P : Program} : ∀ {n : Nat} {t : TypeId} {ks : List Nat}, flatK P n t = some ks → ∃ b, isAggT P t = some b ∧ tySz P t = some ks.length ∧ (b = false → ks.length = 1)
  | 0, t, ks, h => by simp [flatK] at h
  | n + 1, t, ks, h => by
    unfold flatK at h
    split at h
    case h_4 =>
      rename_i fs hu
      split at h
      · cases h
      · split at h
        · split at h
          · cases h; exact ⟨true, by simp [isAggT, hu], ‹_›, fun e => by cases e⟩
          · cases h
        · cases h
    case h_5 => cases h
    all_goals
      rename_i hu
      split at h
      · cases h
        exact ⟨false, by simp [isAggT, hu], ‹_›, fun _ => rfl⟩
      · cases h
theorem eqVL_one {k : Nat} {w : World} {g : Gh} {X Y : List V} {b : Bool} {u v : Value} (h : eqVL [k] X Y = some b) (hx : VRepL w g X [u]) (hy : VRepL w g Y [v]) : ∃ x y, eqV k x y = some b ∧ VRep w g x u ∧ VRep w g y v := by
  obtain ⟨l1, l2⟩ := eqVL_len h
  match X, Y, l1, l2 with
  | [x], [y], _, _ =>
    simp only [eqVL] at h
    split at h
    · rename_i p q h1 h2
      cases h2; cases h
      simp only [VRepL, List.cons.injEq] at hx hy
      obtain ⟨_, _, ⟨rfl, _⟩, hx, _⟩ := hx
      obtain ⟨_, _, ⟨rfl, _⟩, hy, _⟩ := hy
      exact ⟨x, y, by simpa using h1, hx, hy⟩
    · cases h
theorem eqV0 {x y : V} {b : Bool} (h : eqV 0 x y = some b) : ∃ a c, x = .bool a ∧ y = .bool c ∧ b = (a == c) := by
  cases x <;> cases y <;> simp [eqV] at h
  exact ⟨_, _, rfl, rfl, h.symm⟩
theorem eqV1 {x y : V} {b : Bool} (h : eqV 1 x y = some b) : ∃ k a c, x = .int k a ∧ y = .int k c ∧ b = decide (a = c) := by
  cases x <;> cases y <;> simp [eqV] at h
  obtain ⟨rfl, h⟩ := h
  exact ⟨_, _, _, rfl, rfl, h.symm⟩
theorem eqV2 {x y : V} {b : Bool} (h : eqV 2 x y = some b) : ∃ a c, x = .str a ∧ y = .str c ∧ b = decide (a = c) := by
  cases x <;> cases y <;> simp [eqV] at h
  exact ⟨_, _, rfl, rfl, h.symm⟩
mutual
theorem flat_eq {P : Program} {w : World} {g : Gh} (n : Nat) {t : TypeId} {ks : List Nat} (h : flatK P n t = some ks) {d : Nat} (hd : n ≤ d) {X Y : List V} {u v : Value} {b : Bool} (hx : relT P w g t X u) (hy : relT P w g t Y v) (he : eqVL ks X Y = some b) :
    (Op.equalIn d t u v).run P w = .ok b w := by
  cases n with
  | zero => simp [flatK] at h
  | succ n =>
  cases d with
  | zero => omega
  | succ d =>
    unfold flatK at h
    split at h
    · rename_i hu
      split at h
      · cases h
        simp only [relT, isAggT, hu] at hx hy
        obtain ⟨x, y, he, hx, hy⟩ := eqVL_one he hx hy
        obtain ⟨a, c, rfl, rfl, rfl⟩ := eqV0 he
        simp only [VRep] at hx hy
        subst hx; subst hy
        exact run_equalIn_bool' w d t _ _ hu
      · cases h
    · rename_i k0 hu
      split at h
      · cases h
        simp only [relT, isAggT, hu] at hx hy
        obtain ⟨x, y, he, hx, hy⟩ := eqVL_one he hx hy
        obtain ⟨k, a, c, rfl, rfl, rfl⟩ := eqV1 he
        simp only [VRep] at hx hy
        subst hx; subst hy
        rw [run_equalIn_int w d t k k0 a c hu]
        congr 1
      · cases h
    · rename_i hu
      split at h
      · cases h
        simp only [relT, isAggT, hu] at hx hy
        obtain ⟨x, y, he, hx, hy⟩ := eqVL_one he hx hy
        obtain ⟨a, c, rfl, rfl, rfl⟩ := eqV2 he
        simp only [VRep] at hx hy
        subst hx; subst hy
        rw [run_equalIn_string w d t _ _ hu, bytes_beq]
      · cases h
    · rename_i fs hu
      split at h
      · cases h
      · rename_i hst
        split at h
        · rename_i ks' hgo
          split at h
          · cases h
            simp only [relT, isAggT, hu] at hx hy
            obtain ⟨C, rfl, hx⟩ := hx
            obtain ⟨D, rfl, hy⟩ := hy
            have hfo : P.fieldsOf t = fs := by simp [Program.fieldsOf, hu]
            rw [run_equalIn_struct w d t _ _ (by rw [hfo]; exact hu) (by simpa using hst), hfo]
            exact flat_eqF n 0 fs.toList hgo (by omega) hx hy (by simpa using he)
          · cases h
        · cases h
    · cases h
  termination_by (n, 0)
theorem flat_eqF {P : Program} {w : World} {g : Gh} (n off : Nat) (fs : List Field) {ks : List Nat} (h : flatF (flatK P n) off fs = some ks) {d : Nat} (hd : n ≤ d) {X Y : List V} {C D : List Value} {b : Bool} (hx : VRepL w g X C) (hy : VRepL w g Y D) (he : eqVL ks (X.drop off) (Y.drop off) = some b) :
    (Op.eqFields d C.toArray D.toArray fs).run P w = .ok b w := by
  cases fs with
  | nil =>
    simp only [flatF, Option.some.injEq] at h
    subst h
    have : b = true := by
      cases hxd : X.drop off with
      | nil => cases hyd : Y.drop off with
        | nil => rw [hxd, hyd] at he; simpa [eqVL] using he.symm
        | cons _ _ => rw [hxd, hyd] at he; simp [eqVL] at he
      | cons _ _ => rw [hxd] at he; simp [eqVL] at he
    subst this
    simp [Op.eqFields]
  | cons f fs =>
    simp only [flatF] at h
    split at h
    · rename_i k1 hk1
      split at h
      · rename_i hc
        simp only [Option.map_eq_some_iff] at h
        obtain ⟨k2, hgo, rfl⟩ := h
        obtain ⟨b1, b2, h1, h2, rfl⟩ := eqVL_split he
        obtain ⟨hl1, hl2⟩ := eqVL_len h1
        simp only [List.length_take, List.length_drop] at hl1 hl2
        obtain ⟨ba, hag, hsz, hone⟩ := flatK_agg hk1
        have h0 := hc.2.2
        obtain ⟨u, hu, hru⟩ := part_rel hag hsz hone hx (off := off) (by omega)
        obtain ⟨v, hv, hrv⟩ := part_rel hag hsz hone hy (off := off) (by omega)
        have := flat_eq n hk1 hd hru hrv h1
        unfold Op.eqFields
        rw [if_pos hc.2.1, hc.1]
        simp only [Sem.run_bind, hu, hv, Result.andThen_ok, this]
        rw [List.drop_drop, List.drop_drop] at h2
        have ih := flat_eqF n (off + k1.length) fs hgo hd hx hy h2
        cases b1
        · simp
        · simpa using ih
      · cases h
    · cases h
  termination_by (n, fs.length + 1)
end
section
variable {P : Program} {E : Env} {nt : Nat} {o : Oper} {s : SF} {h : Nat} {p : Prop} {v : V}
theorem q_eqa {ng : Bool} {t ty : TypeId} {fs : Array Field} {x y : Operand} {ks : List Nat} (ho : o.op = .binOp (match ng with | false => .eql | true => .neq) t x y ty) (ht : P.underlying t = some (.struct fs)) (hk : flatK P 12 t = some ks) (hg : P.eqGuardType P.depth t = false)
    (hq : qO s.F s.M h (.eqa ng (opd x) (opd y) ks) = some (p, v)) : Quiet P E nt o s v := by
  intro g a w hs
  simp only [qO] at hq
  unfold execOp
  rw [ho]; dsimp only
  split at hq
  · rename_i X Y hx hy
    simp only [Option.map_eq_some_iff, Prod.mk.injEq] at hq
    obtain ⟨b, he, _, rfl⟩ := hq
    have h1 := ev_ok hs hx
    have h2 := ev_ok hs hy
    simp only [VRep] at h1 h2
    obtain ⟨C, e1, hC⟩ := h1
    obtain ⟨D, e2, hD⟩ := h2
    have key := flat_eq (P := P) 12 hk (d := 10000) (by omega) (X := X) (Y := Y) (u := .agg C.toArray) (v := .agg D.toArray) (by simp only [relT, isAggT, ht]; exact ⟨C, rfl, hC⟩) (by simp only [relT, isAggT, ht]; exact ⟨D, rfl, hD⟩) he
    cases ng
    · refine ⟨.bool b, ?_, by simp only [VRep]⟩
      simp only [Sem.run_bind, e1, e2, run_eqGuard_agg w _ t x y _ _ hg, Result.andThen_ok, run_eql_struct, key, Sem.run_pure]
    · refine ⟨.bool (!b), ?_, by simp only [VRep]⟩
      simp only [Sem.run_bind, e1, e2, run_eqGuard_agg w _ t x y _ _ hg, Result.andThen_ok, run_neq_struct, key, Sem.run_pure]
  · cases hq
end
section
variable {P : Program} {E : Env} {nt : Nat} {o : Oper} {s : SF} {h : Nat} {p : Prop} {v : V}
theorem arr_base {g : Gh} {w : World} {k : Nat} {A : Arr} (hm : MemRep w g k (.arr A)) (hne : A.rows.length ≠ 0) : ∃ b cap cur e, g.ab k = some (some ⟨b, 0, none⟩, cap, A.sz) ∧ g.fp k b ∧ w.heap[b]? = some (.cells cur e (0, 0)) ∧ cap * A.sz ≤ cur.size ∧ A.rows.length ≤ cap ∧ cap ≤ maxLen ∧
    OwRows w g.fz A.sz A.rows (fun x => g.fp k x ∧ x ≠ b) (cur.toList.take (A.rows.length * A.sz)) := by
  obtain ⟨base, cap, h1, h2, h3, h4⟩ := hm
  simp only [OwT] at h3
  obtain ⟨base', cap', e, hc, hm, hr⟩ := h3
  cases e
  rcases hr with ⟨e, _⟩ | ⟨b, cur, el, e1, hS, hb, hsz, hr⟩
  · rw [e] at hne; exact absurd rfl hne
  · subst e1
    exact ⟨b, cap, cur, el, h1, hS, hb, hsz, hc, hm, hr⟩
theorem q_idx {t e : TypeId} {x i : Operand} {n : Nat} (ho : o.op = .indexAddr t x i) (hu : P.underlying t = some (.slice e)) (hn : tySz P e = some n) (hq : qO s.F s.M h (.idx (opd x) (opd i) n) = some (p, v)) (hp : p) : Quiet P E nt o s v := by
  intro g a w hs
  simp only [qO] at hq
  unfold execOp
  rw [ho]; dsimp only
  split at hq
  · rename_i κ off len k' k hb hi
    split at hq
    · rename_i A hA
      cases hq
      obtain ⟨hsz, h0, hl, hle⟩ := hp
      have h1 := ev_ok hs hb
      have h2 := ev_ok hs hi
      simp only [VRep] at h1 h2
      obtain ⟨base, cap, sz, base', hab, hcap, hv, _, hbase⟩ := h1
      obtain ⟨b, cap2, cur, el, hab2, hS, hbb, hfit, hlc, hm, hr⟩ := arr_base (hs.mem κ _ hA) (by omega)
      rw [hab] at hab2
      cases hab2
      have hb' := hbase (by omega)
      subst hb'
      subst hsz
      refine ⟨.pointer (some ⟨b, (off + k.toNat) * A.sz + 0, none⟩), ?_, ?_⟩
      · rw [hv, h2]
        have hk : 0 ≤ k ∧ k < (len : Int) := ⟨h0, hl⟩
        have e1 : off * A.sz + k.toNat * A.sz = (off + k.toNat) * A.sz := by rw [Nat.add_mul]
        simp [Instr.indexAt, run_underlying hu, asIntOf, hk.1, hk.2, run_sizeOf' hn, add_mk, e1]
      · simp only [VRep]
        exact ⟨b, cap, A.sz, hab, rfl⟩
    · cases hq
  · cases hq
theorem q_ixa {t e : TypeId} {x i : Operand} {len n : Nat} (ho : o.op = .indexAddr t x i) (hu : P.underlying t = some (.array len e)) (hn : tySz P e = some n) (hq : qO s.F s.M h (.ixa (opd x) (opd i) len n) = some (p, v)) (hp : p) : Quiet P E nt o s v := by
  intro g a w hs
  simp only [qO] at hq
  unfold execOp
  rw [ho]; dsimp only
  split at hq
  · rename_i d j k' k hb hi
    cases hq
    have h1 := ev_ok hs hb
    have h2 := ev_ok hs hi
    simp only [VRep] at h1 h2
    obtain ⟨b, hbv, hv⟩ := h1
    refine ⟨.pointer (some ⟨b, j + k.toNat * n, none⟩), ?_, by simp only [VRep]; exact ⟨b, hbv, rfl⟩⟩
    rw [hv, h2]
    simp [Instr.indexAt, run_underlying hu, asIntOf, hp.1, hp.2, run_sizeOf' hn, Instr.sureAddr, add_mk]
  · cases hq
theorem bnd_ok {g : Gh} {a : Act} {w : World} (hs : Sim E nt s g a w) {df n : Int} {od : Option Operand} (hb : bnd s.F df (od.map opd) = some n) : (od = none ∧ n = df) ∨ ∃ y k, od = some y ∧ a.eval y = .int k n := by
  cases od with
  | none => simp only [bnd, Option.map_none, Option.some.injEq] at hb; exact .inl ⟨rfl, hb.symm⟩
  | some y =>
    simp only [bnd, Option.map_some] at hb
    split at hb
    · rename_i k m hm
      cases hb
      have := ev_ok hs hm
      simp only [VRep] at this
      exact .inr ⟨y, k, rfl, this⟩
    · cases hb
theorem run_sliceBound' (w : World) (k : IntKind) {i : Int} {y : Nat} (code : BoundsCode) (h0 : 0 ≤ i) (h1 : i ≤ y) : (Instr.sliceBound (.int k i) y code).run P w = .ok i.toNat w := by
  simp [Instr.sliceBound, asIntOf, h0, h1]
theorem run_bounds {g : Gh} {a : Act} {w : World} (hs : Sim E nt s g a w) {isS : Bool} {len cap : Nat} {l hh m : Int} {lo hi mx : Option Operand} (hl : bnd s.F 0 (lo.map opd) = some l) (hhi : bnd s.F len (hi.map opd) = some hh)
    (hm : bnd s.F cap (mx.map opd) = some m) (h0 : 0 ≤ l) (h1 : l ≤ hh) (h2 : hh ≤ m) (h3 : m ≤ cap) (hmh : mx.isSome = true → hi.isSome = true) :
    (Instr.sliceBounds isS len cap (lo.map a.eval) (hi.map a.eval) (mx.map a.eval)).run P w = .ok (l.toNat, hh.toNat, m.toNat) w := by
  have kh : 0 ≤ hh := by omega
  have km : 0 ≤ m := by omega
  have e1 : ((m.toNat : Nat) : Int) = m := by omega
  have e2 : ((hh.toNat : Nat) : Int) = hh := by omega
  have b1 : ∀ (k : IntKind) (c : BoundsCode), (Instr.sliceBound (.int k m) cap c).run P w = .ok m.toNat w := fun k c => run_sliceBound' w k c km h3
  have b2 : ∀ (k : IntKind) (c : BoundsCode), (Instr.sliceBound (.int k hh) m.toNat c).run P w = .ok hh.toNat w := fun k c => run_sliceBound' w k c kh (by omega)
  have b3 : ∀ (k : IntKind) (c : BoundsCode), (Instr.sliceBound (.int k l) hh.toNat c).run P w = .ok l.toNat w := fun k c => run_sliceBound' w k c h0 (by omega)
  rcases bnd_ok hs hm with ⟨rfl, rfl⟩ | ⟨y3, k3, rfl, ey3⟩
  · have ec : (cap : Int).toNat = cap := by omega
    simp only [ec] at b2
    rcases bnd_ok hs hl with ⟨rfl, rfl⟩ | ⟨y, k, rfl, ey⟩ <;> rcases bnd_ok hs hhi with ⟨rfl, rfl⟩ | ⟨z, k', rfl, ez⟩
    · simp [Instr.sliceBounds]
    · simp [Instr.sliceBounds, ez, b2]
    · have el : (len : Int).toNat = len := by omega
      simp only [el] at b3
      simp [Instr.sliceBounds, ey, b3]
    · simp [Instr.sliceBounds, ey, ez, b2, b3]
  · cases hi with
    | none => simp at hmh
    | some z =>
      rcases bnd_ok hs hhi with ⟨e, _⟩ | ⟨z', k', e, ez⟩
      · cases e
      · cases e
        rcases bnd_ok hs hl with ⟨rfl, rfl⟩ | ⟨y, k, rfl, ey⟩
        · simp [Instr.sliceBounds, ey3, ez, b1, b2]
        · simp [Instr.sliceBounds, ey3, ez, ey, b1, b2, b3]
theorem q_sls {t : TypeId} {x : Operand} {lo hi : Option Operand} (ho : o.op = .slice t x lo hi none) (hu : P.underlying t = some .string) (hq : qO s.F s.M h (.sls (opd x) (lo.map opd) (hi.map opd)) = some (p, v)) (hp : p) : Quiet P E nt o s v := by
  intro g a w hs
  simp only [qO] at hq
  unfold execOp
  rw [ho]; dsimp only
  split at hq
  · rename_i sv hb
    split at hq
    · rename_i l hh hl hhi
      cases hq
      obtain ⟨h0, h1, h2⟩ := hp
      have := ev_ok hs hb
      simp only [VRep] at this
      refine ⟨_, ?_, by simp only [VRep]; rfl⟩
      rw [this]
      have hb := run_bounds (P := P) hs (isS := false) (mx := none) (m := sv.size) hl hhi rfl h0 h1 h2 (Int.le_refl _) (fun e => by cases e)
      simp only [Option.map_none] at hb
      simp [Instr.sliceAt, Instr.slice, run_underlying hu, hb]
    · cases hq
  · cases hq
theorem q_sll {t e : TypeId} {x : Operand} {lo hi mx : Option Operand} {n : Nat} (ho : o.op = .slice t x lo hi mx) (hu : P.underlying t = some (.slice e)) (hn : tySz P e = some n)
    (hq : qO s.F s.M h (.sll (opd x) (lo.map opd) (hi.map opd) (mx.map opd) n) = some (p, v)) (hp : p) : Quiet P E nt o s v := by
  intro g a w hs
  have isz : ∀ {od : Option Operand}, isZ (od.map opd) = true → ∃ y k, od = some y ∧ a.eval y = .int k 0 ∧ bnd s.F 0 (od.map opd) = some 0 := by
    intro od hz
    cases od with
    | none => simp [isZ] at hz
    | some y =>
      simp only [Option.map_some, isZ] at hz
      split at hz
      · rename_i k he
        simp only [Option.some.injEq] at he
        have hev : ev s.F (opd y) = some (.int k 0) := by rw [he]; rfl
        have := ev_ok hs hev
        simp only [VRep] at this
        exact ⟨y, k, rfl, this, by simp [bnd, hev]⟩
      · cases hz
  have empty : ∀ base len cap, a.eval x = .slice base len cap → (isZ (mx.map opd) && isZ (hi.map opd)) = true → bnd s.F 0 (lo.map opd) = some 0 → ∃ u, (execOp a.eval o).run P w = .ok (.value u) w ∧ VRep w g .nil u := by
    intro base len cap hv hz hl
    simp only [Bool.and_eq_true] at hz
    obtain ⟨y, k, rfl, ey, _⟩ := isz hz.1
    obtain ⟨z, k', rfl, ez, _⟩ := isz hz.2
    have hb := run_bounds (P := P) hs (isS := true) (len := len) (cap := cap) (l := 0) (hh := 0) (m := 0) (lo := lo) (hi := some z) (mx := some y) hl
    refine ⟨.slice base 0 0, ?_, by simp only [VRep]; exact ⟨base, rfl⟩⟩
    unfold execOp
    rw [ho]; dsimp only
    rw [hv]
    have hbb : (Instr.sliceBounds true len cap (lo.map a.eval) (some (a.eval z)) (some (a.eval y))).run P w = .ok (0, 0, 0) w := by
      rcases bnd_ok hs hl with ⟨rfl, _⟩ | ⟨y', k'', rfl, ey'⟩
      · simp [Instr.sliceBounds, ez, ey, Instr.sliceBound, asIntOf]
      · simp [Instr.sliceBounds, ez, ey, ey', Instr.sliceBound, asIntOf]
    simp [Instr.sliceAt, Instr.slice, run_underlying hu, hbb, run_sizeOf' hn]
  simp only [qO] at hq
  split at hq
  · rename_i dep sz rows hb
    have h1 := ev_ok hs hb
    split at hq
    · rename_i hz
      split at hq
      · rename_i hl
        cases hq
        simp only [VRep, RoT] at h1
        obtain ⟨base, cap, xs, hv, _⟩ := h1.2 (liveD_ok hs hp)
        exact empty _ _ _ hv hz hl
      · cases hq
    · split at hq
      · rename_i l hh m hl hhi hm
        cases hq
        obtain ⟨hld, hsz, hmh, h0, h1', h2, h3⟩ := hp
        have hlive := liveD_ok hs hld
        simp only [VRep, RoT] at h1
        obtain ⟨hw, h1⟩ := h1
        obtain ⟨base, cap, xs, hv, hcap, hmx, hrow, hbb⟩ := h1 hlive
        simp only [Option.isSome_map] at hmh
        obtain ⟨m', hm', hmm⟩ : ∃ m', bnd s.F cap (mx.map opd) = some m' ∧ hh ≤ m' ∧ m' ≤ cap := by
          cases mx with
          | none => exact ⟨cap, rfl, by omega, Int.le_refl _⟩
          | some y => exact ⟨m, by simpa [bnd] using hm, h2, by omega⟩
        have hbn := run_bounds (P := P) hs (isS := true) hl hhi hm' h0 h1' hmm.1 hmm.2 hmh
        refine ⟨.slice (if m'.toNat = l.toNat then base else base.map (·.add (l.toNat * n))) (hh.toNat - l.toNat) (m'.toNat - l.toNat), ?_, ?_⟩
        · unfold execOp
          rw [ho]; dsimp only
          rw [hv]
          simp [Instr.sliceAt, Instr.slice, run_underlying hu, hbn, run_sizeOf' hn]
        · simp only [VRep, RoT]
          refine ⟨hw, fun _ => ?_⟩
          have hrows := (RoRows.take_drop l.toNat (RoRows.take_drop hh.toNat hrow).1).2
          refine ⟨_, _, _, by congr 1; simp; omega, by simp; omega, by omega, hrows, fun hne => ?_⟩
          have hne' : rows ≠ [] := by intro e; subst e; simp at hne
          have hsz' : sz = n := by rcases hsz with e | e; exact e; exact absurd e hne'
          subst hsz'
          have hlt : l.toNat < hh.toNat := by
            rcases Nat.lt_or_ge l.toNat hh.toNat with h' | h'
            · exact h'
            · exfalso; apply hne; apply List.eq_nil_of_length_eq_zero; simp; omega
          obtain ⟨b, off, hbase, hblt, hok, hcell⟩ := hbb hne'
          have hne2 : ¬ m'.toNat = l.toNat := by omega
          refine ⟨b, off + l.toNat * sz, by simp [hne2, hbase, add_mk], hblt, hok, fun j u hj => ?_⟩
          rw [List.getElem?_drop, List.getElem?_take] at hj
          split at hj
          · have := hcell _ u hj
            rwa [← Nat.add_assoc] at this
          · cases hj
      · cases hq
  · rename_i κ off len hb
    have h1 := ev_ok hs hb
    simp only [VRep] at h1
    obtain ⟨base, cap, sz, base', hab, hcap, hv, hb0, hbase⟩ := h1
    split at hq
    · rename_i A hA
      split at hq
      · rename_i hz
        split at hq
        · rename_i hl
          cases hq
          exact empty _ _ _ hv hz hl
        · cases hq
      · have hmem := hs.mem κ _ hA
        obtain ⟨base2, cap2, hab2, htop, hown, _⟩ := hmem
        rw [hab] at hab2
        cases hab2
        have hown' := hown
        simp only [OwT] at hown
        obtain ⟨b1, c1, e1, hrc, hm1, _⟩ := hown
        cases e1
        split at hq
        · rename_i hmx
          have hmx' : mx = none := by simpa using hmx
          subst hmx'
          split at hq
          · rename_i l hh hl hhi
            cases hq
            obtain ⟨hsz, h0, h1', h2, h3o⟩ := hp
            subst hsz
            have hbn := run_bounds (P := P) hs (isS := true) (cap := cap - off) (mx := none) hl hhi rfl h0 h1' (by omega) (Int.le_refl _) (fun e => by cases e)
            simp only [Option.map_none] at hbn
            have ec : ((cap - off : Nat) : Int).toNat = cap - off := by omega
            rw [ec] at hbn
            refine ⟨.slice (if cap - off = l.toNat then base' else base'.map (·.add (l.toNat * A.sz))) (hh.toNat - l.toNat) (cap - off - l.toNat), ?_, ?_⟩
            · unfold execOp
              rw [ho]; dsimp only
              rw [hv]
              simp [Instr.sliceAt, Instr.slice, run_underlying hu, hbn, run_sizeOf' hn]
            · simp only [VRep]
              refine ⟨base, cap, A.sz, _, hab, by omega, by congr 1 <;> omega, fun h0' => ?_, fun hn' => ?_⟩
              · have h3 : off = 0 := by omega
                have h4 : l.toNat = 0 := by omega
                rw [h4, hb0 h3]
                split
                · rfl
                · cases base <;> simp [Addr.add]
              · have hne2 : ¬ cap - off = l.toNat := by omega
                rw [if_neg hne2]
                have hbo : base' = base.map (·.add (off * A.sz)) := by
                  rcases h3o with h3o | h3o
                  · rw [hb0 h3o, h3o]; cases base <;> simp [Addr.add]
                  · exact hbase (by omega)
                · rw [hbo]
                  cases base with
                  | none => rfl
                  | some ba =>
                    obtain ⟨b, cap3, cur, el, hab3, _⟩ := arr_base (hs.mem κ _ hA) (by omega)
                    rw [hab] at hab3
                    cases hab3
                    simp only [Option.map_some, add_mk, Nat.add_mul, Nat.add_assoc]
          · cases hq
        · rename_i hmx
          split at hq
          · rename_i l hh m hl hhi hm
            cases hq
            obtain ⟨hsz, hhs, h0, h1', h2, h3, h3o⟩ := hp
            subst hsz
            have hbo : base' = base.map (·.add (off * A.sz)) ∨ hh.toNat - l.toNat = 0 := by
              rcases h3o with h3o | h3o
              · left; rw [hb0 h3o, h3o]; cases base <;> simp [Addr.add]
              · by_cases hl0 : len = 0
                · right; omega
                · left; exact hbase hl0
            have hm2 : bnd s.F (cap - off : Nat) (mx.map opd) = some m := by
              cases mx with
              | none => exact absurd hmx (by simp)
              | some y => simpa [bnd] using hm
            have hbn := run_bounds (P := P) hs (isS := true) (cap := cap - off) hl hhi hm2 h0 h1' h2 (by omega) (fun _ => by simpa using hhs)
            refine ⟨.slice (if m.toNat = l.toNat then base' else base'.map (·.add (l.toNat * A.sz))) (hh.toNat - l.toNat) (m.toNat - l.toNat), ?_, ?_⟩
            · unfold execOp
              rw [ho]; dsimp only
              rw [hv]
              simp [Instr.sliceAt, Instr.slice, run_underlying hu, hbn, run_sizeOf' hn]
            · have hro : RoT w (fun b => g.fz b ∨ g.fp κ b) (.sl true A.sz A.rows) (.slice base A.rows.length cap) := hown'.ro (fun b hb => .inl hb) (fun b _ hb => .inr hb)
              simp only [RoT] at hro
              obtain ⟨b2, c2, xs, e2, _, _, hrow, hbb⟩ := hro
              cases e2
              have hrows := (RoRows.take_drop (hh - l).toNat (RoRows.take_drop (off + l.toNat) hrow).2).1
              simp only [VRep, RoT, was, live, okd]
              refine ⟨by omega, fun _ => ⟨_, _, _, by congr 1; simp; omega, by simp; omega, by omega, hrows, fun hne => ?_⟩⟩
              have hlt : l.toNat < hh.toNat := by
                rcases Nat.lt_or_ge l.toNat hh.toNat with h' | h'
                · exact h'
                · exfalso; apply hne; apply List.eq_nil_of_length_eq_zero; simp; omega
              have hne' : A.rows ≠ [] := by intro e; rw [e] at h3; simp at h3; omega
              obtain ⟨b, o', hbase', hblt, hok, hcell⟩ := hbb hne'
              have hne2 : ¬ m.toNat = l.toNat := by omega
              have hbo' : base' = base.map (·.add (off * A.sz)) := by
                rcases hbo with e | e
                · exact e
                · omega
              refine ⟨b, o' + (off + l.toNat) * A.sz, by rw [if_neg hne2, hbo', hbase']; simp [add_mk, Nat.add_mul, Nat.add_assoc], hblt, hok, fun j u hj => ?_⟩
              rw [List.getElem?_take] at hj
              split at hj
              · rw [List.getElem?_drop] at hj
                have := hcell _ u hj
                rwa [← Nat.add_assoc] at this
              · cases hj
          · cases hq
    · cases hq
  · rename_i hb
    have h1 := ev_ok hs hb
    simp only [VRep] at h1
    obtain ⟨base, hv⟩ := h1
    split at hq
    · rename_i hl hhi hm
      split at hq
      · cases hq
      · rename_i hmh
        cases hq
        have hmh' : mx.isSome = true → hi.isSome = true := by
          intro e
          cases hi with
          | none => exact absurd ⟨by simpa using e, rfl⟩ hmh
          | some _ => rfl
        have hbn := run_bounds (P := P) hs (isS := true) (len := 0) (cap := 0) hl hhi hm (Int.le_refl _) (Int.le_refl _) (Int.le_refl _) (by simp) hmh'
        refine ⟨.slice base 0 0, ?_, by simp only [VRep]; exact ⟨base, rfl⟩⟩
        unfold execOp
        rw [ho]; dsimp only
        rw [hv]
        simp [Instr.sliceAt, Instr.slice, run_underlying hu, hbn, run_sizeOf' hn]
    · cases hq
  · cases hq
end
theorem qO_bad {F : Nat → Option V} {M : Nat → Option Mem} {h : Nat} {x : Prop × V} (hq : qO F M h .bad = some x) : False := by simp [qO] at hq
theorem qO_csb {F : Nat → Option V} {M : Nat → Option Mem} {h : Nat} {x : Prop × V} {o : AOp} (hq : qO F M h o = some x)
    (ho : (∃ a b n, o = .store a b n) ∨ (∃ zs l ps, o = .bsl zs l ps) ∨ (∃ a, o = .cbs a) ∨ (∃ a, o = .csb a) ∨ (∃ a b c d e, o = .app a b c d e) ∨ (∃ a b c d, o = .cpy a b c d) ∨ (∃ a b c d, o = .apz a b c d) ∨ (∃ a b, o = .clr a b) ∨ (∃ f l, o = .call f l) ∨ (∃ z, o = .alloc z) ∨ (∃ x, o = .box x) ∨ (∃ a b c d, o = .mks a b c d) ∨ o = .bad) : False := by
  rcases ho with ⟨_, _, _, rfl⟩ | ⟨_, _, _, rfl⟩ | ⟨_, rfl⟩ | ⟨_, rfl⟩ | ⟨_, _, _, _, _, rfl⟩ | ⟨_, _, _, _, rfl⟩ | ⟨_, _, _, _, rfl⟩ | ⟨_, _, rfl⟩ | ⟨_, _, rfl⟩ | ⟨_, rfl⟩ | ⟨_, rfl⟩ | ⟨_, _, _, _, rfl⟩ | rfl <;> simp [qO] at hq
set_option maxHeartbeats 1000000 in
theorem light_ok {P : Program} {E : Env} {nt : Nat} {o : Oper} {s : SF} {h : Nat} {p : Prop} {v : V} (hq : qO s.F s.M h (cmp P o.op) = some (p, v)) (hp : p) : Quiet P E nt o s v := by
  generalize ho : o.op = op at hq
  unfold cmp at hq
  split at hq
  · exact q_mv (.inl ho) hq
  · exact q_mv (.inr ho) hq
  · exact q_pick ho hq
  · -- binOp
    split at hq
    · rename_i hu
      split at hq
      · exact q_eqa (ng := false) ho hu (by assumption) (by assumption) hq
      · exact q_eqa (ng := true) ho hu (by assumption) (by assumption) hq
      · exact (qO_bad hq).elim
    · rename_i hu
      split at hq
      · exact q_beq (ng := false) ho hu hq
      · exact q_beq (ng := true) ho hu hq
      · exact (qO_bad hq).elim
    · exact q_bin ho hq hp
    · exact q_bin ho hq hp
    · split at hq
      · simp [qO] at hq
      · simp [qO] at hq
      · exact (qO_bad hq).elim
    · exact (qO_bad hq).elim
  · exact q_not ho hq
  · exact q_neg ho hq hp
  · exact q_ext ho hq
  · split at hq
    · exact q_fld ho (by assumption) hq
    · exact (qO_bad hq).elim
  · split at hq
    · split at hq
      · exact (qO_bad hq).elim
      · exact q_fad ho (by assumption) (by assumption) hq hp
    · exact (qO_bad hq).elim
  · exact q_nck ho hq hp
  · split at hq
    · split at hq
      · exact q_idx ho (by assumption) (by assumption) hq hp
      · exact (qO_bad hq).elim
    · split at hq
      · exact q_ixa ho (by assumption) (by assumption) hq hp
      · exact (qO_bad hq).elim
    · exact (qO_bad hq).elim
  · split at hq
    · exact q_six ho (by assumption) hq hp
    · exact (qO_bad hq).elim
  · split at hq
    · exact q_load ho (by assumption) (by assumption) hq hp
    · exact (qO_bad hq).elim
  · split at hq
    · exact (qO_csb hq (by simp)).elim
    · exact (qO_bad hq).elim
  · split at hq
    · split at hq
      · exact q_sls ho (by assumption) hq hp
      · exact (qO_bad hq).elim
    · split at hq
      · exact q_sll ho (by assumption) (by assumption) hq hp
      · exact (qO_bad hq).elim
    · exact (qO_bad hq).elim
  · split at hq
    · rename_i hu
      split at hq
      · rename_i h1 h2 h3
        exact q_bldS ho hu h1 h2 (by rw [h3]; rfl) hq hp
      · exact (qO_bad hq).elim
    · rename_i hu
      split at hq
      · exact q_bldA ho hu (by assumption) (by assumption) hq hp
      · exact (qO_bad hq).elim
    · exact (qO_bad hq).elim
  · repeat' split at hq
    all_goals exact (qO_csb hq (by simp)).elim
  · split at hq
    · exact q_cvi ho (by assumption) (by assumption) hq hp
    · exact q_cid ho (by assumption) (by assumption) hq
    · split at hq
      · exact (qO_csb hq (by simp)).elim
      · exact (qO_bad hq).elim
    · split at hq
      · exact (qO_csb hq (by simp)).elim
      · exact (qO_bad hq).elim
    · exact (qO_bad hq).elim
  · split at hq
    · exact q_mkf ho (by assumption) hq
    · exact (qO_bad hq).elim
  · split at hq
    · exact (qO_csb hq (by simp)).elim
    · exact (qO_bad hq).elim
  · -- builtins
    unfold cmpBuiltin at hq
    split at hq
    · rename_i ha ht
      split at hq
      · exact q_slen ho ha ht (by assumption) hq hp
      · exact q_len ho ha ht (by assumption) hq hp
      · exact (qO_bad hq).elim
    · rename_i ha ht
      split at hq
      · exact q_cap ho ha ht (by assumption) hq hp
      · exact (qO_bad hq).elim
    · rename_i ha
      exact q_mnx (mx := false) ho ha hq hp
    · rename_i ha
      exact q_mnx (mx := false) ho ha hq hp
    · rename_i ha
      exact q_mnx (mx := true) ho ha hq hp
    · rename_i ha
      exact q_mnx (mx := true) ho ha hq hp
    · repeat' split at hq
      all_goals exact (qO_csb hq (by simp)).elim
    · repeat' split at hq
      all_goals exact (qO_csb hq (by simp)).elim
    · repeat' split at hq
      all_goals exact (qO_csb hq (by simp)).elim
    · exact (qO_bad hq).elim
  · repeat' split at hq
    all_goals exact (qO_csb hq (by simp)).elim
  · exact (qO_csb hq (by simp)).elim
  · repeat' split at hq
    all_goals exact (qO_csb hq (by simp)).elim
  · exact (qO_bad hq).elim
def upd {β : Type} (f : Nat → β) (k : Nat) (v : β) : Nat → β := fun x => if x = k then v else f x
theorem MemRep.own {w : World} {g : Gh} {k : Nat} {cells : List V} (h : MemRep w g k (.var cells)) : ∃ b, Own g k b ∧ g.bv k = some b := by
  obtain ⟨b, _, _, h1, _⟩ := h
  exact ⟨b, .inl h1, h1⟩
theorem Sim.setArr {E : Env} {nt : Nat} {s : SF} {g : Gh} {a : Act} {w w' : World} (h : Sim E nt s g a w) (k : Nat) (C : List Nat) {A : Arr} {S : Nat → Prop} {base : Option Addr} {cap : Nat}
    (ho : w'.os = w.os) (ht : w'.tape = w.tape) (hout : w'.output = w.output) (hsz : w.heap.size ≤ w'.heap.size)
    (hk : (∃ A0, s.M k = some (.arr A0) ∧ g.ab k = some (base, cap, A.sz) ∧ A.ver = A0.ver + 1) ∨ (¬ s.B k ∧ A.ver = 1))
    (hC : ∀ x, x ∈ C → x ≠ k ∧ ∃ A, s.M x = some (.arr A))
    (hch : ∀ b, b < w.heap.size → ¬ g.fp k b → (∀ x, x ∈ C → ¬ g.fp x b) → w'.heap[b]? = w.heap[b]?)
    (hS : ∀ b, S b → b < w'.heap.size ∧ (g.fp k b ∨ (∃ x, x ∈ C ∧ g.fp x b) ∨ ((∀ x, ¬ Own g x b) ∧ ¬ g.fz b ∧ (E.wr b ∨ E.w0.heap.size ≤ b))))
    (hA : OwT w' g.fz (.sl true A.sz A.rows) S (.slice base A.rows.length cap)) (hcap : ∀ c, A.cap = some c → c = cap) :
    ∃ g', Sim E nt ⟨s.F, fun x => if x = k then some (.arr A) else if x ∈ C then none else s.M x, fun x => x = k ∨ s.B x⟩ g' a w' ∧ Ext g w g' w' ∧ g'.ab k = some (base, cap, A.sz) ∧ g'.fz = g.fz ∧ g'.fp k = S ∧ g'.top k = A.ver ∧ g'.bv = g.bv ∧ (∀ x, x ≠ k → x ∉ C → g'.fp x = g.fp x ∧ g'.top x = g.top x ∧ g'.ab x = g.ab x) := by
  let g' : Gh := { g with ab := upd g.ab k (some (base, cap, A.sz)), fp := fun x => if x = k then S else if x ∈ C then (fun _ => False) else g.fp x, top := fun x => if x = k then A.ver else if x ∈ C then g.top x + 1 else g.top x }
  have hbv : g.bv k = none := by
    rcases hk with ⟨A0, h1, _⟩ | ⟨h1, _⟩
    · exact (h.arrK h1).1
    · exact (h.newK h1).1
  have hCb : ∀ x, x ∈ C → g.bv x = none ∧ s.B x := fun x hx => by
    obtain ⟨A, hA⟩ := (hC x hx).2
    exact h.arrK hA
  have hMk : ∀ A0, s.M k = some (.arr A0) → g.top k = A0.ver := fun A0 e => by obtain ⟨_, _, _, ht, _⟩ := h.mem k _ e; exact ht
  have hkt : g.top k < A.ver := by
    rcases hk with ⟨A0, h1, h2, h3⟩ | ⟨h1, h2⟩
    · have := hMk A0 h1; omega
    · have := (h.bornF k h1).2; omega
  have hkab : ∀ x, g.ab k = some x → x = (base, cap, A.sz) := by
    intro x hx
    rcases hk with ⟨A0, h1, h2, h3⟩ | ⟨h1, h2⟩
    · rw [hx] at h2; exact Option.some.inj h2
    · exact absurd (h.bornA k (by rw [hx]; simp)) h1
  have hoth : ∀ x b, x ≠ k → x ∉ C → Own g x b → b < w.heap.size → w'.heap[b]? = w.heap[b]? := by
    intro x b hx hc hown hl
    exact hch b hl (fun hk' => hx (h.disj x k b hown (.inr hk'))) (fun y hy hyo => hc (by rw [h.disj x y b hown (.inr hyo)]; exact hy))
  have hfzch : ∀ b, b < w.heap.size → g.fz b → w'.heap[b]? = w.heap[b]? := fun b hb hf => hch b hb (fun ho => h.ownfz k b (.inr ho) hf) (fun x _ ho => h.ownfz x b (.inr ho) hf)
  have hx : Ext g w g' w' := {
    size := hsz
    bv := fun d b hd => hd
    ab := fun κ x hx => by
      simp only [g', upd]
      by_cases e : κ = k
      · subst e; rw [if_pos rfl, hkab x hx]
      · rw [if_neg e]; exact hx
    fz := fun b hb => ⟨hb, fun hl => hfzch b hl hb⟩
    top := fun κ => by
      simp only [g']
      by_cases e : κ = k
      · subst e; rw [if_pos rfl]; omega
      · rw [if_neg e]; split <;> omega
    fp := fun κ hκ => by
      simp only [g'] at hκ
      by_cases e : κ = k
      · subst e; rw [if_pos rfl] at hκ; omega
      · rw [if_neg e] at hκ
        by_cases hc : κ ∈ C
        · rw [if_pos hc] at hκ; omega
        · exact ⟨by simp only [g', if_neg e, if_neg hc], fun b hb hl => hoth κ b e hc (.inr hb) hl⟩ }
  have hown' : ∀ x b, Own g' x b → (x = k ∧ S b) ∨ (x ≠ k ∧ Own g x b ∧ (x ∈ C → g.bv x = some b)) := by
    intro x b ho
    rcases ho with ho | ho
    · simp only [g'] at ho
      by_cases e : x = k
      · subst e; rw [hbv] at ho; cases ho
      · exact .inr ⟨e, .inl ho, fun _ => ho⟩
    · simp only [g'] at ho
      by_cases e : x = k
      · subst e; rw [if_pos rfl] at ho; exact .inl ⟨rfl, ho⟩
      · rw [if_neg e] at ho
        by_cases hc : x ∈ C
        · rw [if_pos hc] at ho; exact ho.elim
        · rw [if_neg hc] at ho; exact .inr ⟨e, .inr ho, fun hc' => absurd hc' hc⟩
  have hSx : ∀ x b, x ≠ k → Own g x b → (x ∈ C → g.bv x = some b) → S b → False := by
    intro x b hxk hown hcb hSb
    rcases (hS b hSb).2 with h1 | ⟨y, hy, h1⟩ | h1
    · exact hxk (h.disj x k b hown (.inr h1))
    · have := h.disj x y b hown (.inr h1)
      subst this
      have := (hCb x hy).1
      rw [hcb hy] at this
      cases this
    · exact h1.1 x hown
  refine ⟨g', ?_, hx, by simp only [g', upd, if_true], rfl, by simp only [g', if_true], by simp only [g', if_true], rfl, fun x h1 h2 => by simp only [g', upd, if_neg h1, if_neg h2, and_self]⟩
  refine h.change hx ho ht hout ?_ ?_ ?_ ?_ ?_ ?_ ?_ ?_ ?_ ?_ ?_ (fun b hb => .inl hb)
  · intro b hb hn
    exact hch b hb (fun ho => hn k (.inr ho)) (fun x _ ho => hn x (.inr ho))
  · intro x m hm
    by_cases e : x = k
    · subst e
      simp only [if_true, Option.some.injEq] at hm
      subst hm
      exact ⟨base, cap, by simp only [g', upd, if_true], by simp only [g', if_true], by simp only [g', if_true]; exact hA, hcap⟩
    · simp only [if_neg e] at hm
      by_cases hc : x ∈ C
      · simp only [if_pos hc] at hm; cases hm
      · simp only [if_neg hc] at hm
        refine (h.mem x m hm).ext hx (by simp only [g', if_neg e, if_neg hc]) (fun b hb _ => ?_)
        exact hoth x b e hc (.inl hb) (h.ownlt x b (.inl hb)).1
  · intro x b ho
    rcases hown' x b ho with ⟨rfl, hSb⟩ | ⟨_, h1, _⟩
    · rcases (hS b hSb).2 with h1 | ⟨y, _, h1⟩ | h1
      · exact .inl ⟨x, .inr h1⟩
      · exact .inl ⟨y, .inr h1⟩
      · exact .inr h1.2.2
    · exact .inl ⟨x, h1⟩
  · intro x b ho
    rcases hown' x b ho with ⟨rfl, hSb⟩ | ⟨_, h1, _⟩
    · exact (hS b hSb).1
    · exact Nat.lt_of_lt_of_le (h.ownlt x b h1).1 hsz
  · intro x y b h1 h2
    rcases hown' x b h1 with ⟨rfl, hSb⟩ | ⟨hxk, h3, hcb⟩ <;> rcases hown' y b h2 with ⟨rfl, hSb'⟩ | ⟨hyk, h4, hcb'⟩
    · rfl
    · exact (hSx y b hyk h4 hcb' hSb).elim
    · exact (hSx x b hxk h3 hcb hSb').elim
    · exact h.disj x y b h3 h4
  · intro x b ho hf
    rcases hown' x b ho with ⟨rfl, hSb⟩ | ⟨_, h1, _⟩
    · rcases (hS b hSb).2 with h1 | ⟨y, _, h1⟩ | h1
      · exact h.ownfz x b (.inr h1) hf
      · exact h.ownfz y b (.inr h1) hf
      · exact h1.2.1 hf
    · exact h.ownfz x b h1 hf
  · intro b hf
    exact Nat.lt_of_lt_of_le (h.fzlt b hf) hsz
  · intro x hxx
    exact .inr (h.bornV x hxx)
  · intro x hxx
    simp only [g', upd] at hxx
    by_cases e : x = k
    · exact .inl e
    · rw [if_neg e] at hxx; exact .inr (h.bornA x hxx)
  · intro x hxx
    have e : x ≠ k := fun e => hxx (.inl e)
    have hb : ¬ s.B x := fun e => hxx (.inr e)
    by_cases hc : x ∈ C
    · simp only [g', if_neg e, if_pos hc]
      exact absurd (hCb x hc).2 hb
    · simp only [g', if_neg e, if_neg hc]
      exact h.bornF x hb
  · intro x hxx
    have hk0 := h.kind x hxx
    have e : x ≠ k := fun e => by subst e; exact hxx hbv
    refine ⟨by simp only [g', upd, if_neg e]; exact hk0.1, fun b hb => ?_⟩
    simp only [g', if_neg e] at hb
    split at hb
    · exact hb
    · exact hk0.2 b hb
theorem Sim.fresh {E : Env} {nt : Nat} {s : SF} {g : Gh} {a : Act} {w : World} (h : Sim E nt s g a w) {b : Nat} (hb : w.heap.size ≤ b) : (∀ x, ¬ Own g x b) ∧ ¬ g.fz b ∧ (E.wr b ∨ E.w0.heap.size ≤ b) :=
  ⟨fun x ho => by have := (h.ownlt x b ho).1; omega, fun hf => by have := h.fzlt b hf; omega, .inr (Nat.le_trans h.size hb)⟩
theorem Sim.newVar {E : Env} {nt : Nat} {s : SF} {g : Gh} {a : Act} {w : World} (h : Sim E nt s g a w) {k : Nat} (hk : ¬ s.B k) {cs : List V} {news : Array Value} (t : TypeId) (hn : VRepL w g cs news.toList) :
    ∃ g', Sim E nt ⟨s.F, fun x => if x = k then some (.var cs) else s.M x, fun x => x = k ∨ s.B x⟩ g' a (w.alloc (.cells news t)) ∧ Ext g w g' (w.alloc (.cells news t)) ∧ g'.bv k = some w.heap.size := by
  let g' : Gh := { g with bv := upd g.bv k (some w.heap.size) }
  obtain ⟨n1, n2, n3, n4⟩ := h.newK hk
  have hsz : (w.alloc (.cells news t)).heap.size = w.heap.size + 1 := by simp
  have hold : ∀ b, b < w.heap.size → (w.alloc (.cells news t)).heap[b]? = w.heap[b]? := fun b hb => heap_alloc_old w _ hb
  have hx : Ext g w g' (w.alloc (.cells news t)) := {
    size := by omega
    bv := fun d b hd => by
      simp only [g', upd]
      by_cases e : d = k
      · subst e; rw [n1] at hd; cases hd
      · rw [if_neg e]; exact hd
    ab := fun κ x hx => hx
    fz := fun b hb => ⟨hb, fun hl => hold b hl⟩
    top := fun κ => Nat.le_refl _
    fp := fun κ _ => ⟨rfl, fun b _ hl => hold b hl⟩ }
  have hown' : ∀ x b, Own g' x b → (x = k ∧ b = w.heap.size) ∨ (x ≠ k ∧ Own g x b) := by
    intro x b ho
    by_cases e : x = k
    · subst e
      rcases ho with ho | ho
      · simp only [g', upd, if_true, Option.some.injEq] at ho; exact .inl ⟨rfl, ho.symm⟩
      · exact absurd ho (n3 b)
    · rcases ho with ho | ho
      · simp only [g', upd, if_neg e] at ho; exact .inr ⟨e, .inl ho⟩
      · exact .inr ⟨e, .inr ho⟩
  refine ⟨g', h.change hx rfl rfl rfl (fun b hb _ => hold b hb) ?_ ?_ ?_ ?_ ?_ ?_ ?_ ?_ ?_ ?_ (fun b hb => .inl hb), hx, by simp only [g', upd, if_true]⟩
  · intro x m hm
    by_cases e : x = k
    · subst e
      simp only [if_true, Option.some.injEq] at hm
      subst hm
      exact ⟨w.heap.size, news, t, by simp only [g', upd, if_true], heap_alloc_new w _, hn.ext hx⟩
    · simp only [if_neg e] at hm
      exact (h.mem x m hm).ext hx rfl (fun b hb _ => hold _ (h.ownlt x b (.inl hb)).1)
  · intro x b ho
    rcases hown' x b ho with ⟨_, rfl⟩ | ⟨_, h1⟩
    · exact .inr (.inr h.size)
    · exact .inl ⟨x, h1⟩
  · intro x b ho
    rcases hown' x b ho with ⟨_, rfl⟩ | ⟨_, h1⟩
    · omega
    · have := (h.ownlt x b h1).1; omega
  · intro x y b h1 h2
    have k2 := hown' y b h2
    rcases hown' x b h1 with ⟨e1, e3⟩ | ⟨e1, h3⟩ <;> rcases k2 with ⟨e2, e4⟩ | ⟨e2, h4⟩
    · rw [e1, e2]
    · have := (h.ownlt y _ h4).1; omega
    · have := (h.ownlt x _ h3).1; omega
    · exact h.disj x y b h3 h4
  · intro x b ho hf
    rcases hown' x b ho with ⟨_, rfl⟩ | ⟨_, h1⟩
    · have := h.fzlt _ hf; omega
    · exact h.ownfz x b h1 hf
  · intro b hf
    have := h.fzlt b hf; omega
  · intro x hxx
    simp only [g', upd] at hxx
    by_cases e : x = k
    · exact .inl e
    · rw [if_neg e] at hxx; exact .inr (h.bornV x hxx)
  · intro x hxx
    exact .inr (h.bornA x hxx)
  · intro x hxx
    exact h.bornF x (fun e => hxx (.inr e))
  · intro x hxx
    by_cases e : x = k
    · subst e; exact ⟨n2, n3⟩
    · simp only [g', upd, if_neg e] at hxx; exact h.kind x hxx
theorem Sim.setVar {E : Env} {nt : Nat} {s : SF} {g : Gh} {a : Act} {w : World} (h : Sim E nt s g a w) {k : Nat} {cells cs : List V} {b : Nat} {cur : Array Value} {e : TypeId} {news : List Value} (hk : s.M k = some (.var cells)) (hb : g.bv k = some b)
    (hh : w.heap[b]? = some (.cells cur e (0, 0))) (hn : VRepL w g cs news) :
    ∃ g', Sim E nt ⟨s.F, fun x => if x = k then some (.var cs) else s.M x, s.B⟩ g' a (w.setRow b news.toArray) ∧ Ext g w g' (w.setRow b news.toArray) := by
  have hsz : (w.setRow b news.toArray).heap.size = w.heap.size := by simp [World.setRow]
  have hown : Own g k b := .inl hb
  have hold : ∀ c, c ≠ b → (w.setRow b news.toArray).heap[c]? = w.heap[c]? := fun c hc => setRow_other w _ c _ hc
  have hk0 := h.kind k (by rw [hb]; simp)
  have hx : Ext g w g (w.setRow b news.toArray) := {
    size := by omega
    bv := fun d b hd => hd
    ab := fun κ x hx => hx
    fz := fun c hc => ⟨hc, fun _ => hold c (fun ee => by subst ee; exact h.ownfz k c hown hc)⟩
    top := fun κ => Nat.le_refl _
    fp := fun κ _ => ⟨rfl, fun c hc _ => hold c (fun ee => by
      subst ee
      have := h.disj κ k c (.inr hc) hown
      subst this
      exact hk0.2 c hc)⟩ }
  refine ⟨g, h.change hx rfl rfl rfl (fun c hc hn => hold c (fun ee => by subst ee; exact hn k hown)) ?_ (fun x c ho => .inl ⟨x, ho⟩) (fun x c ho => by rw [hsz]; exact (h.ownlt x c ho).1) h.disj h.ownfz (fun c hc => by rw [hsz]; exact h.fzlt c hc) h.bornV h.bornA h.bornF h.kind (fun b hb => .inl hb), hx⟩
  intro x m hm
  by_cases ee : x = k
  · subst ee
    simp only [if_true, Option.some.injEq] at hm
    subst hm
    exact ⟨b, news.toArray, e, hb, setRow_heap w _ cur _ e _ hh, by simpa using hn.ext hx⟩
  · simp only [if_neg ee] at hm
    refine (h.mem x m hm).ext hx rfl (fun c hc _ => hold c (fun e2 => by subst e2; exact ee (h.disj x k c (.inl hc) hown)))
structure Eff where
  val : V
  wm : List (Nat × Option Mem)
  nk : List Nat
def SF.app (s : SF) (d : Option Tmp) (e : Eff) : SF where
  F := (s.put d e.val).F
  M := fun k => match look k e.wm with
    | some m => m
    | none => s.M k
  B := fun k => k ∈ e.nk ∨ s.B k
def OpS (P : Program) (E : Env) (nt : Nat) (o : Oper) (s s' : SF) : Prop :=
  ∀ g a w, Sim E nt s g a w → ∀ (K : Act → World → Prop) (Q : Exit → Act → World → Prop), (∀ g' a' w', Sim E nt s' g' a' w' → K a' w') → o.wp P a w K Q
theorem Quiet.op {P : Program} {E : Env} {nt : Nat} {o : Oper} {s : SF} {v : V} (h : Quiet P E nt o s v) (hd : dstOk nt o.dst) : OpS P E nt o s (s.app o.dst ⟨v, [], []⟩) := by
  intro g a w hs K Q hK
  obtain ⟨u, hu, hv⟩ := h g a w hs
  unfold Oper.wp
  rw [hu, Oper.upon_value]
  refine hK g _ w ?_
  have e : s.app o.dst ⟨v, [], []⟩ = s.put o.dst v := by
    cases o.dst <;> simp [SF.app, SF.put, look]
  rw [e]
  exact hs.put hd hv
theorem OpS.of {P : Program} {E : Env} {nt : Nat} {o : Oper} {s : SF} {e : Eff} (hd : dstOk nt o.dst) (h : ∀ g a w, Sim E nt s g a w → ∃ g' w' u, ((execOp a.eval o).run P w = .ok (.value u) w' ∨ (execOp a.eval o).run P w = .ok .skip w' ∧ u = undef) ∧
    Sim E nt ⟨s.F, (s.app o.dst e).M, (s.app o.dst e).B⟩ g' a w' ∧ (o.dst ≠ none → VRep w' g' e.val u)) : OpS P E nt o s (s.app o.dst e) := by
  intro g a w hs K Q hK
  obtain ⟨g', w', u, hu, hsim, hv⟩ := h g a w hs
  have key : Sim E nt (s.app o.dst e) g' (a.put o.dst u) w' := by
    cases hdd : o.dst with
    | none =>
      rw [hdd] at hsim
      have : s.app none e = ⟨s.F, (s.app none e).M, (s.app none e).B⟩ := by simp [SF.app, SF.put]
      rw [this]
      exact hsim
    | some d =>
      have h2 := hsim.put (d := o.dst) hd (hv (by rw [hdd]; simp))
      rw [hdd] at h2
      rw [← hdd] at h2 ⊢
      have : s.app o.dst e = SF.put ⟨s.F, (s.app o.dst e).M, (s.app o.dst e).B⟩ o.dst e.val := by
        rw [hdd]; simp [SF.app, SF.put]
      rw [this]
      rw [hdd] at h2 ⊢
      exact h2
  unfold Oper.wp
  rcases hu with hu | ⟨hu, rfl⟩
  · rw [hu, Oper.upon_value]
    exact hK _ _ _ key
  · rw [hu, Oper.upon_skip]
    exact hK _ _ _ key
theorem zeroOf_run {P : Program} {t : TypeId} {vs : List V} (h : zeroOf P t = some vs) : ∃ z, (∀ w, (zeroValue t).run P w = .ok z w) ∧ ∀ w g, VRepL w g vs z.cells.toList := by
  obtain ⟨i, z, hi, hz, hr⟩ := zeroOf_info h
  exact ⟨z, fun w => by simp [zeroValue, typeInfo, hi, hz], hr⟩
theorem Sim.memEq {E : Env} {nt : Nat} {s : SF} {g : Gh} {a : Act} {w : World} {M M' : Nat → Option Mem} {B B' : Nat → Prop} (h : Sim E nt ⟨s.F, M, B⟩ g a w) (hM : M' = M) (hB : ∀ k, B k ↔ B' k) : Sim E nt ⟨s.F, M', B'⟩ g a w :=
  h.less (fun _ _ h => h) (fun k m hm => by simpa [hM] using hm) (fun k hk => (hB k).1 hk)
section
variable {P : Program} {E : Env} {nt : Nat} {o : Oper} {s : SF}
theorem op_alloc {t : TypeId} {zs : List V} {k : Nat} (ho : o.op = .alloc t) (hz : zeroOf P t = some zs) (hd : dstOk nt o.dst) (hk : ¬ s.B k) : OpS P E nt o s (s.app o.dst ⟨.vptr k 0, [(k, some (.var zs))], [k]⟩) := by
  refine OpS.of hd fun g a w hs => ?_
  obtain ⟨z, hrun, hrep⟩ := zeroOf_run hz
  obtain ⟨g', h', hx, hbv⟩ := hs.newVar hk (cs := zs) (news := z.cells) t (hrep w g)
  refine ⟨g', w.alloc (.cells z.cells t), .pointer (some ⟨w.heap.size, 0, none⟩), .inl ?_, ?_, fun _ => ?_⟩
  · unfold execOp
    rw [ho]; dsimp only
    simp only [Instr.alloc, Sem.run_bind, hrun, Result.andThen_ok, newVar, newRow, run_newObj, Sem.run_pure]
    rfl
  · refine h'.memEq (funext fun x => ?_) (fun x => by simp [SF.app])
    simp only [SF.app, look]
    by_cases e : x = k <;> simp [e]
  · simp only [VRep]
    exact ⟨_, hbv, rfl⟩
theorem op_box {t : TypeId} {y : Operand} {x : V} {k : Nat} (ho : o.op = .box t y) (hx : ev s.F (opd y) = some x) (hsc : x.cells.all V.scalar = true) (hl : liveL s.M x.cells) (hd : dstOk nt o.dst) (hk : ¬ s.B k) :
    OpS P E nt o s (s.app o.dst ⟨.vptr k 0, [(k, some (.var x.cells))], [k]⟩) := by
  refine OpS.of hd fun g a w hs => ?_
  have hv := ev_ok hs hx
  obtain ⟨g', h', hx, hbv⟩ := hs.newVar hk (cs := x.cells) (news := (a.eval y).cells) t (hv.cells hsc (liveL_ok hs hl)).1
  refine ⟨g', w.alloc (.cells (a.eval y).cells t), .pointer (some ⟨w.heap.size, 0, none⟩), .inl ?_, ?_, fun _ => ?_⟩
  · unfold execOp
    rw [ho]; dsimp only
    simp only [Instr.box, Sem.run_bind, newVar, newRow, run_newObj, Result.andThen_ok, Sem.run_pure]
    rfl
  · refine h'.memEq (funext fun x => ?_) (fun x => by simp [SF.app])
    simp only [SF.app, look]
    by_cases e : x = k <;> simp [e]
  · simp only [VRep]
    exact ⟨_, hbv, rfl⟩
theorem op_storeV {t : TypeId} {ad va : Operand} {n j : Nat} {d : Nat} {x : V} {cells : List V} (ho : o.op = .store t ad va) (hdst : o.dst = none) (hn : tySz P t = some n) (had : ev s.F (opd ad) = some (.vptr d j)) (hm : s.M d = some (.var cells)) (hx : ev s.F (opd va) = some x)
    (hc : x.cells.length = n) (hsc : x.cells.all V.scalar = true) (hl : liveL s.M x.cells) (hj : j + n ≤ cells.length) :
    OpS P E nt o s (s.app o.dst ⟨.undef, [(d, some (.var (cells.take j ++ x.cells ++ cells.drop (j + n))))], []⟩) := by
  refine OpS.of (by rw [hdst]; trivial) fun g a w hs => ?_
  have h1 := ev_ok hs had
  have h2 := ev_ok hs hx
  simp only [VRep] at h1
  obtain ⟨b, hbv, h1⟩ := h1
  obtain ⟨b', cur, e, hbv', hb, hcur⟩ := hs.mem d _ hm
  rw [hbv] at hbv'
  cases hbv'
  obtain ⟨hcells, hone⟩ := h2.cells hsc (liveL_ok hs hl)
  have hlen := hcells.length
  have hcl := hcur.length
  simp only [Array.length_toList] at hlen hcl
  have hnew : VRepL w g (cells.take j ++ x.cells ++ cells.drop (j + n)) (cur.toList.take j ++ (a.eval va).cells.toList ++ cur.toList.drop (j + (a.eval va).cells.toList.length)) := by
    have e2 : (a.eval va).cells.toList.length = n := by simp; omega
    rw [e2]
    exact ((hcur.take j).append hcells).append (hcur.drop (j + n))
  obtain ⟨g', h', hx'⟩ := hs.setVar hm hbv hb hnew
  refine ⟨g', w.setRow b (cur.toList.take j ++ (a.eval va).cells.toList ++ cur.toList.drop (j + (a.eval va).cells.toList.length)).toArray, undef, .inr ⟨?_, rfl⟩, ?_, fun e => absurd hdst e⟩
  rotate_left
  · refine h'.memEq (funext fun y => ?_) (fun y => by simp [SF.app])
    simp only [SF.app, look]
    by_cases e : y = d <;> simp [e]
  · unfold execOp
    rw [ho]; dsimp only
    have hrun := run_storeCells_at P b j e (a.eval va).cells.toList 0 cur w hb (by simp only [Array.length_toList]; omega) hone
    simp only [Nat.add_zero] at hrun
    simp only [Instr.storeAt, h1, Instr.sureAddr, storeVar, Sem.run_bind, Sem.run_pure, Result.andThen_ok, run_sizeOf' hn]
    rw [if_neg (by omega)]
    simp only [hrun, Result.andThen_ok, Sem.run_pure, pure_bind]
end
theorem take_drop_cell {α : Type} (L : List α) (p q : Nat) : L.take (p + q) = L.take p ++ (L.drop p).take q := List.take_add
theorem OwRows.put {w w' : World} {fz : Nat → Prop} {sz : Nat} {rows : List (List T)} {S S2 : Nat → Prop} {L : List Value} {i j : Nat} {r ts : List T} {news : List Value} (h : OwRows w fz sz rows S L) (hr : rows[i]? = some r) (hj : j + ts.length ≤ sz)
    (hw : w.heap.size ≤ w'.heap.size) (hfz : ∀ b, b < w.heap.size → fz b → w'.heap[b]? = w.heap[b]?) (hS : ∀ b, S b → b < w.heap.size → w'.heap[b]? = w.heap[b]?) (hn : OwL w' fz ts S2 news) (hd : ∀ x, S2 x → ¬ S x) :
    OwRows w' fz sz (rows.set i (r.take j ++ ts ++ r.drop (j + ts.length))) (fun x => S x ∨ S2 x) (L.take (i * sz + j) ++ news ++ L.drop (i * sz + j + ts.length)) := by
  obtain ⟨hi, hri⟩ := List.getElem?_eq_some_iff.1 hr
  have hnl := hn.length
  obtain ⟨A1, A2, d1, d2, h1, h2⟩ := h.split i
  rw [List.drop_eq_getElem_cons hi, hri] at h2
  simp only [OwRows] at h2
  obtain ⟨c, d, B1, B2, e, d3, d4, hrl, h3, h4⟩ := h2
  have hcl := h3.length
  obtain ⟨C1, C2, d5, d6, h5, h6⟩ := h3.split j
  have ed : r.drop (j + ts.length) = (r.drop j).drop ts.length := by rw [List.drop_drop]
  obtain ⟨D1, D2, d7, d8, h7, h8⟩ := h6.split ts.length
  have mono : ∀ {ts : List T} {S0 : Nat → Prop} {xs : List Value}, (∀ b, S0 b → S b) → OwL w fz ts S0 xs → OwL w' fz ts S0 xs := fun hs hx => hx.mono hw (fun b hb hf => ⟨hf, hfz b hb hf⟩) (fun _ => id) (fun b hb hl => hS b (hs b hb) hl)
  have monoR : ∀ {ts : List (List T)} {S0 : Nat → Prop} {xs : List Value}, (∀ b, S0 b → S b) → OwRows w fz sz ts S0 xs → OwRows w' fz sz ts S0 xs := fun hs hx => hx.mono hw (fun b hb hf => ⟨hf, hfz b hb hf⟩) (fun _ => id) (fun b hb hl => hS b (hs b hb) hl)
  have sC1 : ∀ b, C1 b → S b := fun b hb => d2 b (d3 b (d5 b hb).1).1
  have sD2 : ∀ b, D2 b → S b := fun b hb => d2 b (d3 b (d6 b (d8 b hb))).1
  have sB2 : ∀ b, B2 b → S b := fun b hb => d2 b (d4 b hb)
  have sA1 : ∀ b, A1 b → S b := fun b hb => (d1 b hb).1
  have row : OwL w' fz (r.take j ++ ts ++ (r.drop j).drop ts.length) (fun x => (C1 x ∨ S2 x) ∨ D2 x) (c.take j ++ news ++ (c.drop j).drop ts.length) := by
    refine OwL.join (fun x hx hd2 => ?_) (OwL.join (fun x hc hs => hd x hs (sC1 x hc)) (mono sC1 h5) hn) (mono sD2 h8)
    rcases hx with hx | hx
    · exact (d5 x hx).2 (d8 x hd2)
    · exact hd x hx (sD2 x hd2)
  have hset : rows.set i (r.take j ++ ts ++ r.drop (j + ts.length)) = rows.take i ++ ([r.take j ++ ts ++ (r.drop j).drop ts.length] ++ rows.drop (i + 1)) := by
    rw [List.set_eq_take_append_cons_drop, if_pos hi, ed]
    rfl
  have hL : L.take (i * sz + j) ++ news ++ L.drop (i * sz + j + ts.length) = L.take (i * sz) ++ ((c.take j ++ news ++ (c.drop j).drop ts.length) ++ d) := by
    have e1 : L.take (i * sz + j) = L.take (i * sz) ++ c.take j := by
      rw [List.take_add, e, List.take_append_of_le_length (by omega)]
    have e2 : L.drop (i * sz + j + ts.length) = (c.drop j).drop ts.length ++ d := by
      rw [Nat.add_assoc, ← List.drop_drop, e, List.drop_append_of_le_length (by omega), List.drop_drop]
    rw [e1, e2]
    simp
  rw [hset, hL]
  have hlen : (r.take j ++ ts ++ (r.drop j).drop ts.length).length = sz := by simp; omega
  refine OwRows.sub (S := fun x => A1 x ∨ (((C1 x ∨ S2 x) ∨ D2 x) ∨ B2 x)) (fun x hx => ?_) (OwRows.join (fun x hx hy => ?_) (monoR sA1 h1) (OwRows.join (fun x hx hb => ?_) (OwRows.one hlen row) (monoR sB2 h4)))
  · rcases hx with hx | ((hx | hx) | hx) | hx
    · exact .inl (sA1 x hx)
    · exact .inl (sC1 x hx)
    · exact .inr hx
    · exact .inl (sD2 x hx)
    · exact .inl (sB2 x hx)
  · rcases hy with ((hy | hy) | hy) | hy
    · exact (d1 x hx).2 (d3 x (d5 x hy).1).1
    · exact hd x hy (sA1 x hx)
    · exact (d1 x hx).2 (d3 x (d6 x (d8 x hy))).1
    · exact (d1 x hx).2 (d4 x hy)
  · rcases hx with (hx | hx) | hx
    · exact (d3 x (d5 x hx).1).2 hb
    · exact hd x hx (sB2 x hb)
    · exact (d3 x (d6 x (d8 x hx))).2 hb
theorem OwRows.get {w : World} {fz : Nat → Prop} {sz : Nat} {rows : List (List T)} {S : Nat → Prop} {L : List Value} {i : Nat} {r : List T} (h : OwRows w fz sz rows S L) (hr : rows[i]? = some r) :
    ∃ S1 : Nat → Prop, (∀ b, S1 b → S b) ∧ OwL w fz r S1 ((L.drop (i * sz)).take sz) ∧ r.length = sz := by
  obtain ⟨hi, hri⟩ := List.getElem?_eq_some_iff.1 hr
  obtain ⟨A1, A2, d1, d2, h1, h2⟩ := h.split i
  rw [List.drop_eq_getElem_cons hi, hri] at h2
  simp only [OwRows] at h2
  obtain ⟨c, d, B1, B2, e, d3, d4, hrl, h3, h4⟩ := h2
  have hcl := h3.length
  refine ⟨B1, fun b hb => d2 b (d3 b hb).1, ?_, hrl⟩
  rw [e, List.take_append_of_le_length (by omega), List.take_of_length_le (by omega)]
  exact h3
def T.esz : T → Nat
  | .sl _ sz _ => sz
  | _ => 0
def hdT : List T → T
  | [] => .bool false
  | t :: _ => t
def tlT : List T → List T
  | [] => []
  | _ :: ts => ts
def tm (l : List T) : List T := l
def V.toT0 (pt : T) (M : Nat → Option Mem) : V → Option (T × List Nat)
  | .int k n => some (.int k n, [])
  | .bool b => some (.bool b, [])
  | .str s => some (.str s, [])
  | .nil => some (.sl true pt.esz [], [])
  | .sl none sz rows => some (.sl false sz rows, [])
  | .rptr none row 0 => some (.ptr row, [])
  | .ref κ 0 len => match M κ with
    | some (.arr A) => if len ≤ A.rows.length then some (.sl true A.sz (A.rows.take len), [κ]) else none
    | _ => none
  | .hv κ len _ => match M κ with
    | some (.arr A) => if len ≤ A.rows.length then some (.sl true A.sz (A.rows.take len), [κ]) else none
    | _ => none
  | .lit v => some (.val v, [])
  | _ => none
def V.toT (pt : T) (M : Nat → Option Mem) (x : V) : Option (T × List Nat) :=
  match pt with
  | .junk => some (.junk, [])
  | .nl => match x with
    | .nil => some (.nl, [])
    | _ => none
  | pt => x.toT0 pt M
def toTs (pt : List T) (M : Nat → Option Mem) : List V → Option (List T × List Nat)
  | [] => some ([], [])
  | x :: xs => match x.toT (hdT pt) M, toTs (tlT pt) M xs with
    | some (t, a), some (ts, b) => some (t :: ts, a ++ b)
    | _, _ => none
def nodupK : List Nat → Bool
  | [] => true
  | k :: ks => !(ks.contains k) && nodupK ks
theorem hv_ref {w : World} {g : Gh} {κ len : Nat} {x v : Value} (h : VRep w g (.hv κ len x) v) : VRep w g (.ref κ 0 len) v := by
  simp only [VRep] at h ⊢
  obtain ⟨_, base, cap, sz, hab, hcap, hv⟩ := h
  exact ⟨base, cap, sz, base, hab, by omega, by rw [hv]; rfl, fun _ => rfl, fun _ => by cases base <;> simp [Addr.add]⟩
theorem ref_toT {E : Env} {nt : Nat} {s : SF} {g : Gh} {a : Act} {w : World} (h : Sim E nt s g a w) {κ len : Nat} {v : Value} {t : T} {ks : List Nat} (hx : VRep w g (.ref κ 0 len) v) (ht : (match s.M κ with
    | some (.arr A) => if len ≤ A.rows.length then some (T.sl true A.sz (A.rows.take len), [κ]) else none
    | _ => none) = some (t, ks)) : OwT w g.fz t (fun b => ∃ k ∈ ks, g.fp k b) v ∧ (∀ k ∈ ks, ∃ A, s.M k = some (.arr A)) := by
  split at ht
  · rename_i A hA
    split at ht
    · rename_i hle
      cases ht
      refine ⟨?_, fun k hk => by simp only [List.mem_singleton] at hk; subst hk; exact ⟨A, hA⟩⟩
      simp only [VRep] at hx
      obtain ⟨base, cap, sz, base', hab, hcap, hv, hb0, _⟩ := hx
      obtain ⟨base2, cap2, hab2, _, hown, _⟩ := h.mem κ _ hA
      rw [hab] at hab2
      cases hab2
      rw [hb0 trivial] at hv
      subst hv
      simp only [OwT] at hown ⊢
      obtain ⟨base3, cap3, e3, hc3, hm3, hrow⟩ := hown
      cases e3
      have hlen : (A.rows.take len).length = len := by simp; omega
      refine ⟨base, cap, by rw [hlen]; simp, by omega, hm3, ?_⟩
      rcases hrow with ⟨e, e0⟩ | ⟨b, cur, el, e1, hS, hb, hfit, hr⟩
      · exact .inl ⟨by rw [e]; simp, e0⟩
      · refine .inr ⟨b, cur, el, e1, ⟨κ, by simp, hS⟩, hb, hfit, ?_⟩
        obtain ⟨S1, S2, d1, d2, h1, h2⟩ := hr.split len
        rw [List.take_take, Nat.min_eq_left (Nat.mul_le_mul_right _ hle)] at h1
        rw [hlen]
        exact h1.sub fun x hx => ⟨⟨κ, by simp, (d1 x hx).1.1⟩, (d1 x hx).1.2⟩
    · cases ht
  · cases ht
theorem toT0_ok {E : Env} {nt : Nat} {s : SF} {g : Gh} {a : Act} {w : World} (h : Sim E nt s g a w) {pt : T} {x : V} {v : Value} {t : T} {ks : List Nat} (hx : VRep w g x v) (ht : x.toT0 pt s.M = some (t, ks)) :
    OwT w g.fz t (fun b => ∃ k ∈ ks, g.fp k b) v ∧ (∀ k ∈ ks, ∃ A, s.M k = some (.arr A)) := by
  unfold V.toT0 at ht
  split at ht
  case h_1 | h_2 | h_3 =>
    cases ht
    simp only [VRep] at hx
    exact ⟨by simpa only [OwT] using hx, by simp⟩
  case h_4 =>
    cases ht
    simp only [VRep] at hx
    obtain ⟨base, rfl⟩ := hx
    refine ⟨?_, by simp⟩
    simp only [OwT]
    exact ⟨base, 0, rfl, Nat.le_refl _, Nat.zero_le _, .inl ⟨trivial, rfl⟩⟩
  case h_5 =>
    cases ht
    simp only [VRep] at hx
    refine ⟨?_, by simp⟩
    simp only [OwT]
    exact hx.2 trivial
  case h_6 =>
    cases ht
    simp only [VRep] at hx
    refine ⟨?_, by simp⟩
    simp only [OwT, RoT]
    obtain ⟨b, o, xs, e, h1, h2, h3, h4⟩ := hx.2 trivial
    exact ⟨b, o, xs, by rw [e, Nat.add_zero], h1, h2, h3, h4⟩
  case h_7 => exact ref_toT h hx ht
  case h_8 => exact ref_toT h (hv_ref hx) ht
  case h_9 =>
    cases ht
    simp only [VRep] at hx
    exact ⟨by simpa only [OwT] using hx, by simp⟩
  case h_10 => cases ht
theorem toT_ok {E : Env} {nt : Nat} {s : SF} {g : Gh} {a : Act} {w : World} (h : Sim E nt s g a w) {pt : T} {x : V} {v : Value} {t : T} {ks : List Nat} (hx : VRep w g x v) (ht : x.toT pt s.M = some (t, ks)) :
    OwT w g.fz t (fun b => ∃ k ∈ ks, g.fp k b) v ∧ (∀ k ∈ ks, ∃ A, s.M k = some (.arr A)) := by
  unfold V.toT at ht
  split at ht
  · cases ht
    exact ⟨by simp only [OwT], by simp⟩
  · split at ht
    · cases ht
      simp only [VRep] at hx
      exact ⟨by simpa only [OwT] using hx, by simp⟩
    · cases ht
  · exact toT0_ok h hx ht
theorem toTs_ok {E : Env} {nt : Nat} {s : SF} {g : Gh} {a : Act} {w : World} (h : Sim E nt s g a w) : ∀ {pt : List T} {xs : List V} {vs : List Value} {ts : List T} {ks : List Nat}, VRepL w g xs vs → toTs pt s.M xs = some (ts, ks) → nodupK ks = true →
    OwL w g.fz ts (fun b => ∃ k ∈ ks, g.fp k b) vs ∧ (∀ k ∈ ks, ∃ A, s.M k = some (.arr A))
  | _, [], vs, ts, ks, hx, ht, _ => by
    simp only [toTs, Option.some.injEq, Prod.mk.injEq] at ht
    obtain ⟨rfl, rfl⟩ := ht
    simp only [VRepL] at hx
    exact ⟨by simpa only [OwL] using hx, by simp⟩
  | pt, x :: xs, vs, ts, ks, hx, ht, hn => by
    simp only [toTs] at ht
    split at ht
    · rename_i t a' ts' b' h1 h2
      cases ht
      simp only [VRepL] at hx
      obtain ⟨u, us, rfl, h3, h4⟩ := hx
      have nd : ∀ {a b : List Nat}, nodupK (a ++ b) = true → nodupK b = true ∧ ∀ k ∈ a, k ∉ b := by
        intro a b hab
        induction a with
        | nil => exact ⟨hab, by simp⟩
        | cons c cs ih =>
          simp only [List.cons_append, nodupK, Bool.and_eq_true, Bool.not_eq_true', List.contains_eq_mem, decide_eq_false_iff_not, List.mem_append, not_or] at hab
          obtain ⟨⟨_, hcb⟩, hab⟩ := hab
          obtain ⟨i1, i2⟩ := ih hab
          refine ⟨i1, fun k hk => ?_⟩
          rcases List.mem_cons.1 hk with rfl | hk
          · exact hcb
          · exact i2 k hk
      obtain ⟨n1, n2⟩ := nd hn
      obtain ⟨o1, o2⟩ := toT_ok h h3 h1
      obtain ⟨o3, o4⟩ := toTs_ok h h4 h2 n1
      refine ⟨?_, fun k hk => by rcases List.mem_append.1 hk with hk | hk; exact o2 k hk; exact o4 k hk⟩
      simp only [OwL]
      refine ⟨u, us, _, _, rfl, fun b hb => ?_, fun b hb => ?_, o1, o3⟩
      · obtain ⟨k, hk, hf⟩ := hb
        refine ⟨⟨k, List.mem_append_left _ hk, hf⟩, fun hb2 => ?_⟩
        obtain ⟨k2, hk2, hf2⟩ := hb2
        have := h.disj k k2 b (.inr hf) (.inr hf2)
        subst this
        exact n2 k hk hk2
      · obtain ⟨k, hk, hf⟩ := hb
        exact ⟨k, List.mem_append_right _ hk, hf⟩
    · cases ht
theorem toTs_len {M : Nat → Option Mem} : ∀ {pt : List T} {xs : List V} {ts : List T} {ks : List Nat}, toTs pt M xs = some (ts, ks) → ts.length = xs.length
  | _, [], ts, ks, h => by simp only [toTs, Option.some.injEq, Prod.mk.injEq] at h; obtain ⟨rfl, rfl⟩ := h; rfl
  | pt, x :: xs, ts, ks, h => by
    simp only [toTs] at h
    split at h
    · rename_i h1 h2
      cases h
      simp [toTs_len h2]
    · cases h
theorem OwRows.pick {w : World} {fz : Nat → Prop} {sz : Nat} {rows : List (List T)} {S : Nat → Prop} {L : List Value} {i j : Nat} {r : List T} {t : T} (h : OwRows w fz sz rows S L) (hr : rows[i]? = some r) (ht : r[j]? = some t) :
    ∃ (St Sr : Nat → Prop) (u : Value), (∀ b, St b → S b ∧ ¬ Sr b) ∧ (∀ b, Sr b → S b) ∧ L[i * sz + j]? = some u ∧ OwT w fz t St u ∧ OwRows w fz sz (rows.set i (r.set j .junk)) Sr L := by
  obtain ⟨hi, hri⟩ := List.getElem?_eq_some_iff.1 hr
  obtain ⟨hj, htj⟩ := List.getElem?_eq_some_iff.1 ht
  obtain ⟨A1, A2, d1, d2, h1, h2⟩ := h.split i
  rw [List.drop_eq_getElem_cons hi, hri] at h2
  simp only [OwRows] at h2
  obtain ⟨c, d, B1, B2, e, d3, d4, hrl, h3, h4⟩ := h2
  have hcl := h3.length
  obtain ⟨C1, C2, d5, d6, h5, h6⟩ := h3.split j
  rw [List.drop_eq_getElem_cons hj, htj] at h6
  simp only [OwL] at h6
  obtain ⟨u, us, D1, D2, e2, d7, d8, h7, h8⟩ := h6
  have hLij : L[i * sz + j]? = some u := by
    have : (L.drop (i * sz))[j]? = some u := by
      rw [e, List.getElem?_append_left (by omega)]
      have := congrArg (fun l => l[0]?) e2
      simpa using this
    simpa using this
  have sC1 : ∀ b, C1 b → A2 b := fun b hb => (d3 b (d5 b hb).1).1
  have sD2 : ∀ b, D2 b → A2 b := fun b hb => (d3 b (d6 b (d8 b hb))).1
  have sD1 : ∀ b, D1 b → A2 b := fun b hb => (d3 b (d6 b (d7 b hb).1)).1
  refine ⟨D1, fun b => A1 b ∨ ((C1 b ∨ D2 b) ∨ B2 b), u, fun b hb => ⟨d2 b (sD1 b hb), fun hn => ?_⟩, fun b hb => ?_, hLij, h7, ?_⟩
  · rcases hn with hn | (hn | hn) | hn
    · exact (d1 b hn).2 (sD1 b hb)
    · exact (d5 b hn).2 (d7 b hb).1
    · exact (d7 b hb).2 hn
    · exact (d3 b (d6 b (d7 b hb).1)).2 hn
  · rcases hb with hb | (hb | hb) | hb
    · exact (d1 b hb).1
    · exact d2 b (sC1 b hb)
    · exact d2 b (sD2 b hb)
    · exact d2 b (d4 b hb)
  · have hset : rows.set i (r.set j .junk) = rows.take i ++ ([r.take j ++ ([T.junk] ++ r.drop (j + 1))] ++ rows.drop (i + 1)) := by
      rw [List.set_eq_take_append_cons_drop, if_pos hi, List.set_eq_take_append_cons_drop, if_pos hj]
      rfl
    have hL : L = L.take (i * sz) ++ ((c.take j ++ ([u] ++ us)) ++ d) := by
      have : c.take j ++ ([u] ++ us) = c := by
        have : [u] ++ us = c.drop j := by rw [e2]; rfl
        rw [this, List.take_append_drop]
      rw [this, ← e, List.take_append_drop]
    rw [hset, hL]
    have junk : OwL w fz [T.junk] (fun _ => False) [u] := OwL.one (by simp only [OwT])
    refine OwRows.sub (S := fun x => A1 x ∨ ((C1 x ∨ (False ∨ D2 x)) ∨ B2 x)) (fun x hx => ?_) ?_
    · rcases hx with hx | (hx | hx | hx) | hx
      · exact .inl hx
      · exact .inr (.inl (.inl hx))
      · exact hx.elim
      · exact .inr (.inl (.inr hx))
      · exact .inr (.inr hx)
    have h1' : OwRows w fz sz (rows.take i) A1 ((L.take (i * sz) ++ ((c.take j ++ ([u] ++ us)) ++ d)).take (i * sz)) := by rw [← hL]; exact h1
    rw [← hL]
    conv => rhs; rw [hL]
    refine OwRows.join (fun x hx hy => ?_) h1 (OwRows.join (fun x hx hb => ?_) (OwRows.one (by simp; omega) (OwL.join (fun x hx hy => ?_) h5 (OwL.join (fun x hx => hx.elim) junk h8))) h4)
    · rcases hy with (hy | hy | hy) | hy
      · exact (d1 x hx).2 (sC1 x hy)
      · exact hy
      · exact (d1 x hx).2 (sD2 x hy)
      · exact (d1 x hx).2 (d4 x hy)
    · rcases hx with hx | hx | hx
      · exact (d3 x (d5 x hx).1).2 hb
      · exact hx
      · exact (d3 x (d6 x (d8 x hx))).2 hb
    · rcases hy with hy | hy
      · exact hy
      · exact (d5 x hx).2 (d8 x hy)
theorem OwRows.pickV {w : World} {fz : Nat → Prop} {sz : Nat} {rows : List (List T)} {S : Nat → Prop} {L : List Value} {i j : Nat} {r : List T} {t : T} (h : OwRows w fz sz rows S L) (hr : rows[i]? = some r) (ht : r[j]? = some t) :
    ∃ (St Sr : Nat → Prop) (u : Value), (∀ b, St b → S b ∧ ¬ Sr b) ∧ (∀ b, Sr b → S b) ∧ L[i * sz + j]? = some u ∧ OwT w fz t St u ∧ OwRows w fz sz (rows.set i (r.set j (.val u))) Sr L := by
  obtain ⟨hi, hri⟩ := List.getElem?_eq_some_iff.1 hr
  obtain ⟨hj, htj⟩ := List.getElem?_eq_some_iff.1 ht
  obtain ⟨A1, A2, d1, d2, h1, h2⟩ := h.split i
  rw [List.drop_eq_getElem_cons hi, hri] at h2
  simp only [OwRows] at h2
  obtain ⟨c, d, B1, B2, e, d3, d4, hrl, h3, h4⟩ := h2
  have hcl := h3.length
  obtain ⟨C1, C2, d5, d6, h5, h6⟩ := h3.split j
  rw [List.drop_eq_getElem_cons hj, htj] at h6
  simp only [OwL] at h6
  obtain ⟨u, us, D1, D2, e2, d7, d8, h7, h8⟩ := h6
  have hLij : L[i * sz + j]? = some u := by
    have : (L.drop (i * sz))[j]? = some u := by
      rw [e, List.getElem?_append_left (by omega)]
      have := congrArg (fun l => l[0]?) e2
      simpa using this
    simpa using this
  have sC1 : ∀ b, C1 b → A2 b := fun b hb => (d3 b (d5 b hb).1).1
  have sD2 : ∀ b, D2 b → A2 b := fun b hb => (d3 b (d6 b (d8 b hb))).1
  have sD1 : ∀ b, D1 b → A2 b := fun b hb => (d3 b (d6 b (d7 b hb).1)).1
  refine ⟨D1, fun b => A1 b ∨ ((C1 b ∨ D2 b) ∨ B2 b), u, fun b hb => ⟨d2 b (sD1 b hb), fun hn => ?_⟩, fun b hb => ?_, hLij, h7, ?_⟩
  · rcases hn with hn | (hn | hn) | hn
    · exact (d1 b hn).2 (sD1 b hb)
    · exact (d5 b hn).2 (d7 b hb).1
    · exact (d7 b hb).2 hn
    · exact (d3 b (d6 b (d7 b hb).1)).2 hn
  · rcases hb with hb | (hb | hb) | hb
    · exact (d1 b hb).1
    · exact d2 b (sC1 b hb)
    · exact d2 b (sD2 b hb)
    · exact d2 b (d4 b hb)
  · have hset : rows.set i (r.set j (.val u)) = rows.take i ++ ([r.take j ++ ([T.val u] ++ r.drop (j + 1))] ++ rows.drop (i + 1)) := by
      rw [List.set_eq_take_append_cons_drop, if_pos hi, List.set_eq_take_append_cons_drop, if_pos hj]
      rfl
    have hL : L = L.take (i * sz) ++ ((c.take j ++ ([u] ++ us)) ++ d) := by
      have : c.take j ++ ([u] ++ us) = c := by
        have : [u] ++ us = c.drop j := by rw [e2]; rfl
        rw [this, List.take_append_drop]
      rw [this, ← e, List.take_append_drop]
    rw [hset, hL]
    have junk : OwL w fz [T.val u] (fun _ => False) [u] := OwL.one (by simp only [OwT])
    refine OwRows.sub (S := fun x => A1 x ∨ ((C1 x ∨ (False ∨ D2 x)) ∨ B2 x)) (fun x hx => ?_) ?_
    · rcases hx with hx | (hx | hx | hx) | hx
      · exact .inl hx
      · exact .inr (.inl (.inl hx))
      · exact hx.elim
      · exact .inr (.inl (.inr hx))
      · exact .inr (.inr hx)
    have h1' : OwRows w fz sz (rows.take i) A1 ((L.take (i * sz) ++ ((c.take j ++ ([u] ++ us)) ++ d)).take (i * sz)) := by rw [← hL]; exact h1
    rw [← hL]
    conv => rhs; rw [hL]
    refine OwRows.join (fun x hx hy => ?_) h1 (OwRows.join (fun x hx hb => ?_) (OwRows.one (by simp; omega) (OwL.join (fun x hx hy => ?_) h5 (OwL.join (fun x hx => hx.elim) junk h8))) h4)
    · rcases hy with (hy | hy | hy) | hy
      · exact (d1 x hx).2 (sC1 x hy)
      · exact hy
      · exact (d1 x hx).2 (sD2 x hy)
      · exact (d1 x hx).2 (d4 x hy)
    · rcases hx with hx | hx | hx
      · exact (d3 x (d5 x hx).1).2 hb
      · exact hx
      · exact (d3 x (d6 x (d8 x hx))).2 hb
    · rcases hy with hy | hy
      · exact hy
      · exact (d5 x hx).2 (d8 x hy)
section
variable {P : Program} {E : Env} {nt : Nat} {o : Oper} {s : SF}
theorem q_idxS {t e : TypeId} {x i : Operand} {n sz : Nat} {dep : Dep} {rows : List (List T)} {k : IntKind} {m : Int} {r : List T} (ho : o.op = .indexAddr t x i) (hu : P.underlying t = some (.slice e)) (hn : tySz P e = some n) (hx : ev s.F (opd x) = some (.sl dep sz rows)) (hi : ev s.F (opd i) = some (.int k m))
    (hl : liveD s.M dep) (hsz : sz = n) (h0 : 0 ≤ m) (h1 : m < rows.length) (hr : rows[m.toNat]? = some r) : Quiet P E nt o s (.rptr dep r 0) := by
  intro g a w hs
  have h1' := ev_ok hs hx
  have h2 := ev_ok hs hi
  have hlive := liveD_ok hs hl
  subst hsz
  simp only [VRep, RoT] at h1' h2
  obtain ⟨hw, h1'⟩ := h1'
  obtain ⟨base, cap, xs, hv, hcap, hm, hrow, hb⟩ := h1' hlive
  obtain ⟨b, off, hbase, hblt, hok, hcell⟩ := hb (by intro e; rw [e] at hr; simp at hr)
  obtain ⟨c, hc, hlen, hget⟩ := hrow.get hr
  subst hbase
  refine ⟨.pointer (some ⟨b, off + m.toNat * sz, none⟩), ?_, ?_⟩
  · unfold execOp
    rw [ho]; dsimp only
    rw [hv, h2]
    simp [Instr.indexAt, run_underlying hu, asIntOf, h0, h1, run_sizeOf' hn, add_mk]
  · simp only [VRep]
    refine ⟨hw, fun _ => ⟨b, off + m.toNat * sz, c, by simp, hblt, hok, hc, fun j u hj => ?_⟩⟩
    have := hcell _ u (hget j u hj)
    rwa [← Nat.add_assoc] at this
theorem row_cells {g : Gh} {w : World} {κ : Nat} {A : Arr} (hm : MemRep w g κ (.arr A)) {i : Nat} {r : List T} (hr : A.rows[i]? = some r) :
    ∃ b cap cur e, g.ab κ = some (some ⟨b, 0, none⟩, cap, A.sz) ∧ g.fp κ b ∧ w.heap[b]? = some (.cells cur e (0, 0)) ∧ cap * A.sz ≤ cur.size ∧ A.rows.length ≤ cap ∧ cap ≤ maxLen ∧
      OwRows w g.fz A.sz A.rows (fun x => g.fp κ x ∧ x ≠ b) (cur.toList.take (A.rows.length * A.sz)) ∧ r.length = A.sz ∧ ∃ cs, cs.length = A.sz ∧ VRepL w g (T.ownL (some (κ, A.ver)) r) cs ∧ ∀ j u, cs[j]? = some u → cur.toList[i * A.sz + j]? = some u := by
  obtain ⟨hi, _⟩ := List.getElem?_eq_some_iff.1 hr
  have htop : g.top κ = A.ver := by obtain ⟨_, _, _, h, _⟩ := hm; exact h
  obtain ⟨b, cap, cur, e, hab, hfp, hb, hfit, hlc, hmx, hrow⟩ := arr_base hm (by omega)
  obtain ⟨S1, hS, hr1, hrl⟩ := hrow.get hr
  have hcl := hr1.length
  refine ⟨b, cap, cur, e, hab, hfp, hb, hfit, hlc, hmx, hrow, hrl, _, by rw [hcl, hrl], by rw [← htop]; exact OwL.toV (fun x hx => (hS x hx).1) hr1, fun j u hj => ?_⟩
  obtain ⟨hjl, hju⟩ := List.getElem?_eq_some_iff.1 hj
  rw [List.getElem?_take_of_lt (by simp at hjl; omega), List.getElem?_drop] at hj
  rw [List.getElem?_take] at hj
  split at hj
  · exact hj
  · cases hj
theorem q_loadE {t : TypeId} {ad : Operand} {n i j : Nat} {agg : Bool} {κ : Nat} {A : Arr} {r : List T} {v : V} (ho : o.op = .load t ad) (hn : tySz P t = some n) (hb : isAggT P t = some agg) (hx : ev s.F (opd ad) = some (.eptr κ i j)) (hA : s.M κ = some (.arr A))
    (hr : A.rows[i]? = some r) (hp : partV (T.ownL (some (κ, A.ver)) r) j n agg = some v) : Quiet P E nt o s v := by
  intro g a w hs
  have h1 := ev_ok hs hx
  simp only [VRep] at h1
  obtain ⟨b, cap, sz, hab, hv⟩ := h1
  obtain ⟨b', cap', cur, e, hab', hfp, hh, hfit, hlc, hmx, hrow, hrl, cs, hcs, hrep, hcell⟩ := row_cells (hs.mem κ _ hA) hr
  rw [hab] at hab'
  cases hab'
  have hlen := hrep.length
  have hci : ∀ k u, cs[k]? = some u → w.cell? ⟨b, i * A.sz + k, none⟩ = some u := fun k u hk => by
    have := hcell k u hk
    simp only [World.cell?, hh]
    simpa using this
  unfold execOp
  rw [ho]; dsimp only
  rw [hv]
  unfold partV at hp
  cases agg with
  | true =>
    simp only at hp
    split at hp
    · rename_i hle
      cases hp
      have hl : ((cs.drop j).take n).length = n := by simp; omega
      have hcells : ∀ k u, ((cs.drop j).take n)[k]? = some u → w.cell? ((⟨b, i * A.sz + j, none⟩ : Addr).add k) = some u := by
        intro k u hk
        rw [add_mk, Nat.add_assoc]
        refine hci (j + k) u ?_
        obtain ⟨h1, h2⟩ := List.getElem?_eq_some_iff.1 hk
        rw [List.getElem?_take_of_lt (by rw [hl] at h1; exact h1), List.getElem?_drop] at hk
        exact hk
      have hld := run_loadCells_list (P := P) w ⟨b, i * A.sz + j, none⟩ _ hcells
      rw [hl] at hld
      refine ⟨.agg ((cs.drop j).take n).toArray, ?_, ?_⟩
      · simp [loadVar, Instr.loadAt, Instr.sureAddr, run_isAgg hb, run_sizeOf' hn, hld]
      · simp only [VRep]
        exact ⟨_, rfl, (hrep.drop j).take n⟩
    · cases hp
  | false =>
    simp only at hp
    obtain ⟨u, hu, hv'⟩ := hrep.get hp
    have := hci j u hu
    refine ⟨u, ?_, hv'⟩
    simp [loadVar, Instr.loadAt, Instr.sureAddr, run_isAgg hb, this]
theorem take_put {α : Type} (L news : List α) (p m : Nat) (h : p + news.length ≤ m) : (L.take p ++ news ++ L.drop (p + news.length)).take m = (L.take m).take p ++ news ++ (L.take m).drop (p + news.length) := by
  rcases Nat.lt_or_ge L.length p with hl | hl
  · rw [List.take_of_length_le (by omega : L.length ≤ p), List.drop_of_length_le (by omega : L.length ≤ p + news.length), List.append_nil]
    rw [List.take_of_length_le (by simp; omega), List.take_of_length_le (by omega : L.length ≤ m), List.take_of_length_le (by omega : L.length ≤ p), List.drop_of_length_le (by omega : L.length ≤ p + news.length), List.append_nil]
  · have e1 : (L.take p).length = p := by simp; omega
    rw [List.take_append, List.take_of_length_le (by simp; omega), List.take_take, Nat.min_eq_left (by omega)]
    congr 1
    rw [List.length_append, e1, List.drop_take]
theorem op_storeE {t : TypeId} {ad va : Operand} {n i j : Nat} {κ : Nat} {A : Arr} {x : V} {pt r ts : List T} {ks : List Nat} (ho : o.op = .store t ad va) (hdst : o.dst = none) (hn : tySz P t = some n) (had : ev s.F (opd ad) = some (.eptr κ i j)) (hA : s.M κ = some (.arr A)) (hr : A.rows[i]? = some r)
    (hx : ev s.F (opd va) = some x) (hts : toTs pt s.M x.cells = some (ts, ks)) (hnd : nodupK ks = true) (hκ : κ ∉ ks) (hc : x.cells.length = n) (hsc : x.cells.all V.scalar = true) (hl : liveL s.M x.cells) (hj : j + n ≤ A.sz) :
    OpS P E nt o s (s.app o.dst ⟨.undef, (κ, some (.arr ⟨A.sz, A.rows.set i (r.take j ++ ts ++ r.drop (j + n)), A.ver + 1, A.cap⟩)) :: ks.map (fun k => (k, none)), []⟩) := by
  refine OpS.of (by rw [hdst]; trivial) fun g a w hs => ?_
  have h1 := ev_ok hs had
  have h2 := ev_ok hs hx
  simp only [VRep] at h1
  obtain ⟨b, cap, sz, hab, hv⟩ := h1
  obtain ⟨b', cap', cur, e, hab', hfp, hh, hfit, hlc, hmx, hrow, hrl, _⟩ := row_cells (hs.mem κ _ hA) hr
  rw [hab] at hab'
  cases hab'
  obtain ⟨hcells, hone⟩ := h2.cells hsc (liveL_ok hs hl)
  obtain ⟨hown, hks⟩ := toTs_ok hs hcells hts hnd
  have htl := toTs_len hts
  have hlen := hcells.length
  have hnl : (a.eval va).cells.toList.length = n := by omega
  obtain ⟨hi, _⟩ := List.getElem?_eq_some_iff.1 hr
  have hoff : i * A.sz + j + n ≤ A.rows.length * A.sz := by
    have h3 : (i + 1) * A.sz ≤ A.rows.length * A.sz := Nat.mul_le_mul_right _ hi
    rw [Nat.add_mul] at h3
    omega
  have hcap2 : A.rows.length * A.sz ≤ cur.size := Nat.le_trans (Nat.mul_le_mul_right _ hlc) hfit
  have htop : g.top κ = A.ver := by obtain ⟨_, _, _, h, _⟩ := hs.mem κ _ hA; exact h
  have hcapc : ∀ c, A.cap = some c → c = cap := by
    obtain ⟨_, _, hab3, _, _, h⟩ := hs.mem κ _ hA
    rw [hab] at hab3
    cases hab3
    exact h
  let w' := w.setRow b (cur.toList.take (i * A.sz + j) ++ (a.eval va).cells.toList ++ cur.toList.drop (i * A.sz + j + (a.eval va).cells.toList.length)).toArray
  have hsz : w'.heap.size = w.heap.size := by simp [w', World.setRow]
  have hold : ∀ c, c ≠ b → w'.heap[c]? = w.heap[c]? := fun c hc => setRow_other w _ c _ hc
  have hks' : ∀ x k, k ∈ ks → g.fp k x → x ≠ b := fun x k hk hf ee => by
    subst ee
    exact hκ (by rw [hs.disj κ k x (.inr hfp) (.inr hf)]; exact hk)
  have hown' : OwL w' g.fz ts (fun b => ∃ k ∈ ks, g.fp k b) (a.eval va).cells.toList := hown.mono (by omega) (fun c hc hf => ⟨hf, hold c (fun ee => by subst ee; exact hs.ownfz κ c (.inr hfp) hf)⟩) (fun _ => id) (fun c hc _ => by
    obtain ⟨k, hk, hf⟩ := hc
    exact hold c (hks' c k hk hf))
  have hrows' := hrow.put (w' := w') hr (by omega : j + ts.length ≤ A.sz) (by omega) (fun c hc hf => hold c (fun ee => by subst ee; exact hs.ownfz κ c (.inr hfp) hf)) (fun c hc _ => hold c hc.2) hown' (fun x hx => by
    obtain ⟨k, hk, hf⟩ := hx
    intro hx2
    exact hκ (by rw [hs.disj κ k x (.inr hx2.1) (.inr hf)]; exact hk))
  have htn : ts.length = n := by omega
  rw [htn] at hrows'
  have hnew : OwT w' g.fz (.sl true A.sz (A.rows.set i (r.take j ++ ts ++ r.drop (j + n)))) (fun x => g.fp κ x ∨ ∃ k ∈ ks, g.fp k x) (.slice (some ⟨b, 0, none⟩) (A.rows.set i (r.take j ++ ts ++ r.drop (j + n))).length cap) := by
    simp only [OwT]
    refine ⟨_, cap, by simp, by simpa using hlc, hmx, .inr ⟨b, _, e, rfl, .inl hfp, setRow_heap w _ cur _ e _ hh, ?_, ?_⟩⟩
    · simp; omega
    · have e3 : (cur.toList.take (i * A.sz + j) ++ (a.eval va).cells.toList ++ cur.toList.drop (i * A.sz + j + (a.eval va).cells.toList.length)).take ((A.rows.set i (r.take j ++ ts ++ r.drop (j + n))).length * A.sz) =
          (cur.toList.take (A.rows.length * A.sz)).take (i * A.sz + j) ++ (a.eval va).cells.toList ++ (cur.toList.take (A.rows.length * A.sz)).drop (i * A.sz + j + n) := by
        rw [List.length_set, take_put _ _ _ _ (by omega), hnl]
      show OwRows w' g.fz A.sz _ _ _
      rw [e3]
      refine hrows'.sub fun x hx => ?_
      rcases hx with hx | ⟨k, hk, hx⟩
      · exact ⟨.inl hx.1, hx.2⟩
      · exact ⟨.inr ⟨k, hk, hx⟩, hks' x k hk hx⟩
  obtain ⟨g', h', hx', hab2, hfz2, hrest⟩ := hs.setArr (w' := w') κ ks (A := ⟨A.sz, A.rows.set i (r.take j ++ ts ++ r.drop (j + n)), A.ver + 1, A.cap⟩) (S := fun x => g.fp κ x ∨ ∃ k ∈ ks, g.fp k x) (base := some ⟨b, 0, none⟩) (cap := cap)
    rfl rfl rfl (by omega) (.inl ⟨A, hA, hab, rfl⟩) (fun x hx => ⟨fun ee => by subst ee; exact hκ hx, hks x hx⟩) (fun c hc hn1 hn2 => hold c (fun ee => by subst ee; exact hn1 hfp))
    (fun c hc => ⟨by
      rw [hsz]
      rcases hc with hc | ⟨k, _, hc⟩
      · exact (hs.ownlt κ c (.inr hc)).1
      · exact (hs.ownlt k c (.inr hc)).1, by
      rcases hc with hc | ⟨k, hk, hc⟩
      · exact .inl hc
      · exact .inr (.inl ⟨k, hk, hc⟩)⟩) hnew hcapc
  refine ⟨g', w', undef, .inr ⟨?_, rfl⟩, ?_, fun e => absurd hdst e⟩
  · unfold execOp
    rw [ho]; dsimp only
    have hrun := run_storeCells_at P b (i * A.sz + j) e (a.eval va).cells.toList 0 cur w hh (by omega) hone
    simp only [Nat.add_zero] at hrun
    simp only [Instr.storeAt, hv, Instr.sureAddr, storeVar, Sem.run_bind, Sem.run_pure, Result.andThen_ok, run_sizeOf' hn]
    rw [if_neg (by simp only [Array.length_toList] at hnl; omega)]
    simp only [hrun, Result.andThen_ok, Sem.run_pure, pure_bind, w']
  · refine h'.memEq (funext fun y => ?_) (fun y => ?_)
    · simp only [SF.app, look]
      by_cases ee : y = κ
      · simp [ee]
      · simp only [if_neg ee]
        have key : ∀ (l : List Nat), look y (l.map fun k => (k, (none : Option Mem))) = if y ∈ l then some none else none := by
          intro l
          induction l with
          | nil => rfl
          | cons c cs ih =>
            simp only [List.map_cons, look, ih, List.mem_cons]
            by_cases e1 : y = c <;> simp [e1]
        rw [key]
        by_cases e1 : y ∈ ks <;> simp [e1]
    · simp only [SF.app, List.not_mem_nil, false_or]
      constructor
      · rintro (rfl | h)
        · exact (hs.arrK hA).2
        · exact h
      · exact fun h => .inr h
def memN (k : Nat) : List Nat → Bool
  | [] => false
  | a :: l => if k = a then true else memN k l
theorem memN_iff {k : Nat} : ∀ {l : List Nat}, memN k l = true ↔ k ∈ l
  | [] => by simp [memN]
  | a :: l => by
    simp only [memN, List.mem_cons]
    by_cases h : k = a
    · simp [h]
    · simp [h, memN_iff (l := l)]
def reV (M : Nat → Option Mem) (κ n : Nat) (ks : List Nat) : V → V
  | .ref k 0 len => match memN k ks, M k with
    | true, some (.arr A) => .sl (some (κ, n)) A.sz A.rows
    | _, _ => .ref k 0 len
  | x => x
def reP (M : Nat → Option Mem) (ks : List Nat) : V → Prop
  | .ref k 0 len => match memN k ks, M k with
    | true, some (.arr A) => len = A.rows.length
    | _, _ => True
  | _ => True
def reVs (M : Nat → Option Mem) (κ n : Nat) (ks : List Nat) : List V → List V
  | [] => []
  | x :: xs => reV M κ n ks x :: reVs M κ n ks xs
def rePs (M : Nat → Option Mem) (ks : List Nat) : List V → Prop
  | [] => True
  | x :: xs => reP M ks x ∧ rePs M ks xs
theorem reV_ok {g g' : Gh} {w w' : World} {a : Act} {κ n b : Nat} {ks : List Nat} (hs : Sim E nt s g a w) (hx : Ext g w g' w') (hks' : ∀ k ∈ ks, ∀ x, g.fp k x → x ≠ b) (hold : ∀ c, c ≠ b → w'.heap[c]? = w.heap[c]?) (htop : n ≤ g'.top κ) (hfz : ∀ x, g.fz x → g'.fz x) (hfp : ∀ k ∈ ks, ∀ x, g.fp k x → g'.fp κ x) (hfzb : ¬ g.fz b) {x : V} {u : Value} (hv : VRep w g x u) (hp : reP s.M ks x) : VRep w' g' (reV s.M κ n ks x) u := by
  unfold reV
  split
  · rename_i k len
    simp only [reP] at hp
    split
    · rename_i A hk hA
      rw [hk, hA] at hp
      simp only at hp
      obtain ⟨base, cap, hab, _, hown, _⟩ := hs.mem k _ hA
      simp only [VRep] at hv ⊢
      obtain ⟨base2, cap2, sz2, base3, hab2, hle, rfl, hb1, _⟩ := hv
      rw [hab] at hab2
      cases hab2
      have e3 := hb1 trivial
      subst e3
      have hkm : k ∈ ks := memN_iff.1 hk
      refine ⟨htop, fun _ => ?_⟩
      have h1 : OwT w' g'.fz (.sl true A.sz A.rows) (g.fp k) (.slice base3 A.rows.length cap) := hown.mono hx.size (fun c hc hf => ⟨hfz c hf, hold c (fun ee => by subst ee; exact hfzb hf)⟩) (fun _ h => h) (fun c hc _ => hold c (hks' k hkm c hc))
      have h2 := h1.ro (ok := okd g' (some (κ, n))) (fun c hc => .inl hc) (fun c _ hc => .inr (hfp k hkm c hc))
      subst hp
      simpa only [RoT, Nat.sub_zero] using h2
    · exact hv.ext hx
  · exact hv.ext hx
theorem reVs_ok {g g' : Gh} {w w' : World} {a : Act} {κ n b : Nat} {ks : List Nat} (hs : Sim E nt s g a w) (hx : Ext g w g' w') (hks' : ∀ k ∈ ks, ∀ x, g.fp k x → x ≠ b) (hold : ∀ c, c ≠ b → w'.heap[c]? = w.heap[c]?) (htop : n ≤ g'.top κ) (hfz : ∀ x, g.fz x → g'.fz x) (hfp : ∀ k ∈ ks, ∀ x, g.fp k x → g'.fp κ x) (hfzb : ¬ g.fz b) : ∀ {xs : List V} {us : List Value}, VRepL w g xs us → rePs s.M ks xs → VRepL w' g' (reVs s.M κ n ks xs) us
  | [], us, hv, _ => by simpa only [VRepL, reVs] using hv
  | x :: xs, us, hv, hp => by
    simp only [VRepL, reVs] at hv ⊢
    obtain ⟨u, us', rfl, h1, h2⟩ := hv
    exact ⟨u, us', rfl, reV_ok hs hx hks' hold htop hfz hfp hfzb h1 hp.1, reVs_ok hs hx hks' hold htop hfz hfp hfzb h2 hp.2⟩
theorem Sim.knowM {s : SF} {g : Gh} {a : Act} {w : World} (h : Sim E nt s g a w) {k : Nat} {m : Mem} (hm : MemRep w g k m) : Sim E nt ⟨s.F, fun x => if x = k then some m else s.M x, s.B⟩ g a w := by
  refine { h with mem := fun x y hy => ?_, nt := h.nt, defers := h.defers }
  simp only at hy
  split at hy
  · rename_i e; subst e; cases hy; exact hm
  · exact h.mem x y hy
theorem op_storeA {t : TypeId} {ad va : Operand} {n i j : Nat} {κ : Nat} {A : Arr} {x : V} {pt r ts : List T} {ks : List Nat} (ho : o.op = .store t ad va) (hdst : o.dst = none) (hn : tySz P t = some n) (had : ev s.F (opd ad) = some (.eptr κ i j)) (hA : s.M κ = some (.arr A)) (hr : A.rows[i]? = some r)
    (hx : ev s.F (opd va) = some x) (hts : toTs pt s.M x.cells = some (ts, ks)) (hnd : nodupK ks = true) (hκ : κ ∉ ks) (hc : x.cells.length = n) (hsc : x.cells.all V.scalar = true) (hl : liveL s.M x.cells) (hj : j + n ≤ A.sz) {d : Nat} {cells : List V} (hd : s.M d = some (.var cells)) (hre : rePs s.M ks cells) :
    OpS P E nt o s (s.app o.dst ⟨.undef, (κ, some (.arr ⟨A.sz, A.rows.set i (r.take j ++ ts ++ r.drop (j + n)), A.ver + 1, A.cap⟩)) :: (d, some (.var (reVs s.M κ (A.ver + 1) ks cells))) :: ks.map (fun k => (k, none)), []⟩) := by
  refine OpS.of (by rw [hdst]; trivial) fun g a w hs => ?_
  have h1 := ev_ok hs had
  have h2 := ev_ok hs hx
  simp only [VRep] at h1
  obtain ⟨b, cap, sz, hab, hv⟩ := h1
  obtain ⟨b', cap', cur, e, hab', hfp, hh, hfit, hlc, hmx, hrow, hrl, _⟩ := row_cells (hs.mem κ _ hA) hr
  rw [hab] at hab'
  cases hab'
  obtain ⟨hcells, hone⟩ := h2.cells hsc (liveL_ok hs hl)
  obtain ⟨hown, hks⟩ := toTs_ok hs hcells hts hnd
  have htl := toTs_len hts
  have hlen := hcells.length
  have hnl : (a.eval va).cells.toList.length = n := by omega
  obtain ⟨hi, _⟩ := List.getElem?_eq_some_iff.1 hr
  have hoff : i * A.sz + j + n ≤ A.rows.length * A.sz := by
    have h3 : (i + 1) * A.sz ≤ A.rows.length * A.sz := Nat.mul_le_mul_right _ hi
    rw [Nat.add_mul] at h3
    omega
  have hcap2 : A.rows.length * A.sz ≤ cur.size := Nat.le_trans (Nat.mul_le_mul_right _ hlc) hfit
  have htop : g.top κ = A.ver := by obtain ⟨_, _, _, h, _⟩ := hs.mem κ _ hA; exact h
  have hcapc : ∀ c, A.cap = some c → c = cap := by
    obtain ⟨_, _, hab3, _, _, h⟩ := hs.mem κ _ hA
    rw [hab] at hab3
    cases hab3
    exact h
  let w' := w.setRow b (cur.toList.take (i * A.sz + j) ++ (a.eval va).cells.toList ++ cur.toList.drop (i * A.sz + j + (a.eval va).cells.toList.length)).toArray
  have hsz : w'.heap.size = w.heap.size := by simp [w', World.setRow]
  have hold : ∀ c, c ≠ b → w'.heap[c]? = w.heap[c]? := fun c hc => setRow_other w _ c _ hc
  have hks' : ∀ x k, k ∈ ks → g.fp k x → x ≠ b := fun x k hk hf ee => by
    subst ee
    exact hκ (by rw [hs.disj κ k x (.inr hfp) (.inr hf)]; exact hk)
  have hown' : OwL w' g.fz ts (fun b => ∃ k ∈ ks, g.fp k b) (a.eval va).cells.toList := hown.mono (by omega) (fun c hc hf => ⟨hf, hold c (fun ee => by subst ee; exact hs.ownfz κ c (.inr hfp) hf)⟩) (fun _ => id) (fun c hc _ => by
    obtain ⟨k, hk, hf⟩ := hc
    exact hold c (hks' c k hk hf))
  have hrows' := hrow.put (w' := w') hr (by omega : j + ts.length ≤ A.sz) (by omega) (fun c hc hf => hold c (fun ee => by subst ee; exact hs.ownfz κ c (.inr hfp) hf)) (fun c hc _ => hold c hc.2) hown' (fun x hx => by
    obtain ⟨k, hk, hf⟩ := hx
    intro hx2
    exact hκ (by rw [hs.disj κ k x (.inr hx2.1) (.inr hf)]; exact hk))
  have htn : ts.length = n := by omega
  rw [htn] at hrows'
  have hnew : OwT w' g.fz (.sl true A.sz (A.rows.set i (r.take j ++ ts ++ r.drop (j + n)))) (fun x => g.fp κ x ∨ ∃ k ∈ ks, g.fp k x) (.slice (some ⟨b, 0, none⟩) (A.rows.set i (r.take j ++ ts ++ r.drop (j + n))).length cap) := by
    simp only [OwT]
    refine ⟨_, cap, by simp, by simpa using hlc, hmx, .inr ⟨b, _, e, rfl, .inl hfp, setRow_heap w _ cur _ e _ hh, ?_, ?_⟩⟩
    · simp; omega
    · have e3 : (cur.toList.take (i * A.sz + j) ++ (a.eval va).cells.toList ++ cur.toList.drop (i * A.sz + j + (a.eval va).cells.toList.length)).take ((A.rows.set i (r.take j ++ ts ++ r.drop (j + n))).length * A.sz) =
          (cur.toList.take (A.rows.length * A.sz)).take (i * A.sz + j) ++ (a.eval va).cells.toList ++ (cur.toList.take (A.rows.length * A.sz)).drop (i * A.sz + j + n) := by
        rw [List.length_set, take_put _ _ _ _ (by omega), hnl]
      show OwRows w' g.fz A.sz _ _ _
      rw [e3]
      refine hrows'.sub fun x hx => ?_
      rcases hx with hx | ⟨k, hk, hx⟩
      · exact ⟨.inl hx.1, hx.2⟩
      · exact ⟨.inr ⟨k, hk, hx⟩, hks' x k hk hx⟩
  obtain ⟨g', h', hx', hab2, hfz2, hrest⟩ := hs.setArr (w' := w') κ ks (A := ⟨A.sz, A.rows.set i (r.take j ++ ts ++ r.drop (j + n)), A.ver + 1, A.cap⟩) (S := fun x => g.fp κ x ∨ ∃ k ∈ ks, g.fp k x) (base := some ⟨b, 0, none⟩) (cap := cap)
    rfl rfl rfl (by omega) (.inl ⟨A, hA, hab, rfl⟩) (fun x hx => ⟨fun ee => by subst ee; exact hκ hx, hks x hx⟩) (fun c hc hn1 hn2 => hold c (fun ee => by subst ee; exact hn1 hfp))
    (fun c hc => ⟨by
      rw [hsz]
      rcases hc with hc | ⟨k, _, hc⟩
      · exact (hs.ownlt κ c (.inr hc)).1
      · exact (hs.ownlt k c (.inr hc)).1, by
      rcases hc with hc | ⟨k, hk, hc⟩
      · exact .inl hc
      · exact .inr (.inl ⟨k, hk, hc⟩)⟩) hnew hcapc
  refine ⟨g', w', undef, .inr ⟨?_, rfl⟩, ?_, fun e => absurd hdst e⟩
  · unfold execOp
    rw [ho]; dsimp only
    have hrun := run_storeCells_at P b (i * A.sz + j) e (a.eval va).cells.toList 0 cur w hh (by omega) hone
    simp only [Nat.add_zero] at hrun
    simp only [Instr.storeAt, hv, Instr.sureAddr, storeVar, Sem.run_bind, Sem.run_pure, Result.andThen_ok, run_sizeOf' hn]
    rw [if_neg (by simp only [Array.length_toList] at hnl; omega)]
    simp only [hrun, Result.andThen_ok, Sem.run_pure, pure_bind, w']
  · have hdκ : d ≠ κ := fun ee => by subst ee; rw [hA] at hd; cases hd
    have hvar : MemRep w' g' d (.var (reVs s.M κ (A.ver + 1) ks cells)) := by
      obtain ⟨bd, curd, ed, hbd, hhd, hvd⟩ := hs.mem d _ hd
      obtain ⟨hfp2, htop2, hbv2, _⟩ := hrest
      refine ⟨bd, curd, ed, hx'.bv d bd hbd, ?_, ?_⟩
      · rw [hold bd (fun ee => by subst ee; exact hdκ (hs.disj d κ bd (.inl hbd) (.inr hfp)))]
        exact hhd
      · exact reVs_ok hs hx' (fun k hk x hx => hks' x k hk hx) hold (by rw [htop2]; exact Nat.le_refl _) (fun x hx => by rw [hfz2]; exact hx) (fun k hk x hx => by rw [hfp2]; exact .inr ⟨k, hk, hx⟩) (fun hf => hs.ownfz κ b (.inr hfp) hf) hvd hre
    have h8 := h'.knowM hvar
    refine h8.memEq (funext fun y => ?_) (fun y => ?_)
    · simp only [SF.app, look]
      by_cases ee : y = κ
      · subst ee; simp [Ne.symm hdκ]
      · simp only [if_neg ee]
        by_cases e2 : y = d
        · simp [e2]
        · simp only [if_neg e2]
          have key : ∀ (l : List Nat), look y (l.map fun k => (k, (none : Option Mem))) = if y ∈ l then some none else none := by
            intro l
            induction l with
            | nil => rfl
            | cons c cs ih =>
              simp only [List.map_cons, look, ih, List.mem_cons]
              by_cases e1 : y = c <;> simp [e1]
          rw [key]
          by_cases e1 : y ∈ ks <;> simp [e1]
    · simp only [SF.app, List.not_mem_nil, false_or]
      constructor
      · rintro (rfl | h)
        · exact (hs.arrK hA).2
        · exact h
      · exact fun h => .inr h
end
section
variable {P : Program} {E : Env} {nt : Nat} {o : Oper} {s : SF}
theorem op_take {t : TypeId} {ad : Operand} {i j sz : Nat} {κ k : Nat} {A : Arr} {r : List T} {rows : List (List T)} (ho : o.op = .load t ad) (hb : isAggT P t = some false) (hx : ev s.F (opd ad) = some (.eptr κ i j)) (hA : s.M κ = some (.arr A))
    (hr : A.rows[i]? = some r) (hj : r[j]? = some (.sl true sz rows)) (hd : dstOk nt o.dst) (hk : ¬ s.B k) :
    OpS P E nt o s (s.app o.dst ⟨.ref k 0 rows.length, [(κ, some (.arr ⟨A.sz, A.rows.set i (r.set j .junk), A.ver + 1, A.cap⟩)), (k, some (.arr ⟨sz, rows, 1, none⟩))], [k]⟩) := by
  refine OpS.of hd fun g a w hs => ?_
  have h1 := ev_ok hs hx
  simp only [VRep] at h1
  obtain ⟨b, cap, sz0, hab, hv⟩ := h1
  obtain ⟨b', cap', cur, e, hab', hfp, hh, hfit, hlc, hmx, hrow, hrl, _⟩ := row_cells (hs.mem κ _ hA) hr
  rw [hab] at hab'
  cases hab'
  obtain ⟨St, Sr, u, d1, d2, hcell, hown, hrest⟩ := hrow.pick hr hj
  have hcapc : ∀ c, A.cap = some c → c = cap := by
    obtain ⟨_, _, hab3, _, _, h⟩ := hs.mem κ _ hA
    rw [hab] at hab3
    cases hab3
    exact h
  have hkκ : k ≠ κ := fun ee => by subst ee; exact hk (hs.arrK hA).2
  have hnew1 : OwT w g.fz (.sl true A.sz (A.rows.set i (r.set j .junk))) (fun x => x = b ∨ Sr x) (.slice (some ⟨b, 0, none⟩) (A.rows.set i (r.set j .junk)).length cap) := by
    simp only [OwT]
    refine ⟨_, cap, by simp, by simpa using hlc, hmx, .inr ⟨b, cur, e, rfl, .inl rfl, hh, hfit, ?_⟩⟩
    rw [List.length_set]
    exact hrest.sub fun x hx => ⟨.inr hx, (d2 x hx).2⟩
  obtain ⟨g1, s1, x1, hab1, hfz1, hfp1, htop1, hbv1, hoth1⟩ := hs.setArr (w' := w) κ [] (A := ⟨A.sz, A.rows.set i (r.set j .junk), A.ver + 1, A.cap⟩) (S := fun x => x = b ∨ Sr x) (base := some ⟨b, 0, none⟩) (cap := cap)
    rfl rfl rfl (Nat.le_refl _) (.inl ⟨A, hA, hab, rfl⟩) (fun x hx => by cases hx) (fun _ _ _ _ => rfl)
    (fun c hc => by
      have : g.fp κ c := by
        rcases hc with rfl | hc
        · exact hfp
        · exact (d2 c hc).1
      exact ⟨(hs.ownlt κ c (.inr this)).1, .inl this⟩) hnew1 hcapc
  simp only [OwT] at hown
  obtain ⟨base2, cap2, hu, hc2, hm2, hown2⟩ := hown
  subst hu
  have hun : ∀ c, St c → (∀ x, ¬ Own g1 x c) ∧ ¬ g1.fz c ∧ (E.wr c ∨ E.w0.heap.size ≤ c) := by
    intro c hc
    have hcκ : Own g κ c := .inr (d1 c hc).1.1
    refine ⟨fun x hox => ?_, by rw [hfz1]; exact hs.ownfz κ c hcκ, (hs.ownlt κ c hcκ).2⟩
    rcases hox with hox | hox
    · rw [hbv1] at hox
      have := hs.disj x κ c (.inl hox) hcκ
      subst this
      have := (hs.arrK hA).1
      rw [hox] at this
      cases this
    · by_cases ee : x = κ
      · subst ee
        rw [hfp1] at hox
        rcases hox with rfl | hox
        · exact (d1 c hc).1.2 rfl
        · exact (d1 c hc).2 hox
      · rw [(hoth1 x ee (by simp)).1] at hox
        exact ee (hs.disj x κ c (.inr hox) hcκ)
  obtain ⟨g2, s2, x2, hab2, hfz2, hfp2, htop2, hbv2, hoth2⟩ := s1.setArr (w' := w) k [] (A := ⟨sz, rows, 1, none⟩) (S := St) (base := base2) (cap := cap2)
    rfl rfl rfl (Nat.le_refl _) (.inr ⟨fun hb => by rcases hb with hb | hb; exact hkκ hb; exact hk hb, rfl⟩) (fun x hx => by cases hx) (fun _ _ _ _ => rfl)
    (fun c hc => ⟨(hs.ownlt κ c (.inr (d1 c hc).1.1)).1, .inr (.inr (hun c hc))⟩) (by rw [hfz1]; simp only [OwT]; exact ⟨base2, cap2, rfl, hc2, hm2, hown2⟩) (fun c hc => by cases hc)
  refine ⟨g2, w, .slice base2 rows.length cap2, .inl ?_, ?_, fun _ => ?_⟩
  · unfold execOp
    rw [ho]; dsimp only
    rw [hv]
    have hc : w.cell? ⟨b, i * A.sz + j, none⟩ = some (.slice base2 rows.length cap2) := by
      simp only [World.cell?, hh]
      rw [List.getElem?_take] at hcell
      split at hcell
      · simpa using hcell
      · cases hcell
    simp [loadVar, Instr.loadAt, Instr.sureAddr, run_isAgg hb, hc]
  · refine s2.memEq (funext fun y => ?_) (fun y => ?_)
    · simp only [SF.app, look]
      by_cases e1 : y = κ
      · subst e1; simp [Ne.symm hkκ]
      · by_cases e2 : y = k <;> simp [e1, e2, hkκ]
    · simp only [SF.app, List.mem_singleton]
      constructor
      · rintro (rfl | rfl | h)
        · exact .inl rfl
        · exact .inr (hs.arrK hA).2
        · exact .inr h
      · rintro (rfl | h)
        · exact .inl rfl
        · exact .inr (.inr h)
  · simp only [VRep]
    exact ⟨base2, cap2, sz, base2, hab2, by omega, rfl, fun _ => rfl, fun _ => by cases base2 <;> simp [Addr.add]⟩
theorem op_takeH {t : TypeId} {ad : Operand} {i j sz : Nat} {κ k : Nat} {A : Arr} {r : List T} {rows : List (List T)} (ho : o.op = .load t ad) (hb : isAggT P t = some false) (hx : ev s.F (opd ad) = some (.eptr κ i j)) (hA : s.M κ = some (.arr A))
    (hr : A.rows[i]? = some r) (hj : r[j]? = some (.sl true sz rows)) (hd : dstOk nt o.dst) (hk : ¬ s.B k) :
    OpS P E nt o s (s.app o.dst ⟨.hm κ (A.ver + 1) i j k rows.length, [(κ, some (.arr ⟨A.sz, A.rows.set i (r.set j .junk), A.ver + 1, A.cap⟩)), (k, some (.arr ⟨sz, rows, 1, none⟩))], [k]⟩) := by
  refine OpS.of hd fun g a w hs => ?_
  have h1 := ev_ok hs hx
  simp only [VRep] at h1
  obtain ⟨b, cap, sz0, hab, hv⟩ := h1
  obtain ⟨b', cap', cur, e, hab', hfp, hh, hfit, hlc, hmx, hrow, hrl, _⟩ := row_cells (hs.mem κ _ hA) hr
  rw [hab] at hab'
  cases hab'
  obtain ⟨St, Sr, u, d1, d2, hcell, hown, hrest⟩ := hrow.pick hr hj
  have hcapc : ∀ c, A.cap = some c → c = cap := by
    obtain ⟨_, _, hab3, _, _, h⟩ := hs.mem κ _ hA
    rw [hab] at hab3
    cases hab3
    exact h
  have hkκ : k ≠ κ := fun ee => by subst ee; exact hk (hs.arrK hA).2
  have hnew1 : OwT w g.fz (.sl true A.sz (A.rows.set i (r.set j .junk))) (fun x => x = b ∨ Sr x) (.slice (some ⟨b, 0, none⟩) (A.rows.set i (r.set j .junk)).length cap) := by
    simp only [OwT]
    refine ⟨_, cap, by simp, by simpa using hlc, hmx, .inr ⟨b, cur, e, rfl, .inl rfl, hh, hfit, ?_⟩⟩
    rw [List.length_set]
    exact hrest.sub fun x hx => ⟨.inr hx, (d2 x hx).2⟩
  obtain ⟨g1, s1, x1, hab1, hfz1, hfp1, htop1, hbv1, hoth1⟩ := hs.setArr (w' := w) κ [] (A := ⟨A.sz, A.rows.set i (r.set j .junk), A.ver + 1, A.cap⟩) (S := fun x => x = b ∨ Sr x) (base := some ⟨b, 0, none⟩) (cap := cap)
    rfl rfl rfl (Nat.le_refl _) (.inl ⟨A, hA, hab, rfl⟩) (fun x hx => by cases hx) (fun _ _ _ _ => rfl)
    (fun c hc => by
      have : g.fp κ c := by
        rcases hc with rfl | hc
        · exact hfp
        · exact (d2 c hc).1
      exact ⟨(hs.ownlt κ c (.inr this)).1, .inl this⟩) hnew1 hcapc
  simp only [OwT] at hown
  obtain ⟨base2, cap2, hu, hc2, hm2, hown2⟩ := hown
  subst hu
  have hun : ∀ c, St c → (∀ x, ¬ Own g1 x c) ∧ ¬ g1.fz c ∧ (E.wr c ∨ E.w0.heap.size ≤ c) := by
    intro c hc
    have hcκ : Own g κ c := .inr (d1 c hc).1.1
    refine ⟨fun x hox => ?_, by rw [hfz1]; exact hs.ownfz κ c hcκ, (hs.ownlt κ c hcκ).2⟩
    rcases hox with hox | hox
    · rw [hbv1] at hox
      have := hs.disj x κ c (.inl hox) hcκ
      subst this
      have := (hs.arrK hA).1
      rw [hox] at this
      cases this
    · by_cases ee : x = κ
      · subst ee
        rw [hfp1] at hox
        rcases hox with rfl | hox
        · exact (d1 c hc).1.2 rfl
        · exact (d1 c hc).2 hox
      · rw [(hoth1 x ee (by simp)).1] at hox
        exact ee (hs.disj x κ c (.inr hox) hcκ)
  obtain ⟨g2, s2, x2, hab2, hfz2, hfp2, htop2, hbv2, hoth2⟩ := s1.setArr (w' := w) k [] (A := ⟨sz, rows, 1, none⟩) (S := St) (base := base2) (cap := cap2)
    rfl rfl rfl (Nat.le_refl _) (.inr ⟨fun hb => by rcases hb with hb | hb; exact hkκ hb; exact hk hb, rfl⟩) (fun x hx => by cases hx) (fun _ _ _ _ => rfl)
    (fun c hc => ⟨(hs.ownlt κ c (.inr (d1 c hc).1.1)).1, .inr (.inr (hun c hc))⟩) (by rw [hfz1]; simp only [OwT]; exact ⟨base2, cap2, rfl, hc2, hm2, hown2⟩) (fun c hc => by cases hc)
  refine ⟨g2, w, .slice base2 rows.length cap2, .inl ?_, ?_, fun _ => ?_⟩
  · unfold execOp
    rw [ho]; dsimp only
    rw [hv]
    have hc : w.cell? ⟨b, i * A.sz + j, none⟩ = some (.slice base2 rows.length cap2) := by
      simp only [World.cell?, hh]
      rw [List.getElem?_take] at hcell
      split at hcell
      · simpa using hcell
      · cases hcell
    simp [loadVar, Instr.loadAt, Instr.sureAddr, run_isAgg hb, hc]
  · refine s2.memEq (funext fun y => ?_) (fun y => ?_)
    · simp only [SF.app, look]
      by_cases e1 : y = κ
      · subst e1; simp [Ne.symm hkκ]
      · by_cases e2 : y = k <;> simp [e1, e2, hkκ]
    · simp only [SF.app, List.mem_singleton]
      constructor
      · rintro (rfl | rfl | h)
        · exact .inl rfl
        · exact .inr (hs.arrK hA).2
        · exact .inr h
      · rintro (rfl | h)
        · exact .inl rfl
        · exact .inr (.inr h)
  · simp only [VRep]
    obtain ⟨o1, o2, o3⟩ := hoth2 κ (Ne.symm hkκ) (by simp)
    refine ⟨⟨base2, cap2, sz, hab2, hc2, rfl⟩, ?_, fun _ => ⟨b, cap, A.sz, by rw [o3]; exact hab1, by rw [o1, hfp1]; exact .inl rfl, ?_, ?_⟩⟩
    · simp only [was]; rw [o2, htop1]; exact Nat.le_refl _
    · exact (hs.ownlt κ b (.inr hfp)).1
    · simp only [World.cell?, hh]
      rw [List.getElem?_take] at hcell
      split at hcell
      · simpa using hcell
      · cases hcell
theorem Sim.takeV {g : Gh} {a : Act} {w : World} (hs : Sim E nt s g a w) {i j sz : Nat} {κ k : Nat} {A : Arr} {r : List T} {rows : List (List T)} (hA : s.M κ = some (.arr A)) (hr : A.rows[i]? = some r) (hj : r[j]? = some (.sl true sz rows)) (hk : ¬ s.B k) :
    ∃ u g2, Sim E nt ⟨s.F, fun x => if x = k then some (.arr ⟨sz, rows, 1, none⟩) else if x = κ then some (.arr ⟨A.sz, A.rows.set i (r.set j (.val u)), A.ver + 1, A.cap⟩) else s.M x, fun x => x = k ∨ s.B x⟩ g2 a w ∧ VRep w g2 (.hv k rows.length u) u := by
  obtain ⟨b, cap, cur, e, hab, hfp, hh, hfit, hlc, hmx, hrow, hrl, _⟩ := row_cells (hs.mem κ _ hA) hr
  obtain ⟨St, Sr, u, d1, d2, hcell, hown, hrest⟩ := hrow.pickV hr hj
  have hcapc : ∀ c, A.cap = some c → c = cap := by
    obtain ⟨_, _, hab3, _, _, h⟩ := hs.mem κ _ hA
    rw [hab] at hab3
    cases hab3
    exact h
  have hkκ : k ≠ κ := fun ee => by subst ee; exact hk (hs.arrK hA).2
  have hnew1 : OwT w g.fz (.sl true A.sz (A.rows.set i (r.set j (.val u)))) (fun x => x = b ∨ Sr x) (.slice (some ⟨b, 0, none⟩) (A.rows.set i (r.set j (.val u))).length cap) := by
    simp only [OwT]
    refine ⟨_, cap, by simp, by simpa using hlc, hmx, .inr ⟨b, cur, e, rfl, .inl rfl, hh, hfit, ?_⟩⟩
    rw [List.length_set]
    exact hrest.sub fun x hx => ⟨.inr hx, (d2 x hx).2⟩
  obtain ⟨g1, s1, x1, hab1, hfz1, hfp1, htop1, hbv1, hoth1⟩ := hs.setArr (w' := w) κ [] (A := ⟨A.sz, A.rows.set i (r.set j (.val u)), A.ver + 1, A.cap⟩) (S := fun x => x = b ∨ Sr x) (base := some ⟨b, 0, none⟩) (cap := cap)
    rfl rfl rfl (Nat.le_refl _) (.inl ⟨A, hA, hab, rfl⟩) (fun x hx => by cases hx) (fun _ _ _ _ => rfl)
    (fun c hc => by
      have : g.fp κ c := by
        rcases hc with rfl | hc
        · exact hfp
        · exact (d2 c hc).1
      exact ⟨(hs.ownlt κ c (.inr this)).1, .inl this⟩) hnew1 hcapc
  simp only [OwT] at hown
  obtain ⟨base2, cap2, hu, hc2, hm2, hown2⟩ := hown
  have hun : ∀ c, St c → (∀ x, ¬ Own g1 x c) ∧ ¬ g1.fz c ∧ (E.wr c ∨ E.w0.heap.size ≤ c) := by
    intro c hc
    have hcκ : Own g κ c := .inr (d1 c hc).1.1
    refine ⟨fun x hox => ?_, by rw [hfz1]; exact hs.ownfz κ c hcκ, (hs.ownlt κ c hcκ).2⟩
    rcases hox with hox | hox
    · rw [hbv1] at hox
      have := hs.disj x κ c (.inl hox) hcκ
      subst this
      have := (hs.arrK hA).1
      rw [hox] at this
      cases this
    · by_cases ee : x = κ
      · subst ee
        rw [hfp1] at hox
        rcases hox with rfl | hox
        · exact (d1 c hc).1.2 rfl
        · exact (d1 c hc).2 hox
      · rw [(hoth1 x ee (by simp)).1] at hox
        exact ee (hs.disj x κ c (.inr hox) hcκ)
  obtain ⟨g2, s2, x2, hab2, hfz2, hfp2, htop2, hbv2, hoth2⟩ := s1.setArr (w' := w) k [] (A := ⟨sz, rows, 1, none⟩) (S := St) (base := base2) (cap := cap2)
    rfl rfl rfl (Nat.le_refl _) (.inr ⟨fun hb => by rcases hb with hb | hb; exact hkκ hb; exact hk hb, rfl⟩) (fun x hx => by cases hx) (fun _ _ _ _ => rfl)
    (fun c hc => ⟨(hs.ownlt κ c (.inr (d1 c hc).1.1)).1, .inr (.inr (hun c hc))⟩) (by rw [hfz1]; simp only [OwT]; exact ⟨base2, cap2, rfl, hc2, hm2, hown2⟩) (fun c hc => by cases hc)
  refine ⟨u, g2, s2.memEq (funext fun y => ?_) (fun y => ?_), ?_⟩
  · by_cases e1 : y = k
    · subst e1; simp
    · by_cases e2 : y = κ <;> simp [e1, e2]
  · constructor
    · rintro (rfl | rfl | h)
      · exact .inl rfl
      · exact .inr (hs.arrK hA).2
      · exact .inr h
    · rintro (rfl | h)
      · exact .inl rfl
      · exact .inr (.inr h)
  · simp only [VRep]
    exact ⟨trivial, base2, cap2, sz, hab2, hc2, hu⟩
def chunk (sz : Nat) : Nat → List T → List (List T)
  | 0, _ => []
  | n + 1, l => l.take sz :: chunk sz n (l.drop sz)
theorem chunk_length (sz : Nat) : ∀ (n : Nat) (l : List T), (chunk sz n l).length = n
  | 0, _ => rfl
  | n + 1, l => by simp [chunk, chunk_length sz n]
theorem chunk_ok {w : World} {fz : Nat → Prop} {sz : Nat} : ∀ {n : Nat} {ts : List T} {S : Nat → Prop} {xs : List Value}, OwL w fz ts S xs → ts.length = n * sz → OwRows w fz sz (chunk sz n ts) S xs
  | 0, ts, S, xs, h, hl => by
    have : ts = [] := List.eq_nil_of_length_eq_zero (by simpa using hl)
    subst this
    simpa only [chunk, OwRows, OwL] using h
  | n + 1, ts, S, xs, h, hl => by
    have hl' : ts.length = sz + n * sz := by rw [hl, Nat.add_mul, Nat.one_mul, Nat.add_comm]
    obtain ⟨S1, S2, d1, d2, h1, h2⟩ := h.split sz
    simp only [chunk, OwRows]
    exact ⟨xs.take sz, xs.drop sz, S1, S2, (List.take_append_drop _ _).symm, d1, d2, by simp; omega, h1, chunk_ok h2 (by simp; omega)⟩
theorem Sim.newArr {g : Gh} {a : Act} {w w' : World} (h : Sim E nt s g a w) {k : Nat} {ks : List Nat} {A : Arr} {cap : Nat} {cur : Array Value} {e : TypeId} (hk : ¬ s.B k) (hver : A.ver = 1) (hcap : ∀ c, A.cap = some c → c = cap)
    (ho : w'.os = w.os) (ht : w'.tape = w.tape) (hout : w'.output = w.output) (hsz : w'.heap.size = w.heap.size + 1) (hold : ∀ b, b < w.heap.size → w'.heap[b]? = w.heap[b]?)
    (hnew : w'.heap[w.heap.size]? = some (.cells cur e (0, 0))) (hlc : A.rows.length ≤ cap) (hm : cap ≤ maxLen) (hfit : cap * A.sz ≤ cur.size) (hks : ∀ x ∈ ks, ∃ A, s.M x = some (.arr A))
    (hrow : OwRows w g.fz A.sz A.rows (fun b => ∃ x ∈ ks, g.fp x b) (cur.toList.take (A.rows.length * A.sz))) :
    ∃ g', Sim E nt ⟨s.F, fun x => if x = k then some (.arr A) else if x ∈ ks then none else s.M x, fun x => x = k ∨ s.B x⟩ g' a w' ∧ Ext g w g' w' ∧ g'.ab k = some (some ⟨w.heap.size, 0, none⟩, cap, A.sz) := by
  have hnewA : OwT w' g.fz (.sl true A.sz A.rows) (fun b => b = w.heap.size ∨ ∃ x ∈ ks, g.fp x b) (.slice (some ⟨w.heap.size, 0, none⟩) A.rows.length cap) := by
    simp only [OwT]
    refine ⟨_, cap, rfl, hlc, hm, .inr ⟨w.heap.size, cur, e, rfl, .inl rfl, hnew, hfit, ?_⟩⟩
    refine hrow.mono (by omega) (fun b hb hf => ⟨hf, hold b hb⟩) (fun b hb => ?_) (fun b _ hl => hold b hl)
    refine ⟨.inr hb, fun ee => ?_⟩
    obtain ⟨x, _, hf⟩ := hb
    have := (h.ownlt x b (.inr hf)).1
    omega
  obtain ⟨g', h', x', hab, hrest⟩ := h.setArr (w' := w') k ks (A := A) (S := fun b => b = w.heap.size ∨ ∃ x ∈ ks, g.fp x b) (base := some ⟨w.heap.size, 0, none⟩) (cap := cap) ho ht hout (by omega) (.inr ⟨hk, hver⟩)
    (fun x hx => ⟨fun ee => by subst ee; obtain ⟨A, hA⟩ := hks x hx; exact hk (h.arrK hA).2, hks x hx⟩) (fun b hb _ _ => hold b hb)
    (fun c hc => by
      rcases hc with rfl | ⟨x, hx, hc⟩
      · exact ⟨by omega, .inr (.inr (h.fresh (Nat.le_refl _)))⟩
      · have := (h.ownlt x c (.inr hc)).1
        exact ⟨by omega, .inr (.inl ⟨x, hx, hc⟩)⟩) hnewA hcap
  exact ⟨g', h', x', hab⟩
end
theorem VRepL.replicate {w : World} {g : Gh} {xs : List V} {vs : List Value} (h : VRepL w g xs vs) : ∀ n, VRepL w g (List.replicate n xs).flatten (List.replicate n vs).flatten
  | 0 => by simp [VRepL]
  | n + 1 => by simpa [List.replicate_succ] using h.append (VRepL.replicate h n)
theorem madeCells_flat (z : Array Value) (hz : z.size ≠ 0) : ∀ n, ((Array.range (n * z.size)).map (z[· % z.size]!)).toList = (List.replicate n z.toList).flatten := by
  intro n
  apply List.ext_getElem?
  intro i
  have hlen : ((List.replicate n z.toList).flatten).length = n * z.size := by simp
  by_cases hi : i < n * z.size
  · have h1 : i % z.size < z.size := Nat.mod_lt _ (Nat.pos_of_ne_zero hz)
    have e1 : ((Array.range (n * z.size)).map (z[· % z.size]!)).toList[i]? = some z[i % z.size] := by
      simp [hi, h1]
    rw [e1]
    clear e1 hlen
    induction n generalizing i with
    | zero => simp at hi
    | succ n ih =>
      rw [List.replicate_succ, List.flatten_cons]
      by_cases hlt : i < z.size
      · rw [List.getElem?_append_left (by simpa using hlt)]
        simp [Nat.mod_eq_of_lt hlt, hlt]
      · rw [List.getElem?_append_right (by simpa using hlt)]
        have hi' : i - z.size < n * z.size := by rw [Nat.add_mul] at hi; omega
        have h2 : (i - z.size) % z.size < z.size := Nat.mod_lt _ (Nat.pos_of_ne_zero hz)
        have := ih (i - z.size) hi' h2
        simp only [Array.length_toList]
        rw [← this]
        congr 2
        exact (Nat.mod_eq_sub_mod (by omega))
  · rw [List.getElem?_eq_none (by simp; omega), List.getElem?_eq_none (by rw [hlen]; omega)]
theorem fillO_len {F : Nat → Option V} : ∀ {ps : List (Nat × Nat × Opd)} {cells out : List V}, fillO F cells ps = some out → out.length = cells.length
  | [], cells, out, h => by simp only [fillO, Option.some.injEq] at h; rw [h]
  | (off, n, od) :: ps, cells, out, h => by
    simp only [fillO] at h
    split at h
    · split at h
      · rename_i hc
        rw [fillO_len h]
        simp
        omega
      · cases h
    · cases h
def V.zT (pt : T) : V → T
  | .int k n => .int k n
  | .bool b => .bool b
  | .str s => .str s
  | .nil => .sl true pt.esz []
  | _ => .junk
theorem zT_ok {pt : T} {w : World} {g : Gh} {x : V} {v : Value} {fz S : Nat → Prop} (h : VRep w g x v)   : OwT w fz (x.zT pt) S v := by
  cases x <;> simp only [V.zT, OwT] <;> simp only [VRep] at h <;> try (exact h)
  obtain ⟨base, rfl⟩ := h
  exact ⟨base, 0, rfl, Nat.le_refl _, Nat.zero_le _, .inl ⟨trivial, rfl⟩⟩
def zTs (pt : List T) : List V → List T
  | [] => []
  | x :: xs => x.zT (hdT pt) :: zTs (tlT pt) xs
theorem zTs_len : ∀ {pt : List T} {xs : List V}, (zTs pt xs).length = xs.length
  | _, [] => rfl
  | pt, x :: xs => by simp [zTs, zTs_len (pt := tlT pt) (xs := xs)]
theorem zTs_ok {w : World} {g : Gh} {fz S : Nat → Prop} : ∀ {pt : List T} {xs : List V} {vs : List Value}, VRepL w g xs vs → OwL w fz (zTs pt xs) S vs
  | _, [], vs, h => by simpa only [zTs, OwL, VRepL] using h
  | pt, x :: xs, vs, h => by
    simp only [VRepL] at h
    obtain ⟨u, us, rfl, h1, h2⟩ := h
    simp only [zTs, OwL]
    exact ⟨u, us, fun _ => False, S, rfl, fun _ h => h.elim, fun _ h => h, zT_ok h1, zTs_ok h2⟩
theorem zRows_ok {pt : List T} {w : World} {g : Gh} {fz S : Nat → Prop} {xs : List V} {vs : List Value} (h : VRepL w g xs vs) : ∀ n, OwRows w fz xs.length (List.replicate n (zTs pt xs)) S (List.replicate n vs).flatten
  | 0 => by simp [OwRows]
  | n + 1 => by
    simp only [List.replicate_succ, List.flatten_cons, OwRows]
    exact ⟨vs, _, fun _ => False, S, rfl, fun _ h => h.elim, fun _ h => h, zTs_len, zTs_ok h, zRows_ok h n⟩
section
variable {P : Program} {E : Env} {nt : Nat} {o : Oper} {s : SF}
theorem look_none {β : Type} (y : Nat) : ∀ (l : List Nat), look y (l.map fun k => (k, (none : Option β))) = if y ∈ l then some none else none
  | [] => rfl
  | c :: cs => by
    simp only [List.map_cons, look, look_none y cs, List.mem_cons]
    by_cases e1 : y = c <;> simp [e1]
theorem app_new {k : Nat} {ks : List Nat} {A : Arr} {v : V} {d : Option Tmp} : (s.app d ⟨v, (k, some (.arr A)) :: ks.map (fun k => (k, none)), [k]⟩).M = (fun x => if x = k then some (.arr A) else if x ∈ ks then none else s.M x) ∧
    ∀ y, (y = k ∨ s.B y) ↔ (s.app d ⟨v, (k, some (.arr A)) :: ks.map (fun k => (k, none)), [k]⟩).B y := by
  constructor
  · funext y
    simp only [SF.app, look, look_none]
    by_cases e1 : y = k
    · simp [e1]
    · by_cases e2 : y ∈ ks <;> simp [e1, e2]
  · intro y
    simp [SF.app]
theorem op_bsl {t e : TypeId} {len n : Nat} {parts : Array (Nat × Operand)} {zs cells : List V} {pt ts : List T} {ks : List Nat} {k : Nat} (ho : o.op = .buildSlice t len parts) (hu : P.underlying t = some (.slice e)) (hz : zeroOf P e = some zs) (hn : tySz P e = some n) (h0 : n ≠ 0) (hsm : len * n ≤ 16777216) (hzl : zs.length = n)
    (hf : fillO s.F ((List.replicate len zs).flatten) ((parts.toList.map fun p => (p.1, opd p.2)).map fun q => (q.1 * n, n, q.2)) = some cells) (hl : liveO s.F s.M ((parts.toList.map fun p => (p.1, opd p.2)).map (·.2))) (hts : toTs pt s.M cells = some (ts, ks)) (hnd : nodupK ks = true) (hd : dstOk nt o.dst) (hk : ¬ s.B k) :
    OpS P E nt o s (s.app o.dst ⟨.ref k 0 len, (k, some (.arr ⟨n, chunk n len ts, 1, none⟩)) :: ks.map (fun k => (k, none)), [k]⟩) := by
  refine OpS.of hd fun g a w hs => ?_
  obtain ⟨i, zv, hi, hzv, hrep⟩ := zeroOf_info hz
  have hsi : i.size = n := by unfold tySz at hn; rw [hi] at hn; simpa using hn
  have hzl2 := (hrep w g).length
  simp only [Array.length_toList] at hzl2
  have hzero : VRepL w g (List.replicate len zs).flatten ((Array.range (len * n)).map (zv.cells[· % zv.cells.size]!)).toList := by
    have hsz : n = zv.cells.size := by omega
    rw [hsz, madeCells_flat zv.cells (by omega)]
    exact (hrep w g).replicate len
  obtain ⟨cs', hf', ho'⟩ := fillO_ok hs (place := fun i => some (i * n, n)) (ps := parts.toList) (by simp) hf (by simpa [Function.comp_def] using hl) hzero
  have hcl := ho'.length
  simp only [Array.length_toList] at hcl
  have hol : cells.length = len * n := by rw [fillO_len hf]; simp [hzl]
  obtain ⟨hown, hks⟩ := toTs_ok hs ho' hts hnd
  have htl := toTs_len hts
  have hrow : OwRows w g.fz n (chunk n len ts) (fun b => ∃ x ∈ ks, g.fp x b) (cs'.toList.take ((chunk n len ts).length * n)) := by
    rw [chunk_length, List.take_of_length_le (by simp; omega)]
    exact chunk_ok hown (by omega)
  obtain ⟨g', h', hx, hab⟩ := hs.newArr (w' := w.alloc (.cells cs' e)) (ks := ks) (A := ⟨n, chunk n len ts, 1, none⟩) (cap := len) (cur := cs') (e := e) hk rfl (fun c hc => by cases hc) rfl rfl rfl (by simp) (fun b hb => heap_alloc_old w _ hb)
    (heap_alloc_new w _) (by simp [chunk_length]) (by simp only [maxLen]; have := Nat.le_mul_of_pos_right len (Nat.pos_of_ne_zero h0); omega) (by simp; omega) hks hrow
  have hrun : (Instr.buildSlice t len (parts.map fun (i, x) => (i, a.eval x))).run P w = .ok (.slice (some ⟨w.heap.size, 0, none⟩) len len) (w.alloc (.cells cs' e)) := by
    have hm : (parts.map fun (i, x) => (i, a.eval x)).toList = parts.toList.map fun p => (p.1, a.eval p.2) := by simp
    have hsmall : ¬ len * n > 16777216 := by omega
    by_cases hl0 : len * n = 0
    · have : len = 0 := by
        rcases Nat.mul_eq_zero.1 hl0 with e | e
        · exact e
        · exact absurd e h0
      subst this
      have hf'' : Instr.fill (fun i => some (i * n, n)) #[] (parts.toList.map fun p => (p.1, a.eval p.2)) = some cs' := by simpa [Array.range_zero'] using hf'
      simp [Instr.buildSlice, run_underlying hu, run_sizeOf' hn, newRow, hf'', Array.range_zero']
    · simp only [Instr.buildSlice, Sem.run_bind, run_underlying hu, Result.andThen_ok, run_sizeOf' hn, if_neg hsmall, if_neg hl0, zeroValue, typeInfo, run_program, hi, hzv, Sem.run_pure, hm]
      simp only [if_neg hsmall, pure_bind, Sem.run_bind, Sem.run_pure, run_program, Result.andThen_ok, hi, hzv, hf', newRow, run_newObj]
      rfl
  refine ⟨g', w.alloc (.cells cs' e), .slice (some ⟨w.heap.size, 0, none⟩) len len, .inl ?_, h'.memEq app_new.1 app_new.2, fun _ => ?_⟩
  · unfold execOp
    rw [ho]; dsimp only
    simp only [Sem.run_bind, hrun, Result.andThen_ok, Sem.run_pure]
  · simp only [VRep]
    exact ⟨_, len, n, _, hab, by omega, rfl, fun _ => rfl, fun _ => by simp [Addr.add]⟩
theorem op_mks {pt : List T} {t e : TypeId} {lo co : Operand} {zs : List V} {inf : TypeInfo} {kl kc : IntKind} {l c : Int} {k : Nat} (ho : o.op = .makeSlice t lo co) (hu : P.underlying t = some (.slice e)) (hz : zeroOf P e = some zs) (hi : P.info? e = some inf) (h0 : inf.size ≠ 0) (hzl : zs.length = inf.size)
    (hl : ev s.F (opd lo) = some (.int kl l)) (hc : ev s.F (opd co) = some (.int kc c)) (h1 : 0 ≤ l) (h2 : l ≤ c) (h3 : c * inf.bytes ≤ 281474976710656) (h4 : c ≤ 9223372036854775807) (hd : dstOk nt o.dst) (hk : ¬ s.B k) :
    OpS P E nt o s (s.app o.dst ⟨.ref k 0 l.toNat, [(k, some (.arr ⟨zs.length, List.replicate l.toNat (zTs pt zs), 1, none⟩))], [k]⟩) := by
  refine OpS.of hd fun g a w hs => ?_
  obtain ⟨i, zv, hi', hzv, hrep⟩ := zeroOf_info hz
  rw [hi] at hi'
  cases hi'
  have hzl2 := (hrep w g).length
  simp only [Array.length_toList] at hzl2
  have e1 := ev_ok hs hl
  have e2 := ev_ok hs hc
  simp only [VRep] at e1 e2
  have hb : (inf.bytes : Int) * c ≤ 281474976710656 := by rw [Int.mul_comm]; exact h3
  have hrun : (Instr.makeSlice t (.int kl l) (.int kc c)).run P w = .ok (.slice (some ⟨w.heap.size, 0, none⟩) l.toNat c.toNat) (w.alloc (.cells (madeCells zv.cells (c.toNat * inf.size)) e)) := run_make w t e inf zv hu hi hzv kl kc l c h1 h2 hb h4
  have hsz : inf.size = zv.cells.size := by omega
  have hmade : (madeCells zv.cells (c.toNat * inf.size)).toList = (List.replicate c.toNat zv.cells.toList).flatten := by
    rw [hsz]; exact madeCells_flat zv.cells (by omega) _
  have hlen : l.toNat ≤ c.toNat := by omega
  have hrow : OwRows w g.fz zs.length (List.replicate l.toNat (zTs pt zs)) (fun b => ∃ x ∈ ([] : List Nat), g.fp x b) ((madeCells zv.cells (c.toNat * inf.size)).toList.take ((List.replicate l.toNat (zTs pt zs)).length * zs.length)) := by
    rw [hmade, List.length_replicate]
    have e3 : List.replicate c.toNat zv.cells.toList = List.replicate l.toNat zv.cells.toList ++ List.replicate (c.toNat - l.toNat) zv.cells.toList := by
      rw [List.replicate_append_replicate]; congr 1; omega
    have hz' : zs.length = zv.cells.toList.length := by simp; omega
    have hfl : (List.replicate l.toNat zv.cells.toList).flatten.length = l.toNat * zs.length := by rw [hz']; simp
    rw [e3, List.flatten_append, List.take_append_of_le_length (by omega), List.take_of_length_le (by omega)]
    exact zRows_ok (hrep w g) _
  obtain ⟨g', h', hx, hab⟩ := hs.newArr (w' := w.alloc (.cells (madeCells zv.cells (c.toNat * inf.size)) e)) (ks := []) (A := ⟨zs.length, List.replicate l.toNat (zTs pt zs), 1, none⟩) (cap := c.toNat) (cur := madeCells zv.cells (c.toNat * inf.size)) (e := e) hk rfl (fun c hc => by cases hc) rfl rfl rfl (by simp) (fun b hb => heap_alloc_old w _ hb)
    (heap_alloc_new w _) (by simpa using hlen) (by simp only [maxLen]; omega) (by rw [size_madeCells, hzl]; exact Nat.le_refl _) (fun _ h => by cases h) hrow
  refine ⟨g', _, .slice (some ⟨w.heap.size, 0, none⟩) l.toNat c.toNat, .inl ?_, h'.memEq (app_new (ks := [])).1 (app_new (ks := [])).2, fun _ => ?_⟩
  · unfold execOp
    rw [ho]; dsimp only
    rw [e1, e2]
    simp only [Sem.run_bind, hrun, Result.andThen_ok, Sem.run_pure]
  · simp only [VRep]
    exact ⟨_, c.toNat, zs.length, _, hab, by omega, rfl, fun _ => rfl, fun _ => by simp [Addr.add]⟩
end
section
variable {P : Program} {w : World}
theorem run_app_room {t tx ty e e' : TypeId} {i : TypeInfo} (ht : P.underlying t = some (.slice e)) (hi : P.info? e = some i) {x : Value} {m : Nat} {news : List Value} (hs : Src P i.size tx x m news w) {b n cap : Nat} {cur : Array Value} (hg : w.heap[b]? = some (.cells cur e' (0, 0)))
    (hroom : n + m ≤ cap) (hfit : n * i.size + news.length ≤ cur.size) :
    (Builtin.append_ #[t, tx] ty #[.slice (some ⟨b, 0, none⟩) n cap, x]).run P w =
      .ok (.slice (some ⟨b, 0, none⟩) (n + m) cap) (w.setRow b (cur.toList.take (n * i.size) ++ news ++ cur.toList.drop (n * i.size + news.length)).toArray) := by
  have hst := run_storeCells_at P b (n * i.size) e' news 0 cur w hg (by simpa using hfit) hs.one
  simp only [Nat.add_zero] at hst
  rcases hs.kind with ⟨e', hk⟩ | hk <;> simp [Builtin.append_, run_underlying ht, run_underlying hk, sizeOf, typeInfo, hi, hs.len, hroom, hs.cells, Addr.add_lit, hst]
theorem run_app_nothing {t tx ty e : TypeId} {i : TypeInfo} (ht : P.underlying t = some (.slice e)) (hi : P.info? e = some i) {x : Value} {news : List Value} (hs : Src P i.size tx x 0 news w) (base : Option Addr) {n cap : Nat} (hle : n ≤ cap) :
    (Builtin.append_ #[t, tx] ty #[.slice base n cap, x]).run P w = .ok (.slice base n cap) w := by
  have hn : news = [] := List.eq_nil_of_length_eq_zero (by simpa using hs.newsLen)
  subst hn
  cases base <;> rcases hs.kind with ⟨e', hk⟩ | hk <;> simp [Builtin.append_, run_underlying ht, run_underlying hk, sizeOf, typeInfo, hi, hs.len, hle, hs.cells, storeCells]
end
mutual
def T.ro : T → T
  | .sl _ sz rows => .sl false sz rows
  | t => t
end
def T.flat : T → Bool
  | .int .. | .bool _ | .str _ => true
  | _ => false
def T.solid : T → Bool
  | .junk => false
  | .nl => false
  | .val _ => false
  | _ => true
def cpRows (dep : Dep) (rows : List (List T)) : Prop :=
  match dep with
  | none => ∀ r ∈ rows, ∀ t ∈ r, t.solid = true
  | some _ => ∀ r ∈ rows, ∀ t ∈ r, t.flat = true
def roRows (rows : List (List T)) : List (List T) := rows.map (List.map T.ro)
theorem RoT.oneCell {w : World} {ok : Nat → Prop} {t : T} {v : Value} (h : RoT w ok t v) (hs : t.solid = true) : v.oneCell' = true := by
  cases t <;> simp only [RoT] at h <;> simp only [T.solid, Bool.false_eq_true] at hs
  case int | bool | str => subst h; rfl
  case sl => obtain ⟨_, _, _, rfl, _⟩ := h; rfl
  case ptr => obtain ⟨_, _, _, rfl, _⟩ := h; rfl
  case fn => obtain ⟨_, rfl, _⟩ := h; rfl
theorem T.flat_solid {t : T} (h : t.flat = true) : t.solid = true := by cases t <;> simp_all [T.flat, T.solid]
theorem ro_own {w : World} {fz ok S : Nat → Prop} {t : T} {v : Value} (h : RoT w ok t v) (hf : (∀ b, ok b → fz b) ∨ t.flat = true) : OwT w fz t.ro S v := by
  cases t with
  | int k n => simpa only [T.ro, OwT, RoT] using h
  | bool b => simpa only [T.ro, OwT, RoT] using h
  | str s => simpa only [T.ro, OwT, RoT] using h
  | junk => simp only [T.ro, OwT]
  | nl => simpa only [T.ro, OwT, RoT] using h
  | val x => simpa only [T.ro, OwT, RoT] using h
  | sl o sz rows =>
    rcases hf with hf | hf
    · simp only [T.ro, OwT]
      have := h.okk hf
      simp only [RoT] at this ⊢
      exact this
    · simp [T.flat] at hf
  | ptr row =>
    rcases hf with hf | hf
    · simp only [T.ro, OwT]; exact h.okk hf
    · simp [T.flat] at hf
  | fn f caps =>
    rcases hf with hf | hf
    · simp only [T.ro, OwT]; exact h.okk hf
    · simp [T.flat] at hf
theorem ro_ownL {w : World} {fz ok S : Nat → Prop} : ∀ {ts : List T} {vs : List Value}, RoL w ok ts vs → ((∀ b, ok b → fz b) ∨ ∀ t ∈ ts, t.flat = true) → OwL w fz (ts.map T.ro) S vs
  | [], vs, h, _ => by simpa only [List.map_nil, OwL, RoL] using h
  | t :: ts, vs, h, hf => by
    simp only [RoL] at h
    obtain ⟨u, us, rfl, h1, h2⟩ := h
    simp only [List.map_cons, OwL]
    exact ⟨u, us, fun _ => False, S, rfl, fun _ h => h.elim, fun _ h => h, ro_own h1 (hf.imp id fun h => h t (List.mem_cons_self ..)), ro_ownL h2 (hf.imp id fun h t ht => h t (List.mem_cons_of_mem _ ht))⟩
theorem ro_ownR {w : World} {fz ok S : Nat → Prop} {sz : Nat} : ∀ {rs : List (List T)} {vs : List Value}, RoRows w ok sz rs vs → ((∀ b, ok b → fz b) ∨ ∀ r ∈ rs, ∀ t ∈ r, t.flat = true) → OwRows w fz sz (roRows rs) S vs
  | [], vs, h, _ => by simpa only [roRows, List.map_nil, OwRows, RoRows] using h
  | r :: rs, vs, h, hf => by
    simp only [RoRows] at h
    obtain ⟨a, b, rfl, hl, h1, h2⟩ := h
    simp only [roRows, List.map_cons, OwRows]
    exact ⟨a, b, fun _ => False, S, rfl, fun _ h => h.elim, fun _ h => h, by simpa using hl, ro_ownL h1 (hf.imp id fun h => h r (List.mem_cons_self ..)), ro_ownR h2 (hf.imp id fun h t ht => h t (List.mem_cons_of_mem _ ht))⟩
theorem RoL.one {w : World} {ok : Nat → Prop} : ∀ {ts : List T} {vs : List Value}, RoL w ok ts vs → (∀ t ∈ ts, t.solid = true) → ∀ v ∈ vs, v.oneCell' = true
  | [], vs, h, _, v, hv => by simp only [RoL] at h; subst h; cases hv
  | t :: ts, vs, h, hs, v, hv => by
    simp only [RoL] at h
    obtain ⟨u, us, rfl, h1, h2⟩ := h
    rcases List.mem_cons.1 hv with rfl | hv
    · exact h1.oneCell (hs t (List.mem_cons_self ..))
    · exact RoL.one h2 (fun t ht => hs t (List.mem_cons_of_mem _ ht)) v hv
theorem RoRows.one {w : World} {ok : Nat → Prop} {sz : Nat} : ∀ {rs : List (List T)} {vs : List Value}, RoRows w ok sz rs vs → (∀ r ∈ rs, ∀ t ∈ r, t.solid = true) → ∀ v ∈ vs, v.oneCell' = true
  | [], vs, h, _, v, hv => by simp only [RoRows] at h; subst h; cases hv
  | r :: rs, vs, h, hs, v, hv => by
    simp only [RoRows] at h
    obtain ⟨a, b, rfl, hl, h1, h2⟩ := h
    rcases List.mem_append.1 hv with hv | hv
    · exact h1.one (hs r (List.mem_cons_self ..)) v hv
    · exact RoRows.one h2 (fun t ht => hs t (List.mem_cons_of_mem _ ht)) v hv
def encB (b : UInt8) : List T := [.int .u8 b.toNat]
def SrcOk (P : Program) (E : Env) (nt : Nat) (s : SF) (y : Operand) (tx : TypeId) (sz : Nat) (rows : List (List T)) (ks : List Nat) : Prop :=
  ∀ g a w, Sim E nt s g a w → ∃ news, Src P sz tx (a.eval y) rows.length news w ∧ OwRows w g.fz sz rows (fun b => ∃ k ∈ ks, g.fp k b) news ∧ ∀ k ∈ ks, ∃ A, s.M k = some (.arr A)
section
variable {P : Program} {E : Env} {nt : Nat} {s : SF} {y : Operand} {tx e' : TypeId} {sz : Nat}
theorem src_nil (hk : P.underlying tx = some (.slice e')) (hy : ev s.F (opd y) = some .nil) : SrcOk P E nt s y tx sz [] [] := by
  intro g a w hs
  have := ev_ok hs hy
  simp only [VRep] at this
  obtain ⟨base, hv⟩ := this
  refine ⟨[], ?_, by simp only [OwRows], by simp⟩
  rw [hv]
  cases base with
  | none => exact Src.ofNil w hk 0
  | some b => exact Src.ofSlice w hk b 0 0 [] (by simp) (by simp) (by simp)
theorem src_str (hk : P.underlying tx = some .string) {t : ByteArray} (hy : ev s.F (opd y) = some (.str t)) : SrcOk P E nt s y tx 1 (t.data.toList.map encB) [] := by
  intro g a w hs
  have := ev_ok hs hy
  simp only [VRep] at this
  refine ⟨byteCells t, ?_, ?_, by simp⟩
  · have h := Src.ofString (P := P) w hk t
    rw [this]
    have e : (t.data.toList.map encB).length = t.size := by rw [List.length_map, Array.length_toList]; rfl
    rw [e]
    exact h
  · unfold byteCells
    have key : ∀ l : List UInt8, OwRows w g.fz 1 (l.map encB) (fun b => ∃ k ∈ ([] : List Nat), g.fp k b) (l.map fun b => Value.int .u8 b.toNat) := by
      intro l
      induction l with
      | nil => simp only [List.map_nil, OwRows]
      | cons b l ih =>
        simp only [List.map_cons, OwRows]
        exact ⟨[.int .u8 b.toNat], _, fun _ => False, _, rfl, fun _ h => h.elim, fun _ h => h, rfl, OwL.one (by simp only [OwT]), ih⟩
    exact key _
theorem src_view (hk : P.underlying tx = some (.slice e')) {dep : Dep} {sz' : Nat} {rows : List (List T)} (hy : ev s.F (opd y) = some (.sl dep sz' rows)) (hl : liveD s.M dep) (hsz : sz' = sz ∨ rows = []) (hc : cpRows dep rows) : SrcOk P E nt s y tx sz (roRows rows) [] := by
  intro g a w hs
  have h1 := ev_ok hs hy
  have hlive := liveD_ok hs hl
  simp only [VRep, RoT] at h1
  obtain ⟨base, cap, xs, hv, hcap, hm, hrow, hb⟩ := h1.2 hlive
  have hsolid : ∀ r ∈ rows, ∀ t ∈ r, t.solid = true := by
    cases dep with
    | none => exact hc
    | some _ => exact fun r hr t ht => T.flat_solid (hc r hr t ht)
  have hfl : (∀ b, okd g dep b → g.fz b) ∨ ∀ r ∈ rows, ∀ t ∈ r, t.flat = true := by
    cases dep with
    | none => exact .inl fun b h => h
    | some _ => exact .inr hc
  have hlen : (roRows rows).length = rows.length := by simp [roRows]
  by_cases hne : rows = []
  · subst hne
    simp only [RoRows] at hrow
    subst hrow
    refine ⟨[], ?_, by simp only [roRows, List.map_nil, OwRows], by simp⟩
    rw [hv]
    cases base with
    | none => exact Src.ofNil w hk cap
    | some b => exact Src.ofSlice w hk b 0 cap [] (by simp) (by simp) (by simp)
  · have hsz' : sz' = sz := by rcases hsz with e | e; exact e; exact absurd e hne
    subst hsz'
    obtain ⟨b, off, hbase, hblt, hok, hcell⟩ := hb hne
    subst hbase
    refine ⟨xs, ?_, ro_ownR hrow hfl, by simp⟩
    rw [hv, hlen]
    exact Src.ofSlice w hk ⟨b, off, none⟩ rows.length cap xs hrow.length (fun j u hj => by rw [add_mk]; exact hcell j u hj) (hrow.one hsolid)
theorem src_ref (hk : P.underlying tx = some (.slice e')) {κ : Nat} {off len : Nat} {A : Arr} (hy : ev s.F (opd y) = some (.ref κ off len)) (hA : s.M κ = some (.arr A)) (hle : off + len ≤ A.rows.length) (hsz : A.sz = sz) (hc : ∀ r ∈ (A.rows.drop off).take len, ∀ t ∈ r, t.flat = true) :
    SrcOk P E nt s y tx sz ((A.rows.drop off).take len) [] := by
  intro g a w hs
  have h1 := ev_ok hs hy
  simp only [VRep] at h1
  obtain ⟨base, cap, sz0, base', hab, hcap, hv, hb0, hbase⟩ := h1
  have hlen : ((A.rows.drop off).take len).length = len := by simp; omega
  by_cases hl0 : len = 0
  · subst hl0
    refine ⟨[], ?_, by simp only [List.take_zero, OwRows], by simp⟩
    rw [hv, hlen]
    cases base' with
    | none => exact Src.ofNil w hk _
    | some b => exact Src.ofSlice w hk b 0 _ [] (by simp) (by simp) (by simp)
  · subst hsz
    obtain ⟨b, cap2, cur, el, hab2, hfp, hbb, hfit, hlc, hm, hrow⟩ := arr_base (hs.mem κ _ hA) (by omega)
    rw [hab] at hab2
    cases hab2
    have hbase' := hbase hl0
    subst hbase'
    have hro : RoRows w (fun x => g.fz x ∨ g.fp κ x) A.sz A.rows (cur.toList.take (A.rows.length * A.sz)) := hrow.ro (fun b hb => .inl hb) (fun b _ hb => .inr hb.1)
    have hro2 := (RoRows.take_drop len (RoRows.take_drop off hro).2).1
    have hrl := hro2.length
    have hown := ro_ownR (fz := g.fz) (S := fun b => ∃ k ∈ ([] : List Nat), g.fp k b) hro2 (.inr hc)
    have hid : roRows ((A.rows.drop off).take len) = (A.rows.drop off).take len := by
      unfold roRows
      conv => rhs; rw [← List.map_id ((A.rows.drop off).take len)]
      refine List.map_congr_left fun r hr => ?_
      conv => rhs; rw [id, ← List.map_id r]
      refine List.map_congr_left fun t ht => ?_
      have := hc r hr t ht
      cases t <;> simp_all [T.flat, T.ro]
    rw [hid] at hown
    refine ⟨_, ?_, hown, by simp⟩
    rw [hv, hlen]
    simp only [Option.map_some, add_mk, Nat.zero_add]
    refine Src.ofSlice w hk ⟨b, off * A.sz, none⟩ len _ _ (by rw [hrl, hlen]) (fun j u hj => ?_) (hro2.one (fun r hr t ht => T.flat_solid (hc r hr t ht)))
    rw [add_mk]
    rw [List.getElem?_take] at hj
    split at hj
    · rw [List.getElem?_drop, List.getElem?_take] at hj
      split at hj
      · simp only [World.cell?, hbb]
        simpa using hj
      · cases hj
    · cases hj
theorem src_move (hk : P.underlying tx = some (.slice e')) {κ : Nat} {len : Nat} {A : Arr} (hy : ev s.F (opd y) = some (.ref κ 0 len)) (hA : s.M κ = some (.arr A)) (hle : len ≤ A.rows.length) (hsz : A.sz = sz) (hc : ∀ r ∈ A.rows.take len, ∀ t ∈ r, t.solid = true) :
    SrcOk P E nt s y tx sz (A.rows.take len) [κ] := by
  intro g a w hs
  have h1 := ev_ok hs hy
  simp only [VRep] at h1
  obtain ⟨base, cap, sz0, base', hab, hcap, hv, hb0, _⟩ := h1
  rw [hb0 trivial] at hv
  have hlen : (A.rows.take len).length = len := by simp; omega
  subst hsz
  by_cases hl0 : len = 0
  · subst hl0
    refine ⟨[], ?_, by simp only [List.take_zero, OwRows], by simp [hA]⟩
    rw [hv, hlen]
    cases base with
    | none => exact Src.ofNil w hk _
    | some b => exact Src.ofSlice w hk b 0 _ [] (by simp) (by simp) (by simp)
  · obtain ⟨b, cap2, cur, el, hab2, hfp, hbb, hfit, hlc, hm, hrow⟩ := arr_base (hs.mem κ _ hA) (by omega)
    rw [hab] at hab2
    cases hab2
    obtain ⟨S1, S2, d1, d2, h1, h2⟩ := hrow.split len
    rw [List.take_take, Nat.min_eq_left (Nat.mul_le_mul_right _ hle)] at h1
    have hro : RoRows w (fun _ => True) A.sz (A.rows.take len) _ := h1.ro (fun _ _ => trivial) (fun _ _ _ => trivial)
    refine ⟨_, ?_, h1.sub fun x hx => ⟨κ, by simp, (d1 x hx).1.1⟩, by simp [hA]⟩
    rw [hv, hlen]
    refine Src.ofSlice w hk ⟨b, 0, none⟩ len _ _ (by rw [h1.length, hlen]) (fun j u hj => ?_) (hro.one hc)
    rw [add_mk, Nat.zero_add]
    rw [List.getElem?_take] at hj
    split at hj
    · simp only [World.cell?, hbb]
      simpa using hj
    · cases hj
end
section
variable {P : Program} {E : Env} {nt : Nat} {o : Oper} {s : SF}
theorem op_app {t tx e : TypeId} {x y : Operand} {args : Array Operand} {tys : Array TypeId} {inf : TypeInfo} {zs : List V} {κ k : Nat} {n : Nat} {A : Arr} {rows : List (List T)} {ks : List Nat} (ho : o.op = .call ⟨.builtin .append, args, tys⟩) (ha : args.toList = [x, y]) (hty : tys.toList = [t, tx])
    (hu : P.underlying t = some (.slice e)) (hi : P.info? e = some inf) (hz : zeroOf P e = some zs) (h0 : inf.size ≠ 0) (hzl : zs.length = inf.size) (hx : ev s.F (opd x) = some (.ref κ 0 n)) (hA : s.M κ = some (.arr A)) (hn : n ≤ A.rows.length) (hsz : A.sz = inf.size)
    (hsrc : SrcOk P E nt s y tx inf.size rows ks) (hκ : κ ∉ ks) (hb : (n + rows.length) * inf.bytes ≤ 140737488355328) (h63 : n + rows.length ≤ 9223372036854775807) (hd : dstOk nt o.dst) (hk : ¬ s.B k) :
    OpS P E nt o s (s.app o.dst ⟨.ref k 0 (n + rows.length), (k, some (.arr ⟨A.sz, A.rows.take n ++ rows, 1, none⟩)) :: (κ :: ks).map (fun k => (k, none)), [k]⟩) := by
  have et : tys = #[t, tx] := by cases tys; simp_all
  have ea : args = #[x, y] := by cases args; simp_all
  subst et; subst ea
  refine OpS.of hd fun g a w hs => ?_
  obtain ⟨news, hS, hrowy, hks⟩ := hsrc g a w hs
  have h1 := ev_ok hs hx
  simp only [VRep] at h1
  obtain ⟨base, cap, sz0, base', hab, hcap, hv, hb0, _⟩ := h1
  rw [hb0 trivial, Nat.sub_zero] at hv
  obtain ⟨base2, cap2, hab2, _, hown, _⟩ := hs.mem κ _ hA
  rw [hab] at hab2
  cases hab2
  have hkκ : k ≠ κ := fun ee => by subst ee; exact hk (hs.arrK hA).2
  have hCm : ∀ x, x ∈ κ :: ks → x ≠ k ∧ ∃ A, s.M x = some (.arr A) := by
    intro x hx
    rcases List.mem_cons.1 hx with rfl | hx
    · exact ⟨Ne.symm hkκ, A, hA⟩
    · refine ⟨fun ee => ?_, hks x hx⟩
      subst ee
      obtain ⟨A', hA'⟩ := hks x hx
      exact hk (hs.arrK hA').2
  have fin : ∀ (w' : World) (base' : Option Addr) (cap' : Nat) (S : Nat → Prop), (Builtin.append_ #[t, tx] o.type #[.slice base n cap, a.eval y]).run P w = .ok (.slice base' (n + rows.length) cap') w' →
      w'.os = w.os → w'.tape = w.tape → w'.output = w.output → w.heap.size ≤ w'.heap.size → (∀ b, b < w.heap.size → (∀ x, x ∈ κ :: ks → ¬ g.fp x b) → w'.heap[b]? = w.heap[b]?) →
      (∀ b, S b → b < w'.heap.size ∧ ((∃ x, x ∈ κ :: ks ∧ g.fp x b) ∨ w.heap.size ≤ b)) → OwT w' g.fz (.sl true A.sz (A.rows.take n ++ rows)) S (.slice base' (n + rows.length) cap') → n + rows.length ≤ cap' →
      ∃ g' w' u, ((execOp a.eval o).run P w = .ok (.value u) w' ∨ (execOp a.eval o).run P w = .ok .skip w' ∧ u = undef) ∧
        Sim E nt ⟨s.F, (s.app o.dst ⟨.ref k 0 (n + rows.length), (k, some (.arr ⟨A.sz, A.rows.take n ++ rows, 1, none⟩)) :: (κ :: ks).map (fun k => (k, none)), [k]⟩).M, (s.app o.dst ⟨.ref k 0 (n + rows.length), (k, some (.arr ⟨A.sz, A.rows.take n ++ rows, 1, none⟩)) :: (κ :: ks).map (fun k => (k, none)), [k]⟩).B⟩ g' a w' ∧ (o.dst ≠ none → VRep w' g' (.ref k 0 (n + rows.length)) u) := by
    intro w' base' cap' S hrun e1 e2 e3 e4 hch hSb hnew hle
    have hl : (A.rows.take n ++ rows).length = n + rows.length := by simp; omega
    obtain ⟨g', h', hxx, hab', _⟩ := hs.setArr (w' := w') k (κ :: ks) (A := ⟨A.sz, A.rows.take n ++ rows, 1, none⟩) (S := S) (base := base') (cap := cap') e1 e2 e3 e4 (.inr ⟨hk, rfl⟩) hCm (fun b hb _ hn => hch b hb hn)
      (fun b hb => ⟨(hSb b hb).1, by
        rcases (hSb b hb).2 with h | h
        · exact .inr (.inl h)
        · exact .inr (.inr (hs.fresh h))⟩) (by rw [hl]; exact hnew) (fun c hc => by cases hc)
    refine ⟨g', w', .slice base' (n + rows.length) cap', .inl ?_, h'.memEq app_new.1 app_new.2, fun _ => ?_⟩
    · unfold execOp
      rw [ho]; dsimp only
      simp only [resolve, invoke, builtin, Sem.run_bind, Sem.run_pure, Result.andThen_ok, List.map_toArray, List.map_cons, List.map_nil, hv, hrun]
    · simp only [VRep]
      exact ⟨base', cap', A.sz, base', hab', by omega, rfl, fun _ => rfl, fun _ => by cases base' <;> simp [Addr.add]⟩
  have hone := hS.newsLen
  rw [← hsz] at hS hrowy hone
  obtain ⟨i, zv, hi', hzv, hrep⟩ := zeroOf_info hz
  rw [hi] at hi'
  cases hi'
  have hzl2 := (hrep w g).length
  simp only [Array.length_toList] at hzl2
  have hSz : Src P inf.size tx (a.eval y) rows.length news w := by rw [← hsz]; exact hS
  have grow : ∀ (olds : List Value), olds.length = n * A.sz → (Builtin.firstCells inf.size n (.slice base n cap)).run P w.drew = .ok olds.toArray w.drew → OwRows w g.fz A.sz (A.rows.take n) (fun b => g.fp κ b) olds → cap < n + rows.length →
      ∃ g' w' u, ((execOp a.eval o).run P w = .ok (.value u) w' ∨ (execOp a.eval o).run P w = .ok .skip w' ∧ u = undef) ∧
        Sim E nt ⟨s.F, (s.app o.dst ⟨.ref k 0 (n + rows.length), (k, some (.arr ⟨A.sz, A.rows.take n ++ rows, 1, none⟩)) :: (κ :: ks).map (fun k => (k, none)), [k]⟩).M, (s.app o.dst ⟨.ref k 0 (n + rows.length), (k, some (.arr ⟨A.sz, A.rows.take n ++ rows, 1, none⟩)) :: (κ :: ks).map (fun k => (k, none)), [k]⟩).B⟩ g' a w' ∧ (o.dst ≠ none → VRep w' g' (.ref k 0 (n + rows.length)) u) := by
    intro olds hol hfc hro hlt
    have hr := run_append_grow_src (P := P) w t tx o.type e inf zv hu hi hzv base n cap olds hfc (a.eval y) rows.length news hSz hlt (by omega) (growslice_fits (by omega) hb)
    have hge := grownCap_ge w (n + rows.length) cap e
    have hcm : grownCap w (n + rows.length) cap e ≤ maxLen := grownCap_le_maxLen w (n + rows.length) cap e (by simp only [maxLen]; omega)
    have hsz' : (w.drew.alloc (.cells ((olds ++ news).toArray ++ Builtin.zeroCells zv.cells (grownCap w (n + rows.length) cap e - (n + rows.length))) e)).heap.size = w.heap.size + 1 := by simp
    have hold : ∀ b, b < w.heap.size → (w.drew.alloc (.cells ((olds ++ news).toArray ++ Builtin.zeroCells zv.cells (grownCap w (n + rows.length) cap e - (n + rows.length))) e)).heap[b]? = w.heap[b]? := fun b hb => heap_alloc_old w.drew _ hb
    refine fin _ _ _ (fun b => b = w.heap.size ∨ g.fp κ b ∨ ∃ k ∈ ks, g.fp k b) hr rfl rfl rfl (by omega) (fun b hb _ => hold b hb) (fun b hb => ?_) ?_ hge
    · rcases hb with rfl | hb | ⟨x, hx, hb⟩
      · exact ⟨by omega, .inr (Nat.le_refl _)⟩
      · have := (hs.ownlt κ b (.inr hb)).1
        exact ⟨by omega, .inl ⟨κ, List.mem_cons_self .., hb⟩⟩
      · have := (hs.ownlt x b (.inr hb)).1
        exact ⟨by omega, .inl ⟨x, List.mem_cons_of_mem _ hx, hb⟩⟩
    · have hl : (A.rows.take n ++ rows).length = n + rows.length := by simp; omega
      simp only [OwT]
      refine ⟨_, _, by rw [hl], by rw [hl]; exact hge, hcm, .inr ⟨w.heap.size, _, e, rfl, .inl rfl, heap_alloc_new w.drew _, ?_, ?_⟩⟩
      · have ez : zv.cells.size = A.sz := by omega
        have e6 : grownCap w (n + rows.length) cap e * A.sz = n * A.sz + rows.length * A.sz + (grownCap w (n + rows.length) cap e - (n + rows.length)) * A.sz := by
          rw [← Nat.add_mul, ← Nat.add_mul]; congr 1; omega
        simp only [Array.size_append, List.size_toArray, size_zeroCells, List.length_append, hol, hone, ez]
        omega
      · have e5 : ((olds ++ news).toArray ++ Builtin.zeroCells zv.cells (grownCap w (n + rows.length) cap e - (n + rows.length))).toList.take ((A.rows.take n ++ rows).length * A.sz) = olds ++ news := by
          rw [hl, Array.toList_append]
          simp only [List.append_assoc]
          rw [← List.append_assoc, List.take_append_of_le_length (by simp [hol, hone, Nat.add_mul]), List.take_of_length_le (by simp [hol, hone, Nat.add_mul])]
        rw [e5]
        have j := OwRows.join (fun x h1 h2 => ?_) hro hrowy
        · refine j.mono (by omega) (fun b hb hf => ⟨hf, hold b hb⟩) (fun b hb => ?_) (fun b _ hl => hold b hl)
          refine ⟨.inr hb, fun ee => ?_⟩
          subst ee
          rcases hb with hb | ⟨x, _, hb⟩
          · have := (hs.ownlt κ _ (.inr hb)).1; omega
          · have := (hs.ownlt x _ (.inr hb)).1; omega
        · obtain ⟨x', hx', hf⟩ := h2
          exact hκ (by rw [hs.disj κ x' x (.inr h1) (.inr hf)]; exact hx')
  simp only [OwT] at hown
  obtain ⟨base3, cap3, e3, hlc, hmx, hrow⟩ := hown
  cases e3
  by_cases hroom : n + rows.length ≤ cap
  · rcases hrow with ⟨hr0, hc0⟩ | ⟨b, cur, el, hbase, hfp, hh, hfit, hr⟩
    · -- nothing in it, no room: nothing appended
      subst hc0
      have hm0 : rows = [] := List.eq_nil_of_length_eq_zero (by omega)
      have hn0 : n = 0 := by omega
      subst hm0
      subst hn0
      have hr := run_app_nothing (P := P) (ty := o.type) hu hi hSz base (n := 0) (cap := 0) (Nat.le_refl _)
      refine fin w base 0 (fun _ => False) hr rfl rfl rfl (Nat.le_refl _) (fun _ _ _ => rfl) (fun _ h => h.elim) ?_ (Nat.le_refl _)
      simp only [OwT]
      exact ⟨base, 0, by simp, by simp, Nat.zero_le _, .inl ⟨by simp, rfl⟩⟩
    · subst hbase
      have hfit' : n * inf.size + news.length ≤ cur.size := by rw [hone, ← hsz, ← Nat.add_mul]; exact Nat.le_trans (Nat.mul_le_mul_right _ hroom) hfit
      have hrun := run_app_room (P := P) (ty := o.type) hu hi hSz hh hroom hfit'
      have hold : ∀ c, c ≠ b → (w.setRow b (cur.toList.take (n * inf.size) ++ news ++ cur.toList.drop (n * inf.size + news.length)).toArray).heap[c]? = w.heap[c]? := fun c hc => setRow_other w _ c _ hc
      have hsz' : (w.setRow b (cur.toList.take (n * inf.size) ++ news ++ cur.toList.drop (n * inf.size + news.length)).toArray).heap.size = w.heap.size := by simp [World.setRow]
      have hfzb : ∀ c, g.fz c → c ≠ b := fun c hf ee => by subst ee; exact hs.ownfz κ c (.inr hfp) hf
      have hksb : ∀ c x, x ∈ ks → g.fp x c → c ≠ b := fun c x hx hf ee => by subst ee; exact hκ (by rw [hs.disj κ x c (.inr hfp) (.inr hf)]; exact hx)
      refine fin _ _ _ (fun c => g.fp κ c ∨ ∃ x ∈ ks, g.fp x c) hrun rfl rfl rfl (by omega) (fun c _ hn => hold c (fun ee => by subst ee; exact hn κ (List.mem_cons_self ..) hfp)) (fun c hc => ?_) ?_ hroom
      · rcases hc with hc | ⟨x, hx, hc⟩
        · exact ⟨by have := (hs.ownlt κ c (.inr hc)).1; omega, .inl ⟨κ, List.mem_cons_self .., hc⟩⟩
        · exact ⟨by have := (hs.ownlt x c (.inr hc)).1; omega, .inl ⟨x, List.mem_cons_of_mem _ hx, hc⟩⟩
      · have hl : (A.rows.take n ++ rows).length = n + rows.length := by simp; omega
        simp only [OwT]
        refine ⟨_, _, by rw [hl], by rw [hl]; exact hroom, hmx, .inr ⟨b, _, el, rfl, .inl hfp, setRow_heap w _ cur _ el _ hh, ?_, ?_⟩⟩
        · simp only [List.size_toArray, List.length_append, List.length_take, List.length_drop, Array.length_toList]
          omega
        · have e5 : (cur.toList.take (n * inf.size) ++ news ++ cur.toList.drop (n * inf.size + news.length)).toArray.toList.take ((A.rows.take n ++ rows).length * A.sz) = cur.toList.take (n * A.sz) ++ news := by
            rw [hl]
            simp only [List.append_assoc]
            have hc1 : (cur.toList.take (n * inf.size)).length = n * A.sz := by rw [List.length_take, Array.length_toList, hsz]; omega
            rw [← List.append_assoc, List.take_append_of_le_length (by rw [List.length_append, hc1, hone, Nat.add_mul]; exact Nat.le_refl _), List.take_of_length_le (by rw [List.length_append, hc1, hone, Nat.add_mul]; exact Nat.le_refl _), hsz]
          rw [e5]
          obtain ⟨S1, S2, d1, d2, h3, h4⟩ := hr.split n
          rw [List.take_take, Nat.min_eq_left (Nat.mul_le_mul_right _ hn)] at h3
          have m1 := h3.mono (w' := w.setRow b (cur.toList.take (n * inf.size) ++ news ++ cur.toList.drop (n * inf.size + news.length)).toArray) (fz' := g.fz) (by omega) (fun c _ hf => ⟨hf, hold c (hfzb c hf)⟩) (fun c hc => (d1 c hc).1) (fun c hc _ => hold c (d1 c hc).1.2)
          have m2 := hrowy.mono (w' := w.setRow b (cur.toList.take (n * inf.size) ++ news ++ cur.toList.drop (n * inf.size + news.length)).toArray) (fz' := g.fz) (by omega) (fun c _ hf => ⟨hf, hold c (hfzb c hf)⟩) (fun c hc => hc) (fun c hc _ => by
            obtain ⟨x, hx, hf⟩ := hc
            exact hold c (hksb c x hx hf))
          refine (OwRows.join (fun x h1 h2 => ?_) m1 m2).sub fun c hc => ?_
          · obtain ⟨x', hx', hf⟩ := h2
            exact hκ (by rw [hs.disj κ x' x (.inr h1.1) (.inr hf)]; exact hx')
          · rcases hc with hc | ⟨x, hx, hc⟩
            · exact ⟨.inl hc.1, hc.2⟩
            · exact ⟨.inr ⟨x, hx, hc⟩, hksb c x hx hc⟩
  · rcases hrow with ⟨hr0, hc0⟩ | ⟨b, cur, el, hbase, hfp, hh, hfit, hr⟩
    · have hn0 : n = 0 := by rw [hr0] at hn; simpa using hn
      subst hn0
      refine grow [] (by simp) ?_ (by simp only [List.take_zero, OwRows]) (by omega)
      cases base with
      | none => exact run_firstCells_none w.drew inf.size 0 0 cap
      | some b => exact run_firstCells_some (P := P) w.drew inf.size 0 b 0 cap [] (by simp) (by simp)
    · subst hbase
      obtain ⟨S1, S2, d1, d2, h3, h4⟩ := hr.split n
      rw [List.take_take, Nat.min_eq_left (Nat.mul_le_mul_right _ hn)] at h3
      have hl3 := h3.length
      have hl4 : (A.rows.take n).length = n := by simp; omega
      rw [hl4] at hl3
      refine grow _ hl3 ?_ (h3.sub fun c hc => (d1 c hc).1.1) (by omega)
      refine run_firstCells_some (P := P) w.drew inf.size n ⟨b, 0, none⟩ n cap _ (by rw [hl3, hsz]) (fun j u hj => ?_)
      rw [add_mk, Nat.zero_add]
      rw [List.getElem?_take] at hj
      split at hj
      · have : w.drew.cell? ⟨b, j, none⟩ = w.cell? ⟨b, j, none⟩ := rfl
        rw [this]
        simp only [World.cell?, hh]
        simpa using hj
      · cases hj
end
section
variable {P : Program} {E : Env} {nt : Nat} {o : Oper} {s : SF}
theorem op_appN {t tx e : TypeId} {x y : Operand} {args : Array Operand} {tys : Array TypeId} {inf : TypeInfo} {zs : List V} {k : Nat} {rows : List (List T)} {ks : List Nat} (ho : o.op = .call ⟨.builtin .append, args, tys⟩) (ha : args.toList = [x, y]) (hty : tys.toList = [t, tx])
    (hu : P.underlying t = some (.slice e)) (hi : P.info? e = some inf) (hz : zeroOf P e = some zs) (h0 : inf.size ≠ 0) (hzl : zs.length = inf.size) (hx : ev s.F (opd x) = some .nil)
    (hsrc : SrcOk P E nt s y tx inf.size rows ks) (hb : rows.length * inf.bytes ≤ 140737488355328) (h63 : rows.length ≤ 9223372036854775807) (hd : dstOk nt o.dst) (hk : ¬ s.B k) :
    OpS P E nt o s (s.app o.dst ⟨.ref k 0 rows.length, (k, some (.arr ⟨inf.size, rows, 1, none⟩)) :: ks.map (fun k => (k, none)), [k]⟩) := by
  have et : tys = #[t, tx] := by cases tys; simp_all
  have ea : args = #[x, y] := by cases args; simp_all
  subst et; subst ea
  refine OpS.of hd fun g a w hs => ?_
  obtain ⟨news, hS, hrowy, hks⟩ := hsrc g a w hs
  have h1 := ev_ok hs hx
  simp only [VRep] at h1
  obtain ⟨base, hv⟩ := h1
  obtain ⟨i, zv, hi', hzv, hrep⟩ := zeroOf_info hz
  rw [hi] at hi'
  cases hi'
  have hzl2 := (hrep w g).length
  simp only [Array.length_toList] at hzl2
  have hone := hS.newsLen
  have hCm : ∀ x, x ∈ ks → x ≠ k ∧ ∃ A, s.M x = some (.arr A) := by
    intro x hx
    refine ⟨fun ee => ?_, hks x hx⟩
    subst ee
    obtain ⟨A', hA'⟩ := hks x hx
    exact hk (hs.arrK hA').2
  by_cases hm : rows = []
  · subst hm
    have hr := run_app_nothing (P := P) (ty := o.type) hu hi hS base (n := 0) (cap := 0) (Nat.le_refl _)
    obtain ⟨g', h', hxx, hab', _⟩ := hs.setArr (w' := w) k ks (A := ⟨inf.size, [], 1, none⟩) (S := fun _ => False) (base := base) (cap := 0) rfl rfl rfl (Nat.le_refl _) (.inr ⟨hk, rfl⟩) hCm (fun _ _ _ _ => rfl) (fun _ h => h.elim)
      (by simp only [OwT]; exact ⟨base, 0, rfl, Nat.le_refl _, Nat.zero_le _, .inl ⟨trivial, rfl⟩⟩) (fun c hc => by cases hc)
    refine ⟨g', w, .slice base 0 0, .inl ?_, h'.memEq app_new.1 app_new.2, fun _ => ?_⟩
    · unfold execOp
      rw [ho]; dsimp only
      simp only [resolve, invoke, builtin, Sem.run_bind, Sem.run_pure, Result.andThen_ok, List.map_toArray, List.map_cons, List.map_nil, hv, hr]
    · simp only [VRep]
      exact ⟨base, 0, inf.size, base, hab', by simp, rfl, fun _ => rfl, fun h => by simp at h⟩
  · have hpos : 0 < rows.length := by cases rows with
      | nil => exact absurd rfl hm
      | cons _ _ => simp
    have hfc : (Builtin.firstCells inf.size 0 (.slice base 0 0)).run P w.drew = .ok (([] : List Value).toArray) w.drew := by
      cases base with
      | none => exact run_firstCells_none w.drew inf.size 0 0 0
      | some b => exact run_firstCells_some (P := P) w.drew inf.size 0 b 0 0 [] (by simp) (by simp)
    have hr := run_append_grow_src (P := P) w t tx o.type e inf zv hu hi hzv base 0 0 [] hfc (a.eval y) rows.length news hS (by omega) (by omega) (growslice_fits (by omega) (by simpa using hb))
    simp only [Nat.zero_add, List.nil_append] at hr
    have hge := grownCap_ge w rows.length 0 e
    have hcm : grownCap w rows.length 0 e ≤ maxLen := grownCap_le_maxLen w rows.length 0 e (by simp only [maxLen]; omega)
    have hsz' : (w.drew.alloc (.cells (news.toArray ++ Builtin.zeroCells zv.cells (grownCap w rows.length 0 e - rows.length)) e)).heap.size = w.heap.size + 1 := by simp
    have hold : ∀ b, b < w.heap.size → (w.drew.alloc (.cells (news.toArray ++ Builtin.zeroCells zv.cells (grownCap w rows.length 0 e - rows.length)) e)).heap[b]? = w.heap[b]? := fun b hb => heap_alloc_old w.drew _ hb
    have hrow : OwRows w g.fz inf.size rows (fun b => ∃ x ∈ ks, g.fp x b) ((news.toArray ++ Builtin.zeroCells zv.cells (grownCap w rows.length 0 e - rows.length)).toList.take (rows.length * inf.size)) := by
      rw [Array.toList_append, List.take_append_of_le_length (by simp [hone]), List.take_of_length_le (by simp [hone])]
      simpa using hrowy
    obtain ⟨g', h', hxx, hab'⟩ := hs.newArr (w' := w.drew.alloc (.cells (news.toArray ++ Builtin.zeroCells zv.cells (grownCap w rows.length 0 e - rows.length)) e)) (ks := ks) (A := ⟨inf.size, rows, 1, none⟩) (cap := grownCap w rows.length 0 e) (e := e) hk rfl (fun c hc => by cases hc) rfl rfl rfl hsz' hold
      (heap_alloc_new w.drew _) hge hcm (by
        have ez : zv.cells.size = inf.size := by omega
        have e6 : grownCap w rows.length 0 e * inf.size = rows.length * inf.size + (grownCap w rows.length 0 e - rows.length) * inf.size := by
          rw [← Nat.add_mul]; congr 1; omega
        simp only [Array.size_append, List.size_toArray, size_zeroCells, hone, ez]
        omega) hks hrow
    refine ⟨g', _, .slice (some ⟨w.heap.size, 0, none⟩) rows.length (grownCap w rows.length 0 e), .inl ?_, h'.memEq app_new.1 app_new.2, fun _ => ?_⟩
    · unfold execOp
      rw [ho]; dsimp only
      simp only [resolve, invoke, builtin, Sem.run_bind, Sem.run_pure, Result.andThen_ok, List.map_toArray, List.map_cons, List.map_nil, hv, hr]
    · simp only [VRep]
      exact ⟨_, _, inf.size, _, hab', by omega, rfl, fun _ => rfl, fun _ => by simp [Addr.add]⟩
end
end Go.H
end
