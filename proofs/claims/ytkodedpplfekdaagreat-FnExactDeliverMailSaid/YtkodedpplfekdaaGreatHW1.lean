/- What the functions that the law reaches compute, each by its code, against pure functions. Conditions: those that each theorem states. -/
import Derived.Test.YtkodedpplfekdaaGreatHH3
import Derived.ChangeArms
import Derived.DataReads
import Derived.Test.YtkodedpplfekdaaGreatProg
import Derived.KernelRfl
section
set_option linter.unusedSimpArgs false
set_option linter.unusedVariables false
namespace Go.H
open Go
theorem add_add0 {a : Addr} (hs : a.spot = none) (i j : Nat) : (a.add i).add j = ⟨a.block, a.off + (i + j), none⟩ := by
  obtain ⟨ab, ao, as1⟩ := a
  simp only at hs
  subst hs
  simp only [Addr.add]
  by_cases h1 : i = 0
  · subst h1
    by_cases h2 : j = 0 <;> simp [h2]
  · by_cases h2 : j = 0 <;> simp [h1, h2, Nat.add_assoc]
def okW (w : World) (b : Nat) : Prop := b < w.heap.size
theorem RoL_app {w : World} {ok : Nat → Prop} : ∀ {ts us : List T} {a b : List Value}, RoL w ok ts a → RoL w ok us b → RoL w ok (ts ++ us) (a ++ b)
  | [], us, a, b, h1, h2 => by simp only [RoL] at h1; subst h1; exact h2
  | t :: ts, us, a, b, h1, h2 => by
    simp only [RoL, List.cons_append] at h1 ⊢
    obtain ⟨u, vs, rfl, h3, h4⟩ := h1
    exact ⟨u, vs ++ b, rfl, h3, RoL_app h4 h2⟩
theorem RoL_cat {w : World} {ok : Nat → Prop} {ts us : List T} {cs : List Value} {o n : Nat} (h1 : RoL w ok ts ((cs.drop o).take n)) (h2 : RoL w ok us (cs.drop (o + n))) : RoL w ok (ts ++ us) (cs.drop o) := by
  have := RoL_app h1 h2
  rwa [← List.drop_drop, List.take_append_drop] at this
theorem RoL_end {w : World} {ok : Nat → Prop} {ts : List T} {cs : List Value} {o n : Nat} (h1 : RoL w ok ts ((cs.drop o).take n)) (hl : cs.length = o + n) : RoL w ok ts (cs.drop o) := by
  rwa [List.take_of_length_le (by simp; omega)] at h1
theorem RoRows_snoc {w : World} {ok : Nat → Prop} {sz : Nat} : ∀ {rs : List (List T)} {vs : List Value} {r : List T} {cs : List Value}, RoRows w ok sz rs vs → r.length = sz → RoL w ok r cs → RoRows w ok sz (rs ++ [r]) (vs ++ cs)
  | [], vs, r, cs, h, hl, hr => by
    simp only [RoRows] at h
    subst h
    simp only [List.nil_append, RoRows]
    exact ⟨cs, [], by simp, hl, hr, rfl⟩
  | x :: rs, vs, r, cs, h, hl, hr => by
    simp only [RoRows, List.cons_append] at h ⊢
    obtain ⟨a, b, rfl, h1, h2, h3⟩ := h
    exact ⟨a, b ++ cs, by simp, h1, h2, RoRows_snoc h3 hl hr⟩
section
variable {H : Type} {enc : TypeId × Value → H} {P : Program} {w : World} {base : Nat} {spare : Nat → Bool} {held : Bool}
theorem sl_of {α : Type} (f : α → List T) (q : α → Prop) (sz : Nat) {t e : TypeId} (ht : P.underlying t = some (.slice e)) (hsz : P.cellsOf e = sz) (hf : ∀ x, (f x).length = sz) (hpos : sz ≠ 0)
    (hel : ∀ n cs d, DataW.trod enc P w base spare held n e cs = some d → ∃ x, RoL w (okW w) (f x) cs ∧ q x) {fuel : Nat} {cs : List Value} {x : DataW H × List MemPlace} (h : DataW.trod enc P w base spare held fuel t cs = some x) :
    ∃ xs : List α, RoL w (okW w) [.sl false sz (xs.map f)] cs ∧ xs.length ≤ 9223372036854775807 ∧ ∀ y ∈ xs, q y := by
  rcases DataW.trod_slice ht h with ⟨rfl, _⟩ | ⟨a, len, cap, elems, rest, n, _, rfl, _, hb, hl, hm, hlen, he, _, _⟩
  · refine ⟨[], ?_, by simp, by simp⟩
    simp only [RoL, RoT, List.map_nil, List.length_nil]
    exact ⟨_, [], rfl, ⟨none, 0, [], rfl, Nat.le_refl _, Nat.zero_le _, by simp only [RoRows], fun h => absurd rfl h⟩, rfl⟩
  · rw [hsz] at he
    have one : ∀ i, i < len → ∃ csi x, w.cells? base (a.add (i * sz)) sz = some csi ∧ RoL w (okW w) (f x) csi ∧ q x := by
      intro i hi
      have h1 := he i hi
      rw [List.getElem?_eq_getElem (by omega)] at h1
      obtain ⟨csi, h2, h3⟩ := Option.bind_eq_some_iff.1 h1
      obtain ⟨x, h4, h5⟩ := hel n csi _ h3
      exact ⟨csi, x, h2, h4, h5⟩
    have spot : 0 < len → a.spot = none ∧ a.block < w.heap.size := by
      intro h0
      obtain ⟨csi, x, h1, h2, _⟩ := one 0 h0
      obtain ⟨_, h3, h4⟩ := World.cells?_some h1
      have h5 := h4 0 (by omega)
      rw [List.getElem?_eq_getElem (by omega)] at h5
      simp only [Nat.zero_mul, Addr.add, if_true] at h5
      unfold World.cell? at h5
      split at h5
      · rename_i hh
        split at h5
        · cases h5
        · rename_i hs
          refine ⟨by simpa using hs, ?_⟩
          exact (Array.getElem?_eq_some_iff.1 hh).1
      · cases h5
    have all : ∀ k, k ≤ len → ∃ xs : List α, xs.length = k ∧ (∀ y ∈ xs, q y) ∧ ∃ vs : List Value, RoRows w (okW w) sz (xs.map f) vs ∧ ∀ j u, vs[j]? = some u → w.cell? ⟨a.block, a.off + j, none⟩ = some u := by
      intro k
      induction k with
      | zero => exact fun _ => ⟨[], rfl, by simp, [], by simp only [List.map_nil, RoRows], by simp⟩
      | succ k ih =>
        intro hk
        obtain ⟨xs, h1, h2, vs, h3, h4⟩ := ih (by omega)
        obtain ⟨csi, x, h5, h6, h7⟩ := one k (by omega)
        obtain ⟨_, h8, h9⟩ := World.cells?_some h5
        have hvl := h3.length
        rw [List.length_map, h1] at hvl
        refine ⟨xs ++ [x], by simp [h1], fun y hy => ?_, vs ++ csi, by rw [List.map_append]; exact RoRows_snoc h3 (hf x) h6, fun j u hj => ?_⟩
        · rcases List.mem_append.1 hy with hy | hy
          · exact h2 y hy
          · simp only [List.mem_singleton] at hy
            subst hy
            exact h7
        · by_cases hjv : j < vs.length
          · rw [List.getElem?_append_left hjv] at hj
            exact h4 j u hj
          · rw [List.getElem?_append_right (by omega)] at hj
            obtain ⟨hj2, _⟩ := List.getElem?_eq_some_iff.1 hj
            have h10 := h9 (j - vs.length) (by omega)
            rw [hj] at h10
            have hsp := (spot (by omega)).1
            have hjj : k * sz + (j - vs.length) = j := by rw [← hvl]; exact Nat.add_sub_cancel' (Nat.le_of_not_lt hjv)
            have e : (a.add (k * sz)).add (j - vs.length) = ⟨a.block, a.off + j, none⟩ := by rw [add_add0 hsp, hjj]
            rw [e] at h10
            exact h10
    obtain ⟨xs, h1, h2, vs, h3, h4⟩ := all len (Nat.le_refl _)
    refine ⟨xs, ?_, by rw [h1]; have : cap ≤ 9223372036854775807 := hm; omega, h2⟩
    simp only [RoL]
    refine ⟨_, [], rfl, ?_, rfl⟩
    simp only [RoT, List.length_map]
    refine ⟨some a, cap, vs, by rw [h1], by omega, hm, h3, fun hne => ?_⟩
    have h0 : 0 < len := by
      rcases Nat.eq_zero_or_pos len with e | e
      · rw [e] at h1
        have : xs = [] := List.length_eq_zero_iff.1 h1
        subst this
        exact absurd rfl hne
      · exact e
    obtain ⟨s1, s2⟩ := spot h0
    refine ⟨a.block, a.off, ?_, s2, s2, h4⟩
    obtain ⟨ab, ao, as1⟩ := a
    simp only at s1
    subst s1
    rfl
theorem int_of {t : TypeId} (ht : P.underlying t = some (.int .i64)) {fuel : Nat} {cs : List Value} {x : DataW H × List MemPlace} (h : DataW.trod enc P w base spare held fuel t cs = some x) : ∃ n : Int, RoL w (okW w) [.int .i64 n] cs := by
  obtain ⟨n, rfl, _⟩ := DataW.trod_int ht h
  exact ⟨n, by simp only [RoL, RoT]; exact ⟨_, [], rfl, rfl, rfl⟩⟩
theorem bool_of {t : TypeId} (ht : P.underlying t = some .bool) {fuel : Nat} {cs : List Value} {x : DataW H × List MemPlace} (h : DataW.trod enc P w base spare held fuel t cs = some x) : ∃ n : Bool, RoL w (okW w) [.bool n] cs := by
  obtain ⟨n, rfl, _⟩ := DataW.trod_bool ht h
  exact ⟨n, by simp only [RoL, RoT]; exact ⟨_, [], rfl, rfl, rfl⟩⟩
theorem fld_of {fs : Array Field} {n : Nat} {cs : List Value} {xs : List (DataW H × List MemPlace)} (hf : ∀ (i : Nat) (f : Field), fs[i]? = some f → DataW.trod enc P w base spare held n f.type ((cs.drop f.offset).take (P.cellsOf f.type)) = xs[i]?) (hl : xs.length = fs.size) (i : Nat) {f : Field} (hi : fs[i]? = some f) :
    ∃ d, DataW.trod enc P w base spare held n f.type ((cs.drop f.offset).take (P.cellsOf f.type)) = some d := by
  have h1 := hf i f hi
  obtain ⟨h2, _⟩ := Array.getElem?_eq_some_iff.1 hi
  rw [List.getElem?_eq_getElem (by omega)] at h1
  exact ⟨_, h1⟩
end
def allRo : List T → Bool
  | [] => true
  | t :: ts => !t.isOwn && allRo ts
theorem CRepL_ro {w : World} {fz : Nat → Prop} {hs : List Value} : ∀ {ts : List T} {vs : List Value}, RoL w fz ts vs → allRo ts = true → CRepL w fz hs (ts.map C.t) (fun _ => False) vs
  | [], vs, h, _ => by simpa only [RoL, List.map_nil, CRepL] using h
  | t :: ts, vs, h, hr => by
    simp only [RoL] at h
    obtain ⟨u, us, rfl, h1, h2⟩ := h
    simp only [allRo, Bool.and_eq_true, Bool.not_eq_true'] at hr
    simp only [List.map_cons, CRepL, CRep]
    exact ⟨u, us, fun _ => False, fun _ => False, rfl, fun _ h => h.elim, fun _ h => h, roOwn (fun sz rows e => by rw [e] at hr; simp [T.isOwn] at hr) h1, CRepL_ro h2 hr.2⟩
end Go.H
end
section
set_option linter.unusedSimpArgs false
namespace Go.H
open Go
def cpT : Dep → T → Prop
  | none, t => t.solid = true
  | some _, t => t.flat = true
def cpL (d : Dep) : List T → Prop
  | [] => True
  | t :: ts => cpT d t ∧ cpL d ts
theorem cpL_iff {d : Dep} : ∀ {r : List T}, cpL d r ↔ ∀ t ∈ r, cpT d t
  | [] => by simp [cpL]
  | t :: ts => by simp [cpL, cpL_iff (r := ts)]
theorem cpRows_cons (d : Dep) (r : List T) (rs : List (List T)) : cpRows d (r :: rs) = (cpL d r ∧ cpRows d rs) := by
  rw [eq_iff_iff, cpL_iff]
  cases d <;> simp [cpRows, cpT]
theorem cpRows_nil (d : Dep) : cpRows d [] = True := by
  cases d <;> simp [cpRows]
attribute [go_sem] cpRows_cons cpRows_nil cpL cpT T.solid T.flat
theorem cpRowsN_map {α : Type} (f : α → List T) (h : ∀ x, ∀ t ∈ f x, t.solid = true) (xs : List α) : cpRows none (xs.map f) = True := by
  rw [eq_iff_iff]
  unfold cpRows
  simp only [List.mem_map, iff_true]
  rintro r ⟨x, _, rfl⟩ t ht
  exact h x t ht
theorem getD_map_ {α : Type} (f : α → List T) (xs : List α) (i : Nat) (d : α) : (xs.map f).getD i (f d) = f (xs.getD i d) := by
  simp only [List.getD_eq_getElem?_getD, List.getElem?_map]
  cases xs[i]? <;> rfl
theorem noShR_map {α : Type} (f : α → List T) (h : ∀ x, T.noShL (f x)) (xs : List α) : T.noShR (xs.map f) = True := by
  rw [eq_iff_iff, T.noShR_iff]
  simp only [List.mem_map, forall_exists_index, and_imp, forall_apply_eq_imp_iff₂, h, implies_true]
theorem roRows_map {α : Type} (f g : α → List T) (h : ∀ x, (f x).map T.ro = g x) (xs : List α) : roRows (xs.map f) = xs.map g := by
  simp only [roRows, List.map_map]
  exact List.map_congr_left fun x _ => h x
theorem cpRows_map {α : Type} (f : α → List T) (h : ∀ x, ∀ t ∈ f x, t.flat = true) (d : Dep) (xs : List α) : cpRows d (xs.map f) = True := by
  rw [eq_iff_iff]
  unfold cpRows
  cases d
  · simp only [List.mem_map, iff_true]
    rintro r ⟨x, _, rfl⟩ t ht
    exact T.flat_solid (h x t ht)
  · simp only [List.mem_map, iff_true]
    rintro r ⟨x, _, rfl⟩ t ht
    exact h x t ht
def eI_i64 (n : Int) : List T := [.int .i64 n]
def zI_i64 : Int := 0
def dI_i64 : List T := eI_i64 zI_i64
theorem getD_I_i64 (xs : List Int) (i : Nat) : (xs.map eI_i64).getD i dI_i64 = eI_i64 (xs.getD i zI_i64) := getD_map_ ..
theorem shrR_I_i64 (xs : List Int) : T.shrR (xs.map eI_i64) = xs.map eI_i64 := T.shrR_map _ _ (fun _ => rfl) xs
theorem noShR_I_i64 (xs : List Int) : T.noShR (xs.map eI_i64) = True := noShR_map _ (fun _ => by simp [eI_i64, T.noShL, T.noSh]) xs
theorem roRows_I_i64 (xs : List Int) : roRows (xs.map eI_i64) = xs.map eI_i64 := roRows_map _ _ (fun _ => rfl) xs
theorem cpRows_I_i64 (d : Dep) (xs : List Int) : cpRows d (xs.map eI_i64) = True := cpRows_map _ (fun _ => by simp [eI_i64, T.flat]) d xs
attribute [go_sem] getD_I_i64 shrR_I_i64 noShR_I_i64 roRows_I_i64 cpRows_I_i64
theorem dropd_I_i64 : List.drop 1 dI_i64 = [] := rfl
theorem tm_I_i64 : tm dI_i64 = [.int .i64 0] := rfl
attribute [go_sem] dropd_I_i64 tm_I_i64
structure Cmd where
  kind : Int
  expect : Int
  name : Int
  addr : Int
  number : Int
  proto : Int
def eCmd (x : Cmd) : List T := [.int .i64 x.kind, .int .i64 x.expect, .int .i64 x.name, .int .i64 x.addr, .int .i64 x.number, .int .i64 x.proto]
def zCmd : Cmd := ⟨0, 0, 0, 0, 0, 0⟩
def dCmd : List T := eCmd zCmd
theorem getD_Cmd (xs : List Cmd) (i : Nat) : (xs.map eCmd).getD i dCmd = eCmd (xs.getD i zCmd) := getD_map_ ..
theorem shrR_Cmd (xs : List Cmd) : T.shrR (xs.map eCmd) = xs.map eCmd := T.shrR_map _ _ (fun _ => rfl) xs
theorem noShR_Cmd (xs : List Cmd) : T.noShR (xs.map eCmd) = True := noShR_map _ (fun _ => by simp [eCmd, T.noShL, T.noSh]) xs
theorem roRows_Cmd (xs : List Cmd) : roRows (xs.map eCmd) = xs.map eCmd := roRows_map _ _ (fun _ => rfl) xs
theorem cpRows_Cmd (d : Dep) (xs : List Cmd) : cpRows d (xs.map eCmd) = True := cpRows_map _ (fun _ => by simp [eCmd, T.flat]) d xs
attribute [go_sem] getD_Cmd shrR_Cmd noShR_Cmd roRows_Cmd cpRows_Cmd
theorem dropd_Cmd : List.drop 6 dCmd = [] := rfl
theorem tm_Cmd : tm dCmd = [.int .i64 0, .int .i64 0, .int .i64 0, .int .i64 0, .int .i64 0, .int .i64 0] := rfl
attribute [go_sem] dropd_Cmd tm_Cmd
structure Entry where
  term : Int
  client : Int
  seq : Int
  cmd : Cmd
def eEntry (x : Entry) : List T := [.int .i64 x.term, .int .i64 x.client, .int .i64 x.seq, .int .i64 x.cmd.kind, .int .i64 x.cmd.expect, .int .i64 x.cmd.name, .int .i64 x.cmd.addr, .int .i64 x.cmd.number, .int .i64 x.cmd.proto]
def zEntry : Entry := ⟨0, 0, 0, zCmd⟩
def dEntry : List T := eEntry zEntry
theorem getD_Entry (xs : List Entry) (i : Nat) : (xs.map eEntry).getD i dEntry = eEntry (xs.getD i zEntry) := getD_map_ ..
theorem shrR_Entry (xs : List Entry) : T.shrR (xs.map eEntry) = xs.map eEntry := T.shrR_map _ _ (fun _ => rfl) xs
theorem noShR_Entry (xs : List Entry) : T.noShR (xs.map eEntry) = True := noShR_map _ (fun _ => by simp [eEntry, T.noShL, T.noSh]) xs
theorem roRows_Entry (xs : List Entry) : roRows (xs.map eEntry) = xs.map eEntry := roRows_map _ _ (fun _ => rfl) xs
theorem cpRows_Entry (d : Dep) (xs : List Entry) : cpRows d (xs.map eEntry) = True := cpRows_map _ (fun _ => by simp [eEntry, T.flat]) d xs
attribute [go_sem] getD_Entry shrR_Entry noShR_Entry roRows_Entry cpRows_Entry
theorem dropd_Entry : List.drop 9 dEntry = [] := rfl
theorem tm_Entry : tm dEntry = [.int .i64 0, .int .i64 0, .int .i64 0, .int .i64 0, .int .i64 0, .int .i64 0, .int .i64 0, .int .i64 0, .int .i64 0] := rfl
attribute [go_sem] dropd_Entry tm_Entry
structure Mail where
  kind : Int
  from_ : Int
  to_ : Int
  term : Int
  index : Int
  last : Int
  commit : Int
  ok : Bool
  entries : List Entry
def eMail (o : Bool) (x : Mail) : List T := [.int .i64 x.kind, .int .i64 x.from_, .int .i64 x.to_, .int .i64 x.term, .int .i64 x.index, .int .i64 x.last, .int .i64 x.commit, .bool x.ok, .sl o 9 (x.entries.map eEntry)]
def zMail : Mail := ⟨0, 0, 0, 0, 0, 0, 0, false, []⟩
def dMail (o : Bool) : List T := eMail o zMail
theorem getD_Mail (o : Bool) (xs : List Mail) (i : Nat) : (xs.map (eMail o)).getD i (dMail o) = eMail o (xs.getD i zMail) := getD_map_ ..
theorem shrR_Mail (o : Bool) (xs : List Mail) : T.shrR (xs.map (eMail o)) = xs.map (eMail false) := T.shrR_map _ _ (fun x => by simp only [eMail, T.shrL, T.shr, shrR_Entry]) xs
theorem noShR_Mail (xs : List Mail) : T.noShR (xs.map (eMail true)) = True := noShR_map _ (fun _ => by simp [eMail, T.noShL, T.noSh, noShR_Entry]) xs
theorem cpRows_Mail (o : Bool) (xs : List Mail) : cpRows none (xs.map (eMail o)) = True := cpRowsN_map _ (fun _ => by simp [eMail, T.solid]) xs
attribute [go_sem] getD_Mail shrR_Mail noShR_Mail cpRows_Mail
theorem dropd_Mail (o : Bool) : List.drop 9 (dMail o) = [] := rfl
theorem tm_Mail : tm (dMail true) = [.int .i64 0, .int .i64 0, .int .i64 0, .int .i64 0, .int .i64 0, .int .i64 0, .int .i64 0, .bool false, .sl true 9 []] := rfl
attribute [go_sem] dropd_Mail tm_Mail
def qMail (x : Mail) : Prop := x.entries.length ≤ 9223372036854775807
structure Node where
  id : Int
  peers : Int
  term : Int
  voted : Int
  log : List Entry
  role : Int
  commit : Int
  votes : List Int
  next : List Int
  match_ : List Int
def eNode (o : Bool) (x : Node) : List T := [.int .i64 x.id, .int .i64 x.peers, .int .i64 x.term, .int .i64 x.voted, .sl o 9 (x.log.map eEntry), .int .i64 x.role, .int .i64 x.commit, .sl o 1 (x.votes.map eI_i64), .sl o 1 (x.next.map eI_i64), .sl o 1 (x.match_.map eI_i64)]
def zNode : Node := ⟨0, 0, 0, 0, [], 0, 0, [], [], []⟩
def dNode (o : Bool) : List T := eNode o zNode
theorem getD_Node (o : Bool) (xs : List Node) (i : Nat) : (xs.map (eNode o)).getD i (dNode o) = eNode o (xs.getD i zNode) := getD_map_ ..
theorem shrR_Node (o : Bool) (xs : List Node) : T.shrR (xs.map (eNode o)) = xs.map (eNode false) := T.shrR_map _ _ (fun x => by simp only [eNode, T.shrL, T.shr, shrR_Entry, shrR_I_i64]) xs
theorem noShR_Node (xs : List Node) : T.noShR (xs.map (eNode true)) = True := noShR_map _ (fun _ => by simp [eNode, T.noShL, T.noSh, noShR_Entry, noShR_I_i64]) xs
theorem cpRows_Node (o : Bool) (xs : List Node) : cpRows none (xs.map (eNode o)) = True := cpRowsN_map _ (fun _ => by simp [eNode, T.solid]) xs
attribute [go_sem] getD_Node shrR_Node noShR_Node cpRows_Node
theorem dropd_Node (o : Bool) : List.drop 10 (dNode o) = [] := rfl
theorem tm_Node : tm (dNode true) = [.int .i64 0, .int .i64 0, .int .i64 0, .int .i64 0, .sl true 9 [], .int .i64 0, .int .i64 0, .sl true 1 [], .sl true 1 [], .sl true 1 []] := rfl
attribute [go_sem] dropd_Node tm_Node
def qNode (x : Node) : Prop := x.log.length ≤ 9223372036854775807 ∧ x.votes.length ≤ 9223372036854775807 ∧ x.next.length ≤ 9223372036854775807 ∧ x.match_.length ≤ 9223372036854775807
structure Won where
  term : Int
  node : Int
def eWon (x : Won) : List T := [.int .i64 x.term, .int .i64 x.node]
def zWon : Won := ⟨0, 0⟩
def dWon : List T := eWon zWon
theorem getD_Won (xs : List Won) (i : Nat) : (xs.map eWon).getD i dWon = eWon (xs.getD i zWon) := getD_map_ ..
theorem shrR_Won (xs : List Won) : T.shrR (xs.map eWon) = xs.map eWon := T.shrR_map _ _ (fun _ => rfl) xs
theorem noShR_Won (xs : List Won) : T.noShR (xs.map eWon) = True := noShR_map _ (fun _ => by simp [eWon, T.noShL, T.noSh]) xs
theorem roRows_Won (xs : List Won) : roRows (xs.map eWon) = xs.map eWon := roRows_map _ _ (fun _ => rfl) xs
theorem cpRows_Won (d : Dep) (xs : List Won) : cpRows d (xs.map eWon) = True := cpRows_map _ (fun _ => by simp [eWon, T.flat]) d xs
attribute [go_sem] getD_Won shrR_Won noShR_Won roRows_Won cpRows_Won
theorem dropd_Won : List.drop 2 dWon = [] := rfl
theorem tm_Won : tm dWon = [.int .i64 0, .int .i64 0] := rfl
attribute [go_sem] dropd_Won tm_Won
structure Seal where
  term : Int
  entry : Entry
def eSeal (x : Seal) : List T := [.int .i64 x.term, .int .i64 x.entry.term, .int .i64 x.entry.client, .int .i64 x.entry.seq, .int .i64 x.entry.cmd.kind, .int .i64 x.entry.cmd.expect, .int .i64 x.entry.cmd.name, .int .i64 x.entry.cmd.addr, .int .i64 x.entry.cmd.number, .int .i64 x.entry.cmd.proto]
def zSeal : Seal := ⟨0, zEntry⟩
def dSeal : List T := eSeal zSeal
theorem getD_Seal (xs : List Seal) (i : Nat) : (xs.map eSeal).getD i dSeal = eSeal (xs.getD i zSeal) := getD_map_ ..
theorem shrR_Seal (xs : List Seal) : T.shrR (xs.map eSeal) = xs.map eSeal := T.shrR_map _ _ (fun _ => rfl) xs
theorem noShR_Seal (xs : List Seal) : T.noShR (xs.map eSeal) = True := noShR_map _ (fun _ => by simp [eSeal, T.noShL, T.noSh]) xs
theorem roRows_Seal (xs : List Seal) : roRows (xs.map eSeal) = xs.map eSeal := roRows_map _ _ (fun _ => rfl) xs
theorem cpRows_Seal (d : Dep) (xs : List Seal) : cpRows d (xs.map eSeal) = True := cpRows_map _ (fun _ => by simp [eSeal, T.flat]) d xs
attribute [go_sem] getD_Seal shrR_Seal noShR_Seal roRows_Seal cpRows_Seal
theorem dropd_Seal : List.drop 10 dSeal = [] := rfl
theorem tm_Seal : tm dSeal = [.int .i64 0, .int .i64 0, .int .i64 0, .int .i64 0, .int .i64 0, .int .i64 0, .int .i64 0, .int .i64 0, .int .i64 0, .int .i64 0] := rfl
attribute [go_sem] dropd_Seal tm_Seal
structure Cluster where
  nodes : List Node
  mails : List Mail
  wins : List Won
  seals : List Seal
def eCluster (o : Bool) (x : Cluster) : List T := [.sl o 10 (x.nodes.map (eNode o)), .sl o 9 (x.mails.map (eMail o)), .sl o 2 (x.wins.map eWon), .sl o 10 (x.seals.map eSeal)]
def zCluster : Cluster := ⟨[], [], [], []⟩
def dCluster (o : Bool) : List T := eCluster o zCluster
theorem getD_Cluster (o : Bool) (xs : List Cluster) (i : Nat) : (xs.map (eCluster o)).getD i (dCluster o) = eCluster o (xs.getD i zCluster) := getD_map_ ..
theorem shrR_Cluster (o : Bool) (xs : List Cluster) : T.shrR (xs.map (eCluster o)) = xs.map (eCluster false) := T.shrR_map _ _ (fun x => by simp only [eCluster, T.shrL, T.shr, shrR_Mail, shrR_Node, shrR_Seal, shrR_Won]) xs
theorem noShR_Cluster (xs : List Cluster) : T.noShR (xs.map (eCluster true)) = True := noShR_map _ (fun _ => by simp [eCluster, T.noShL, T.noSh, noShR_Mail, noShR_Node, noShR_Seal, noShR_Won]) xs
theorem cpRows_Cluster (o : Bool) (xs : List Cluster) : cpRows none (xs.map (eCluster o)) = True := cpRowsN_map _ (fun _ => by simp [eCluster, T.solid]) xs
attribute [go_sem] getD_Cluster shrR_Cluster noShR_Cluster cpRows_Cluster
theorem dropd_Cluster (o : Bool) : List.drop 4 (dCluster o) = [] := rfl
theorem tm_Cluster : tm (dCluster true) = [.sl true 10 [], .sl true 9 [], .sl true 2 [], .sl true 10 []] := rfl
attribute [go_sem] dropd_Cluster tm_Cluster
def qCluster (x : Cluster) : Prop := (x.nodes.length ≤ 9223372036854775807 ∧ ∀ y ∈ x.nodes, qNode y) ∧ (x.mails.length ≤ 9223372036854775807 ∧ ∀ y ∈ x.mails, qMail y) ∧ x.wins.length ≤ 9223372036854775807 ∧ x.seals.length ≤ 9223372036854775807
structure ClusterResult where
  code : Int
  cluster : Cluster
def eClusterResult (o : Bool) (x : ClusterResult) : List T := [.int .i64 x.code, .sl o 10 (x.cluster.nodes.map (eNode o)), .sl o 9 (x.cluster.mails.map (eMail o)), .sl o 2 (x.cluster.wins.map eWon), .sl o 10 (x.cluster.seals.map eSeal)]
def zClusterResult : ClusterResult := ⟨0, zCluster⟩
def dClusterResult (o : Bool) : List T := eClusterResult o zClusterResult
theorem getD_ClusterResult (o : Bool) (xs : List ClusterResult) (i : Nat) : (xs.map (eClusterResult o)).getD i (dClusterResult o) = eClusterResult o (xs.getD i zClusterResult) := getD_map_ ..
theorem shrR_ClusterResult (o : Bool) (xs : List ClusterResult) : T.shrR (xs.map (eClusterResult o)) = xs.map (eClusterResult false) := T.shrR_map _ _ (fun x => by simp only [eClusterResult, T.shrL, T.shr, shrR_Mail, shrR_Node, shrR_Seal, shrR_Won]) xs
theorem noShR_ClusterResult (xs : List ClusterResult) : T.noShR (xs.map (eClusterResult true)) = True := noShR_map _ (fun _ => by simp [eClusterResult, T.noShL, T.noSh, noShR_Mail, noShR_Node, noShR_Seal, noShR_Won]) xs
theorem cpRows_ClusterResult (o : Bool) (xs : List ClusterResult) : cpRows none (xs.map (eClusterResult o)) = True := cpRowsN_map _ (fun _ => by simp [eClusterResult, T.solid]) xs
attribute [go_sem] getD_ClusterResult shrR_ClusterResult noShR_ClusterResult cpRows_ClusterResult
theorem dropd_ClusterResult (o : Bool) : List.drop 5 (dClusterResult o) = [] := rfl
theorem tm_ClusterResult : tm (dClusterResult true) = [.int .i64 0, .sl true 10 [], .sl true 9 [], .sl true 2 [], .sl true 10 []] := rfl
attribute [go_sem] dropd_ClusterResult tm_ClusterResult
def qClusterResult (x : ClusterResult) : Prop := qCluster x.cluster
structure NodeResult where
  code : Int
  node : Node
  send : List Mail
def eNodeResult (o : Bool) (x : NodeResult) : List T := [.int .i64 x.code, .int .i64 x.node.id, .int .i64 x.node.peers, .int .i64 x.node.term, .int .i64 x.node.voted, .sl o 9 (x.node.log.map eEntry), .int .i64 x.node.role, .int .i64 x.node.commit, .sl o 1 (x.node.votes.map eI_i64), .sl o 1 (x.node.next.map eI_i64), .sl o 1 (x.node.match_.map eI_i64), .sl o 9 (x.send.map (eMail o))]
def zNodeResult : NodeResult := ⟨0, zNode, []⟩
def dNodeResult (o : Bool) : List T := eNodeResult o zNodeResult
theorem getD_NodeResult (o : Bool) (xs : List NodeResult) (i : Nat) : (xs.map (eNodeResult o)).getD i (dNodeResult o) = eNodeResult o (xs.getD i zNodeResult) := getD_map_ ..
theorem shrR_NodeResult (o : Bool) (xs : List NodeResult) : T.shrR (xs.map (eNodeResult o)) = xs.map (eNodeResult false) := T.shrR_map _ _ (fun x => by simp only [eNodeResult, T.shrL, T.shr, shrR_Entry, shrR_I_i64, shrR_Mail]) xs
theorem noShR_NodeResult (xs : List NodeResult) : T.noShR (xs.map (eNodeResult true)) = True := noShR_map _ (fun _ => by simp [eNodeResult, T.noShL, T.noSh, noShR_Entry, noShR_I_i64, noShR_Mail]) xs
theorem cpRows_NodeResult (o : Bool) (xs : List NodeResult) : cpRows none (xs.map (eNodeResult o)) = True := cpRowsN_map _ (fun _ => by simp [eNodeResult, T.solid]) xs
attribute [go_sem] getD_NodeResult shrR_NodeResult noShR_NodeResult cpRows_NodeResult
theorem dropd_NodeResult (o : Bool) : List.drop 12 (dNodeResult o) = [] := rfl
theorem tm_NodeResult : tm (dNodeResult true) = [.int .i64 0, .int .i64 0, .int .i64 0, .int .i64 0, .int .i64 0, .sl true 9 [], .int .i64 0, .int .i64 0, .sl true 1 [], .sl true 1 [], .sl true 1 [], .sl true 9 []] := rfl
attribute [go_sem] dropd_NodeResult tm_NodeResult
def qNodeResult (x : NodeResult) : Prop := qNode x.node ∧ (x.send.length ≤ 9223372036854775807 ∧ ∀ y ∈ x.send, qMail y)
structure EntriesResult where
  code : Int
  entries : List Entry
def eEntriesResult (o : Bool) (x : EntriesResult) : List T := [.int .i64 x.code, .sl o 9 (x.entries.map eEntry)]
def zEntriesResult : EntriesResult := ⟨0, []⟩
def dEntriesResult (o : Bool) : List T := eEntriesResult o zEntriesResult
theorem getD_EntriesResult (o : Bool) (xs : List EntriesResult) (i : Nat) : (xs.map (eEntriesResult o)).getD i (dEntriesResult o) = eEntriesResult o (xs.getD i zEntriesResult) := getD_map_ ..
theorem shrR_EntriesResult (o : Bool) (xs : List EntriesResult) : T.shrR (xs.map (eEntriesResult o)) = xs.map (eEntriesResult false) := T.shrR_map _ _ (fun x => by simp only [eEntriesResult, T.shrL, T.shr, shrR_Entry]) xs
theorem noShR_EntriesResult (xs : List EntriesResult) : T.noShR (xs.map (eEntriesResult true)) = True := noShR_map _ (fun _ => by simp [eEntriesResult, T.noShL, T.noSh, noShR_Entry]) xs
theorem cpRows_EntriesResult (o : Bool) (xs : List EntriesResult) : cpRows none (xs.map (eEntriesResult o)) = True := cpRowsN_map _ (fun _ => by simp [eEntriesResult, T.solid]) xs
attribute [go_sem] getD_EntriesResult shrR_EntriesResult noShR_EntriesResult cpRows_EntriesResult
theorem dropd_EntriesResult (o : Bool) : List.drop 2 (dEntriesResult o) = [] := rfl
theorem tm_EntriesResult : tm (dEntriesResult true) = [.int .i64 0, .sl true 9 []] := rfl
attribute [go_sem] dropd_EntriesResult tm_EntriesResult
def qEntriesResult (x : EntriesResult) : Prop := x.entries.length ≤ 9223372036854775807
attribute [go_sem] eI_i64 eCmd eEntry eMail eNode eWon eSeal eCluster eClusterResult eNodeResult eEntriesResult
end Go.H
end
section
set_option linter.unusedVariables false
namespace Go.H
open Go
attribute [go_sem] V.scalar TV.noSh T.noSh T.noShL Ob.noSh V.zT liveV liveL verM capM TV.noShs Ob.noShs T.shr T.shrL roCs roC T.isOwn liveD List.take_length List.drop_zero List.take_zero List.map_nil
attribute [go_sem] decide_false Bool.or_false Bool.true_or Bool.or_true Bool.false_or Bool.and_false Int.natCast_add Int.natCast_one Int.cast_ofNat_Int Nat.add_zero
attribute [go_sem] List.length_map Int.toNat_natCast List.length_append List.length_take List.length_drop List.take_take Nat.min_self List.length_cons List.length_nil List.length_set List.length_replicate
theorem take_map' {α β : Type} (f : α → β) (l : List α) (i : Nat) : (l.map f).take i = (l.take i).map f := List.map_take.symm
theorem drop_map' {α β : Type} (f : α → β) (l : List α) (i : Nat) : (l.map f).drop i = (l.drop i).map f := List.map_drop.symm
theorem app_map' {α β : Type} (f : α → β) (l m : List α) : l.map f ++ m.map f = (l ++ m).map f := List.map_append.symm
attribute [go_sem] take_map' drop_map' app_map'
attribute [go_sem] reduceCtorEq Nat.reduceMod Nat.reduceEqDiff Nat.reduceAdd Nat.reduceMul Nat.reduceLeDiff Nat.reduceLT
theorem take_succ_map {α β : Type} (f : α → β) (d : α) {xs : List α} {i : Nat} (h : i < xs.length) : (xs.take (i + 1)).map f = (xs.take i).map f ++ [f (xs.getD i d)] := by
  rw [List.take_add_one, List.map_append, List.getD_eq_getElem?_getD, List.getElem?_eq_getElem h]
  rfl
def inR (a b c : Int) : Bool := decide (b ≤ a) && decide (a ≤ c)
attribute [go_sem] eqVL eqV
attribute [go_sem] T.noShR T.shrL T.shrR roCs roC cVcL Bool.cond_true_left Bool.cond_false_left Bool.cond_true_right Bool.not_eq_true' beq_false obM lkey obOk bne_self_eq_false beq_self_eq_true Bool.not_false ne_eq not_true_eq_false not_false_eq_true eq_self decide_not Bool.not_true
def aS (l : List T) : Arg := .agg (l.map C.t)
def aT (t : T) : Arg := .one (.t t)
def aI (n : Int) : Arg := .one (.t (.int .i64 n))
def rI (n : Int) : TV := .one (.int .i64 n)
def rB (b : Bool) : TV := .one (.bool b)
attribute [go_sem] aS aT aI rI rB okI
theorem drop_getD {α : Type} (d : α) {xs : List α} {i : Nat} (h : i < xs.length) : xs.drop i = xs.getD i d :: xs.drop (i + 1) := by
  rw [List.drop_eq_getElem_cons h, List.getD_eq_getElem?_getD, List.getElem?_eq_getElem h]
  rfl
theorem getD_set_self {α : Type} {l : List α} {i : Nat} (h : i < l.length) (r d : α) : (l.set i r).getD i d = r := by
  rw [List.getD_eq_getElem?_getD, List.getElem?_set_self h]
  rfl
theorem all_getD {α : Type} (d : α) {xs : List α} {p : α → Prop} : (∀ i < xs.length, p (xs.getD i d)) ↔ ∀ x ∈ xs, p x := by
  constructor
  · intro h x hx
    obtain ⟨i, hi, rfl⟩ := List.getElem_of_mem hx
    have := h i hi
    rwa [List.getD_eq_getElem?_getD, List.getElem?_eq_getElem hi] at this
  · intro h i hi
    rw [List.getD_eq_getElem?_getD, List.getElem?_eq_getElem hi]
    exact h _ (List.getElem_mem hi)
def szL (n : Nat) (l : Int) : Int := if l - n < 0 then -1 else l - n
def szT (l : Int) (k : Int → Int) : Int := if l < 0 then -1 else k l
def szNode (x : Node) (l : Int) : Int := szT (szL x.log.length l) fun l => szT (szL x.votes.length l) fun l => szT (szL x.next.length l) fun l => szT (szL x.match_.length l) fun l => l
def szMail (x : Mail) (l : Int) : Int := szT (szL x.entries.length l) fun l => l
def szNodes : List Node → Int → Int
  | [], l => l
  | x :: xs, l => szT (szNode x l) (szNodes xs)
def szMails : List Mail → Int → Int
  | [], l => l
  | x :: xs, l => szT (szMail x l) (szMails xs)
def szNs (xs : List Node) (l : Int) : Int := szT (szL xs.length l) (szNodes xs)
def szMs (xs : List Mail) (l : Int) : Int := szT (szL xs.length l) (szMails xs)
def szCluster (x : Cluster) (l : Int) : Int := szT (szNs x.nodes l) fun l => szT (szMs x.mails l) fun l => szT (szL x.wins.length l) fun l => szT (szL x.seals.length l) fun l => l
theorem szL_lo (n : Nat) (l : Int) : -1 ≤ szL n l := by unfold szL; split <;> omega
theorem szL_hi {n : Nat} {l b : Int} (h : l ≤ b) (hb : -1 ≤ b) : szL n l ≤ b := by unfold szL; split <;> omega
theorem szL_ge {n : Nat} {l : Int} (h : 0 ≤ szL n l) : szL n l = l - n ∧ n ≤ l := by
  unfold szL at *
  split at h
  · omega
  · rename_i h2
    rw [if_neg h2]
    omega
theorem szT_lo {l : Int} {k : Int → Int} (h : 0 ≤ l → -1 ≤ k l) : -1 ≤ szT l k := by unfold szT; split <;> first | omega | exact h (by omega)
theorem szT_hi {l b : Int} {k : Int → Int} (hb : -1 ≤ b) (h : k l ≤ b) : szT l k ≤ b := by unfold szT; split <;> first | omega | exact h
theorem szT_ge {l : Int} {k : Int → Int} (h : 0 ≤ szT l k) : 0 ≤ l ∧ 0 ≤ k l ∧ szT l k = k l := by
  unfold szT at *
  split at h
  · omega
  · rename_i h2
    rw [if_neg h2]
    omega
theorem szNode_lo (x : Node) (l : Int) (h : l ≤ 1048576) : -1 ≤ szNode x l ∧ szNode x l ≤ 1048576 :=
  ⟨szT_lo fun _ => szT_lo fun _ => szT_lo fun _ => szT_lo fun _ => szL_lo .., szT_hi (by omega) (szT_hi (by omega) (szT_hi (by omega) (szT_hi (by omega) (szL_hi (szL_hi (szL_hi (szL_hi h (by omega)) (by omega)) (by omega)) (by omega)))))⟩
theorem szMail_lo (x : Mail) (l : Int) (h : l ≤ 1048576) : -1 ≤ szMail x l ∧ szMail x l ≤ 1048576 :=
  ⟨szT_lo fun _ => szL_lo .., szT_hi (by omega) (szL_hi h (by omega))⟩
theorem szNodes_lo : ∀ (xs : List Node) (l : Int), -1 ≤ l → l ≤ 1048576 → -1 ≤ szNodes xs l ∧ szNodes xs l ≤ 1048576
  | [], l, h1, h2 => ⟨h1, h2⟩
  | x :: xs, l, h1, h2 => by
    have := szNode_lo x l h2
    have h3 := szNodes_lo xs (szNode x l) this.1 this.2
    exact ⟨szT_lo fun _ => h3.1, szT_hi (by omega) h3.2⟩
theorem szMails_lo : ∀ (xs : List Mail) (l : Int), -1 ≤ l → l ≤ 1048576 → -1 ≤ szMails xs l ∧ szMails xs l ≤ 1048576
  | [], l, h1, h2 => ⟨h1, h2⟩
  | x :: xs, l, h1, h2 => by
    have := szMail_lo x l h2
    have h3 := szMails_lo xs (szMail x l) this.1 this.2
    exact ⟨szT_lo fun _ => h3.1, szT_hi (by omega) h3.2⟩
theorem szNs_lo (xs : List Node) (l : Int) (h : l ≤ 1048576) : -1 ≤ szNs xs l ∧ szNs xs l ≤ 1048576 := by
  have := szNodes_lo xs _ (szL_lo xs.length l) (szL_hi h (by omega))
  exact ⟨szT_lo fun _ => this.1, szT_hi (by omega) this.2⟩
theorem szMs_lo (xs : List Mail) (l : Int) (h : l ≤ 1048576) : -1 ≤ szMs xs l ∧ szMs xs l ≤ 1048576 := by
  have := szMails_lo xs _ (szL_lo xs.length l) (szL_hi h (by omega))
  exact ⟨szT_lo fun _ => this.1, szT_hi (by omega) this.2⟩
def limN (b : Nat) (x : Node) : Prop := x.log.length ≤ b ∧ x.votes.length ≤ b ∧ x.next.length ≤ b ∧ x.match_.length ≤ b
def limM (b : Nat) (x : Mail) : Prop := x.entries.length ≤ b
def limC (b : Nat) (x : Cluster) : Prop := (x.nodes.length ≤ b ∧ ∀ y ∈ x.nodes, limN b y) ∧ (x.mails.length ≤ b ∧ ∀ y ∈ x.mails, limM b y) ∧ x.wins.length ≤ b ∧ x.seals.length ≤ b
theorem szNode_lim {x : Node} {l : Int} (h : 0 ≤ szNode x l) (hl : l ≤ 1048576) : limN 1048576 x ∧ szNode x l ≤ 1048576 := by
  unfold szNode at h
  obtain ⟨a1, a2, _⟩ := szT_ge h
  obtain ⟨b1, b2, _⟩ := szT_ge a2
  obtain ⟨c1, c2, _⟩ := szT_ge b2
  obtain ⟨d1, d2, _⟩ := szT_ge c2
  have e1 := szL_ge a1
  have e2 := szL_ge b1
  have e3 := szL_ge c1
  have e4 := szL_ge d1
  exact ⟨⟨by omega, by omega, by omega, by omega⟩, (szNode_lo x l hl).2⟩
theorem szMail_lim {x : Mail} {l : Int} (h : 0 ≤ szMail x l) (hl : l ≤ 1048576) : limM 1048576 x ∧ szMail x l ≤ 1048576 := by
  unfold szMail at h
  obtain ⟨a1, a2, _⟩ := szT_ge h
  have e1 := szL_ge a1
  exact ⟨by unfold limM; omega, (szMail_lo x l hl).2⟩
theorem szNodes_lim : ∀ {xs : List Node} {l : Int}, 0 ≤ szNodes xs l → l ≤ 1048576 → ∀ y ∈ xs, limN 1048576 y
  | [], _, _, _ => by simp
  | x :: xs, l, h, hl => by
    obtain ⟨a1, a2, _⟩ := szT_ge h
    obtain ⟨b1, b2⟩ := szNode_lim a1 hl
    intro y hy
    rcases List.mem_cons.1 hy with rfl | hy
    · exact b1
    · exact szNodes_lim a2 b2 y hy
theorem szMails_lim : ∀ {xs : List Mail} {l : Int}, 0 ≤ szMails xs l → l ≤ 1048576 → ∀ y ∈ xs, limM 1048576 y
  | [], _, _, _ => by simp
  | x :: xs, l, h, hl => by
    obtain ⟨a1, a2, _⟩ := szT_ge h
    obtain ⟨b1, b2⟩ := szMail_lim a1 hl
    intro y hy
    rcases List.mem_cons.1 hy with rfl | hy
    · exact b1
    · exact szMails_lim a2 b2 y hy
theorem szCluster_lim {x : Cluster} {l : Int} (h : 0 ≤ szCluster x l) (hl : l ≤ 1048576) : limC 1048576 x := by
  unfold szCluster at h
  obtain ⟨a1, a2, _⟩ := szT_ge h
  obtain ⟨b1, b2, _⟩ := szT_ge a2
  obtain ⟨c1, c2, _⟩ := szT_ge b2
  obtain ⟨d1, d2, _⟩ := szT_ge c2
  have e1 := (szNs_lo x.nodes l hl).2
  have e2 := (szMs_lo x.mails _ e1).2
  obtain ⟨f1, f2, _⟩ := szT_ge a1
  obtain ⟨g1, g2, _⟩ := szT_ge b1
  have q1 := szL_ge f1
  have q2 := szL_ge g1
  have q3 := szL_ge c1
  have q4 := szL_ge d1
  exact ⟨⟨by omega, szNodes_lim f2 (szL_hi hl (by omega))⟩, ⟨by omega, szMails_lim g2 (szL_hi e1 (by omega))⟩, by omega, by omega⟩
theorem getD_bld {α : Type} {l : List α} {n i : Nat} {d : α} (h : l.length = i) : (l ++ List.replicate n d).getD i d = d := by
  rw [List.getD_eq_getElem?_getD, List.getElem?_append_right (by omega)]
  cases h2 : (List.replicate n d)[i - l.length]? with
  | none => rfl
  | some x => exact List.eq_of_mem_replicate (List.mem_of_getElem? h2)
theorem bld_step {α : Type} (f : α → List T) (z : α) (d : List T) {xs : List α} {i : Nat} (h : i < xs.length) : ((xs.take i).map f ++ List.replicate (xs.length - i) d).set i (f (xs.getD i z)) = (xs.take (i + 1)).map f ++ List.replicate (xs.length - (i + 1)) d := by
  rw [take_succ_map f z h]
  have e : xs.length - i = (xs.length - (i + 1)) + 1 := by omega
  have hl : ((xs.take i).map f).length = i := by simp; omega
  rw [e, List.replicate_succ, List.set_append_right _ _ (by omega), hl, Nat.sub_self, List.set_cons_zero, List.append_assoc]
  rfl
attribute [go_sem] Nat.sub_self
def mkL {α : Type} (m : α → Int → α) (s : α → Int → Int) : List α → Int → List α
  | [], _ => []
  | x :: xs, k => m x k :: mkL m s xs (s x k)
def mkK {α : Type} (s : α → Int → Int) : List α → Int → Int
  | [], k => k
  | x :: xs, k => mkK s xs (s x k)
theorem mkL_length {α : Type} (m : α → Int → α) (s : α → Int → Int) : ∀ (xs : List α) (k : Int), (mkL m s xs k).length = xs.length
  | [], _ => rfl
  | x :: xs, k => by simp [mkL, mkL_length m s xs]
theorem mkL_snoc {α : Type} (m : α → Int → α) (s : α → Int → Int) (y : α) : ∀ (xs : List α) (k : Int), mkL m s (xs ++ [y]) k = mkL m s xs k ++ [m y (mkK s xs k)]
  | [], _ => rfl
  | x :: xs, k => by simp [mkL, mkK, mkL_snoc m s y xs]
theorem mkK_snoc {α : Type} (s : α → Int → Int) (y : α) : ∀ (xs : List α) (k : Int), mkK s (xs ++ [y]) k = s y (mkK s xs k)
  | [], _ => rfl
  | x :: xs, k => by simp [mkK, mkK_snoc s y xs]
theorem take_snoc {α : Type} (z : α) {xs : List α} {i : Nat} (h : i < xs.length) : xs.take (i + 1) = xs.take i ++ [xs.getD i z] := by
  rw [List.take_add_one, List.getD_eq_getElem?_getD, List.getElem?_eq_getElem h]
  rfl
theorem mkK_succ {α : Type} (s : α → Int → Int) (z : α) {xs : List α} {i : Nat} (h : i < xs.length) (k : Int) : mkK s (xs.take (i + 1)) k = s (xs.getD i z) (mkK s (xs.take i) k) := by
  rw [take_snoc z h, mkK_snoc]
theorem mk_step {α : Type} (f : α → List T) (m : α → Int → α) (s : α → Int → Int) (z : α) {xs : List α} {i : Nat} (h : i < xs.length) (k : Int) :
    ((mkL m s (xs.take i) k ++ xs.drop i).map f).set i (f (m (xs.getD i z) (mkK s (xs.take i) k))) = (mkL m s (xs.take (i + 1)) k ++ xs.drop (i + 1)).map f := by
  rw [take_snoc z h, mkL_snoc, drop_getD z h]
  have hl : (mkL m s (xs.take i) k).length = i := by rw [mkL_length]; simp; omega
  have e : ∀ y r, ((mkL m s (xs.take i) k ++ y :: r).map f).set i (f (m (xs.getD i z) (mkK s (xs.take i) k))) = (mkL m s (xs.take i) k ++ (m (xs.getD i z) (mkK s (xs.take i) k)) :: r).map f := by
    intro y r
    rw [List.map_append, List.set_append_right _ _ (by rw [List.length_map]; omega), List.length_map, hl, Nat.sub_self, List.map_cons, List.set_cons_zero, List.map_append, List.map_cons]
  rw [e, List.append_assoc]
  rfl
theorem mkL_getD {α : Type} (m : α → Int → α) (s : α → Int → Int) (z : α) : ∀ {xs : List α} {i : Nat} (k : Int), i < xs.length → (mkL m s xs k).getD i z = m (xs.getD i z) (mkK s (xs.take i) k)
  | [], i, k, h => by simp at h
  | x :: xs, 0, k, h => rfl
  | x :: xs, i + 1, k, h => by
    have := mkL_getD m s z (xs := xs) (i := i) (s x k) (by simpa using h)
    simpa only [mkL, List.getD_cons_succ, List.take_succ_cons, mkK] using this
theorem mk_getD {α : Type} (m : α → Int → α) (s : α → Int → Int) (z : α) {xs : List α} {i : Nat} (k : Int) (h : i < xs.length) : (mkL m s (xs.take i) k ++ xs.drop i).getD i z = xs.getD i z := by
  have hl : (mkL m s (xs.take i) k).length = i := by rw [mkL_length]; simp; omega
  rw [List.getD_eq_getElem?_getD, List.getElem?_append_right (by omega), hl, Nat.sub_self, drop_getD z h]
  rfl
theorem mkK_mono {α : Type} {s : α → Int → Int} (hs : ∀ x k, k ≤ s x k) : ∀ (xs : List α) (k : Int), k ≤ mkK s xs k
  | [], k => Int.le_refl k
  | x :: xs, k => Int.le_trans (hs x k) (mkK_mono hs xs _)
theorem mkK_app {α : Type} {s : α → Int → Int} : ∀ (xs ys : List α) (k : Int), mkK s (xs ++ ys) k = mkK s ys (mkK s xs k)
  | [], _, _ => rfl
  | x :: xs, ys, k => by simp [mkK, mkK_app xs ys]
theorem mkK_take {α : Type} {s : α → Int → Int} (hs : ∀ x k, k ≤ s x k) (xs : List α) (i : Nat) (k : Int) : mkK s (xs.take i) k ≤ mkK s xs k := by
  conv => rhs; rw [← List.take_append_drop i xs, mkK_app]
  exact mkK_mono hs _ _
theorem mkK_at {α : Type} {s : α → Int → Int} (hs : ∀ x k, k ≤ s x k) (z : α) {xs : List α} {i : Nat} (h : i < xs.length) {k b : Int} (hb : mkK s xs k ≤ b) : k ≤ mkK s (xs.take i) k ∧ s (xs.getD i z) (mkK s (xs.take i) k) ≤ b := by
  rw [← mkK_succ s z h]
  exact ⟨mkK_mono hs _ _, Int.le_trans (mkK_take hs _ _ _) hb⟩
theorem mkK_bd {α : Type} {s : α → Int → Int} {c : Int} (hc : 0 ≤ c) : ∀ {xs : List α} {k : Int}, (∀ x ∈ xs, ∀ k, s x k ≤ k + c) → mkK s xs k ≤ k + c * xs.length
  | [], k, h => by simp [mkK]
  | x :: xs, k, h => by
    have h1 := h x (by simp) k
    have h2 := mkK_bd hc (xs := xs) (k := s x k) fun y hy => h y (by simp [hy])
    simp only [mkK, List.length_cons]
    rw [show c * ((xs.length + 1 : Nat) : Int) = c * xs.length + c by rw [Int.natCast_add, Int.mul_add]; simp]
    omega
theorem arr_eq {sz v v' : Nat} {c : Option Nat} {r r' : List (List T)} (h1 : r = r') (h2 : v = v') : some (Mem.arr ⟨sz, r, v, c⟩) = some (Mem.arr ⟨sz, r', v', c⟩) := by rw [h1, h2]
theorem int_eq {k : IntKind} {a b : Int} (h : a = b) : some (V.int k a) = some (V.int k b) := by rw [h]
def mI (_ : Int) (k : Int) : Int := k
def sI (_ : Int) (k : Int) : Int := k + 1
def mC (_ : Cmd) (k : Int) : Cmd := ⟨k, k + 1, k + 1 + 1, k + 1 + 1 + 1, k + 1 + 1 + 1 + 1, k + 1 + 1 + 1 + 1 + 1⟩
def mE (x : Entry) (k : Int) : Entry := ⟨k, k + 1, k + 1 + 1, mC x.cmd (k + 1 + 1 + 1)⟩
def sE (_ : Entry) (k : Int) : Int := k + 1 + 1 + 1 + 1 + 1 + 1 + 1 + 1 + 1
def mW (_ : Won) (k : Int) : Won := ⟨k, k + 1⟩
def sW (_ : Won) (k : Int) : Int := k + 1 + 1
def mS (x : Seal) (k : Int) : Seal := ⟨k, mE x.entry (k + 1)⟩
def sS (_ : Seal) (k : Int) : Int := k + 1 + 1 + 1 + 1 + 1 + 1 + 1 + 1 + 1 + 1
def mM (x : Mail) (k : Int) : Mail := ⟨k, k + 1, k + 1 + 1, k + 1 + 1 + 1, k + 1 + 1 + 1 + 1, k + 1 + 1 + 1 + 1 + 1, k + 1 + 1 + 1 + 1 + 1 + 1, decide ((k + 1 + 1 + 1 + 1 + 1 + 1 + 1).tmod 3 = 0), mkL mE sE x.entries (k + 1 + 1 + 1 + 1 + 1 + 1 + 1 + 1)⟩
def sM (x : Mail) (k : Int) : Int := mkK sE x.entries (k + 1 + 1 + 1 + 1 + 1 + 1 + 1 + 1)
def mN1 (x : Node) (k : Int) : Node := { x with log := mkL mE sE x.log k, votes := mkL mI sI x.votes (mkK sE x.log k), next := mkL mI sI x.next (mkK sI x.votes (mkK sE x.log k)), match_ := mkL mI sI x.match_ (mkK sI x.next (mkK sI x.votes (mkK sE x.log k))) }
def sN1 (x : Node) (k : Int) : Int := mkK sI x.match_ (mkK sI x.next (mkK sI x.votes (mkK sE x.log k)))
def kN4 (x : Node) (k : Int) : Int := mkK sE x.log (k + 1 + 1 + 1 + 1)
def mN (x : Node) (k : Int) : Node := ⟨k, k + 1, k + 1 + 1, k + 1 + 1 + 1, mkL mE sE x.log (k + 1 + 1 + 1 + 1), kN4 x k, kN4 x k + 1, mkL mI sI x.votes (kN4 x k + 1 + 1), mkL mI sI x.next (mkK sI x.votes (kN4 x k + 1 + 1)), mkL mI sI x.match_ (mkK sI x.next (mkK sI x.votes (kN4 x k + 1 + 1)))⟩
def sN (x : Node) (k : Int) : Int := mkK sI x.match_ (mkK sI x.next (mkK sI x.votes (kN4 x k + 1 + 1)))
theorem sI_up (x : Int) (k : Int) : k ≤ sI x k := by unfold sI; omega
theorem sE_up (x : Entry) (k : Int) : k ≤ sE x k := by unfold sE; omega
theorem sW_up (x : Won) (k : Int) : k ≤ sW x k := by unfold sW; omega
theorem sS_up (x : Seal) (k : Int) : k ≤ sS x k := by unfold sS; omega
theorem sM_up (x : Mail) (k : Int) : k ≤ sM x k := by
  have := mkK_mono sE_up x.entries (k + 1 + 1 + 1 + 1 + 1 + 1 + 1 + 1)
  unfold sM; omega
theorem sN_up (x : Node) (k : Int) : k ≤ sN x k := by
  have h1 := mkK_mono sE_up x.log (k + 1 + 1 + 1 + 1)
  have h2 := mkK_mono sI_up x.votes (kN4 x k + 1 + 1)
  have h3 := mkK_mono sI_up x.next (mkK sI x.votes (kN4 x k + 1 + 1))
  have h4 := mkK_mono sI_up x.match_ (mkK sI x.next (mkK sI x.votes (kN4 x k + 1 + 1)))
  unfold sN; unfold kN4 at *; omega
theorem getD_mem {α : Type} (z : α) {xs : List α} {i : Nat} (h : i < xs.length) : xs.getD i z ∈ xs := by
  rw [List.getD_eq_getElem?_getD, List.getElem?_eq_getElem h]
  exact List.getElem_mem h
theorem sN1_up (x : Node) (k : Int) : k ≤ sN1 x k := by
  have h1 := mkK_mono sE_up x.log k
  have h2 := mkK_mono sI_up x.votes (mkK sE x.log k)
  have h3 := mkK_mono sI_up x.next (mkK sI x.votes (mkK sE x.log k))
  have h4 := mkK_mono sI_up x.match_ (mkK sI x.next (mkK sI x.votes (mkK sE x.log k)))
  unfold sN1; omega
def mCl (x : Cluster) (k : Int) : Cluster := ⟨mkL mN sN x.nodes k, mkL mM sM x.mails (mkK sN x.nodes k), mkL mW sW x.wins (mkK sM x.mails (mkK sN x.nodes k)), mkL mS sS x.seals (mkK sW x.wins (mkK sM x.mails (mkK sN x.nodes k)))⟩
def sCl (x : Cluster) (k : Int) : Int := mkK sS x.seals (mkK sW x.wins (mkK sM x.mails (mkK sN x.nodes k)))
theorem sCl_up (x : Cluster) (k : Int) : k ≤ sCl x k := by
  have v1 := mkK_mono sN_up x.nodes k
  have v2 := mkK_mono sM_up x.mails (mkK sN x.nodes k)
  have v3 := mkK_mono sW_up x.wins (mkK sM x.mails (mkK sN x.nodes k))
  have v4 := mkK_mono sS_up x.seals (mkK sW x.wins (mkK sM x.mails (mkK sN x.nodes k)))
  unfold sCl; omega
theorem mCl_n (x : Cluster) (k : Int) : (mCl x k).nodes.length = x.nodes.length := mkL_length ..
theorem mCl_m (x : Cluster) (k : Int) : (mCl x k).mails.length = x.mails.length := mkL_length ..
theorem mCl_w (x : Cluster) (k : Int) : (mCl x k).wins.length = x.wins.length := mkL_length ..
theorem mCl_s (x : Cluster) (k : Int) : (mCl x k).seals.length = x.seals.length := mkL_length ..
attribute [go_sem] mCl_n mCl_m mCl_w mCl_s
theorem mCl_tn (x : Cluster) (k : Int) : List.take x.nodes.length (mCl x k).nodes = (mCl x k).nodes := List.take_of_length_le (by rw [mCl_n]; exact Nat.le_refl _)
theorem mCl_tm (x : Cluster) (k : Int) : List.take x.mails.length (mCl x k).mails = (mCl x k).mails := List.take_of_length_le (by rw [mCl_m]; exact Nat.le_refl _)
theorem mCl_tw (x : Cluster) (k : Int) : List.take x.wins.length (mCl x k).wins = (mCl x k).wins := List.take_of_length_le (by rw [mCl_w]; exact Nat.le_refl _)
theorem mCl_ts (x : Cluster) (k : Int) : List.take x.seals.length (mCl x k).seals = (mCl x k).seals := List.take_of_length_le (by rw [mCl_s]; exact Nat.le_refl _)
attribute [go_sem] mCl_tn mCl_tm mCl_tw mCl_ts
theorem toNat_sub1 (n : Nat) : ((n : Int) - 1).toNat = n - 1 := by omega
theorem toNat_add1 (n : Nat) : ((n : Int) + 1).toNat = n + 1 := by omega
attribute [go_sem] toNat_sub1 toNat_add1 Int.add_sub_cancel
def w64 (n : Int) : Int := IntKind.wrap .i64 n
def lastE (xs : List Entry) : Entry := if xs.length = 0 then zEntry else xs.getD (xs.length - 1) zEntry
def isId (x : Node) (i : Int) : Bool := inR i 0 (IntKind.wrap .i64 (x.peers - 1))
def cVip (k : Int) : Bool := inR k 5 8
def isNum (x : Cmd) : Bool := if x.kind = 1 ∨ x.kind = 2 then inR x.number 0 9 else if x.kind = 3 then inR x.number 1 3 else if x.kind = 9 then inR x.number 0 1 else inR x.number 0 65535
def isPro (n : Int) : Bool := decide (n = 6) || decide (n = 17)
def nd1 (k : Int) : Bool := !inR k 5 6
def nd2 (k : Int) : Bool := decide (k = 1) || inR k 5 8
def nd3 (k : Int) : Bool := !decide (k = 4)
def nd4 (k : Int) : Bool := inR k 5 8
def cmdFault (x : Cmd) : Int :=
  if !inR x.kind 1 9 then 1 else
  if !inR x.expect (-1) 1000000 || (nd1 x.kind && !inR x.name 1 999) || (nd2 x.kind && !inR x.addr 0 4294967295) || (nd3 x.kind && !isNum x) || (nd4 x.kind && !isPro x.proto) then 3 else
  if (!nd1 x.kind && decide (x.name ≠ 0)) || (!nd2 x.kind && decide (x.addr ≠ 0)) || (!nd3 x.kind && decide (x.number ≠ 0)) || (!nd4 x.kind && decide (x.proto ≠ 0)) then 1 else 0
theorem exp_eq (n : Int) : (!decide (n = -1) && !inR n 0 1000000) = !inR n (-1) 1000000 := by
  rw [Bool.eq_iff_iff]
  simp [inR]
  omega
def cmdZero (c : Cmd) : Bool := decide (c.kind = 0) && (decide (c.expect = 0) && (decide (c.name = 0) && (decide (c.addr = 0) && (decide (c.number = 0) && decide (c.proto = 0)))))
def entryFault (x : Entry) : Int :=
  if !inR x.term 1 100000 || !inR x.client 0 999 || !inR x.seq 0 1000000 then 3 else
  if decide (x.client = 0) ≠ decide (x.seq = 0) then 1 else
  if x.client ≠ 0 then cmdFault x.cmd else
  if !cmdZero x.cmd then 1 else 0
def scanN (f : Nat → Int) : Nat → Nat → Int
  | 0, _ => 0
  | n + 1, i => if f i = 0 then scanN f n (i + 1) else f i
def scan (f : Nat → Int) (n i : Nat) : Int := scanN f (n - i) i
theorem scan_lt {f : Nat → Int} {n i : Nat} (h : i < n) : scan f n i = if f i = 0 then scan f n (i + 1) else f i := by
  unfold scan
  rw [show n - i = (n - (i + 1)) + 1 by omega]
  rfl
theorem scan_ge {f : Nat → Int} {n i : Nat} (h : n ≤ i) : scan f n i = 0 := by
  unfold scan
  rw [show n - i = 0 by omega]
  rfl
theorem scanN_zero {f : Nat → Int} : ∀ {n i : Nat}, scanN f n i = 0 ↔ ∀ j, j < n → f (i + j) = 0
  | 0, i => by simp [scanN]
  | n + 1, i => by
    simp only [scanN]
    constructor
    · intro h j hj
      split at h
      · rename_i h0
        rcases j with _ | j
        · exact h0
        · have := scanN_zero.1 h j (by omega)
          rw [show i + (j + 1) = i + 1 + j by omega]
          exact this
      · rename_i h0; exact absurd h h0
    · intro h
      have h0 := h 0 (by omega)
      rw [Nat.add_zero] at h0
      rw [if_pos h0]
      refine scanN_zero.2 fun j hj => ?_
      rw [show i + 1 + j = i + (j + 1) by omega]
      exact h (j + 1) (by omega)
theorem scan_zero {f : Nat → Int} {n : Nat} : scan f n 0 = 0 ↔ ∀ j, j < n → f j = 0 := by
  unfold scan
  rw [scanN_zero]
  simp
def logBad (xs : List Entry) (i : Nat) : Int :=
  if entryFault (xs.getD i zEntry) ≠ 0 then entryFault (xs.getD i zEntry) else
  if 0 < i ∧ (xs.getD i zEntry).term < (xs.getD (i - 1) zEntry).term then 1 else 0
def logFault (xs : List Entry) : Int := if 40 < xs.length then 2 else scan (logBad xs) xs.length 0
def rises (xs : List Int) : Prop := ∀ i, 0 < i → i < xs.length → xs.getD (i - 1) zI_i64 < xs.getD i zI_i64
def idsOk (x : Node) : Prop := ∀ i, i < x.votes.length → isId x (x.votes.getD i zI_i64) = true
noncomputable instance (xs : List Int) : Decidable (rises xs) := Classical.propDecidable _
noncomputable instance (x : Node) : Decidable (idsOk x) := Classical.propDecidable _
def due (x : Node) : Int := if x.role = 2 then x.peers else 0
def listsOk (x : Node) : Prop := rises x.votes ∧ ¬ (0 < x.votes.length ∧ x.role ≠ 1) ∧ idsOk x ∧ (x.next.length : Int) = due x ∧ (x.match_.length : Int) = due x
noncomputable instance (x : Node) : Decidable (listsOk x) := Classical.propDecidable _
def nodeRange (x : Node) : Bool := inR x.peers 1 5 && isId x x.id && inR x.term 0 100000 && (decide (x.voted = -1) || isId x x.voted) && inR x.role 0 2
def rangeOk (xs : List Int) (a b : Int) : Prop := ∀ i, i < xs.length → inR (xs.getD i zI_i64) a b = true
noncomputable instance (xs : List Int) (a b : Int) : Decidable (rangeOk xs a b) := Classical.propDecidable _
noncomputable def nodeFault (x : Node) : Int :=
  if nodeRange x = false then 3 else
  if logFault x.log ≠ 0 then logFault x.log else
  if x.term < (lastE x.log).term then 1 else
  if inR x.commit 0 x.log.length = false then 3 else
  if ¬ listsOk x then 1 else
  if ¬ rangeOk x.next 1 (x.log.length + 1) ∨ ¬ rangeOk x.match_ 0 x.log.length then 3 else
  if x.role ≠ 0 ∧ (x.voted ≠ x.id ∨ x.term = 0) then 1 else 0
noncomputable def idxP (p : Int → Bool) (xs : List Int) : Int := if ∃ i, i < xs.length ∧ p (xs.getD i zI_i64) = true then xs.findIdx p else -1
theorem idxP_none {p : Int → Bool} {xs : List Int} (h : ∀ i, i < xs.length → p (xs.getD i zI_i64) = false) : idxP p xs = -1 := by
  unfold idxP
  rw [if_neg]
  rintro ⟨i, hi, hp⟩
  rw [h i hi] at hp
  cases hp
theorem idxP_some {p : Int → Bool} {xs : List Int} {i : Nat} (hi : i < xs.length) (h : ∀ j, j < i → p (xs.getD j zI_i64) = false) (hp : p (xs.getD i zI_i64) = true) : idxP p xs = i := by
  unfold idxP
  rw [if_pos ⟨i, hi, hp⟩]
  congr 1
  rw [List.findIdx_eq hi]
  have e : ∀ j (hj : j < xs.length), xs.getD j zI_i64 = xs[j] := fun j hj => by rw [List.getD_eq_getElem?_getD, List.getElem?_eq_getElem hj]; rfl
  exact ⟨by rw [← e i hi]; exact hp, fun j hj => by rw [← e j (by omega)]; exact h j hj⟩
theorem idxP_ge {p : Int → Bool} {xs : List Int} : decide (idxP p xs ≥ 0) = decide (∃ i, i < xs.length ∧ p (xs.getD i zI_i64) = true) := by
  unfold idxP
  rw [Bool.eq_iff_iff]
  simp only [decide_eq_true_eq]
  split
  · rename_i h; exact ⟨fun _ => h, fun _ => by omega⟩
  · rename_i h; exact ⟨fun h2 => absurd h2 (by omega), fun h2 => absurd h2 h⟩
theorem wrap_small {n : Int} (h1 : -9223372036854775808 ≤ n) (h2 : n ≤ 9223372036854775807) : IntKind.wrap .i64 n = n := okI_wrap (k := .i64) ⟨h1, h2⟩
theorem voted_eq (x : Node) (h : inR x.peers 1 5 = true) : inR x.voted (-1) (IntKind.wrap .i64 (x.peers - 1)) = (decide (x.voted = -1) || isId x x.voted) := by
  unfold isId inR at *
  simp only [Bool.and_eq_true, decide_eq_true_eq] at h
  rw [wrap_small (by omega) (by omega), Bool.eq_iff_iff]
  simp
  omega
theorem listsOk_len {x : Node} (h : listsOk x) : x.next.length = x.match_.length := by
  unfold listsOk at h
  omega
def mailZeros (m : Mail) : Prop := (m.kind = 1 → m.commit = 0) ∧ (m.kind = 2 → m.index = 0 ∧ m.last = 0 ∧ m.commit = 0) ∧ (m.kind = 4 → m.last = 0 ∧ m.commit = 0)
noncomputable instance (m : Mail) : Decidable (mailZeros m) := Classical.propDecidable _
def mailRange (x : Node) (m : Mail) : Bool := isId x m.from_ && !decide (m.from_ = x.id) && decide (m.to_ = x.id) && inR m.term 1 100000 && inR m.index 0 40 && inR m.last 0 m.term && inR m.commit 0 40
def mailLog (m : Mail) : Prop := 0 < m.entries.length → m.kind = 3 ∧ (lastE m.entries).term ≤ m.term ∧ m.last ≤ (m.entries.getD 0 zEntry).term
def mailForm (m : Mail) : Prop := mailLog m ∧ (m.ok = true → m.kind = 2 ∨ m.kind = 4) ∧ mailZeros m ∧ (m.index = 0 → m.last = 0)
noncomputable instance (m : Mail) : Decidable (mailForm m) := Classical.propDecidable _
noncomputable def mailFault (x : Node) (m : Mail) : Int :=
  if inR m.kind 1 4 = false then 5 else
  if mailRange x m = false then 3 else
  if logFault m.entries ≠ 0 then logFault m.entries else
  if ¬ mailForm m then 1 else 0
noncomputable def nodeAt (x : Cluster) (i : Nat) : Int :=
  if nodeFault (x.nodes.getD i zNode) ≠ 0 then nodeFault (x.nodes.getD i zNode) else
  if (x.nodes.getD i zNode).id ≠ i ∨ (x.nodes.getD i zNode).peers ≠ x.nodes.length then 1 else 0
def place (x : Cluster) (n : Int) : Bool := inR n 0 ((x.nodes.length : Int) - 1)
noncomputable def mailAt (x : Cluster) (i : Nat) : Int :=
  if place x (x.mails.getD i zMail).to_ = false then 3 else mailFault (x.nodes.getD (x.mails.getD i zMail).to_.toNat zNode) (x.mails.getD i zMail)
def winAt (x : Cluster) (i : Nat) : Int := if inR (x.wins.getD i zWon).term 1 100000 = false ∨ place x (x.wins.getD i zWon).node = false then 3 else 0
def sealAt (x : Cluster) (i : Nat) : Int := if inR (x.seals.getD i zSeal).term 1 100000 = false then 3 else entryFault (x.seals.getD i zSeal).entry
theorem nodeAt_eq (x : Cluster) (i : Nat) : nodeAt x i = if nodeFault (x.nodes.getD i zNode) ≠ 0 then nodeFault (x.nodes.getD i zNode) else
  if (x.nodes.getD i zNode).id ≠ i ∨ (x.nodes.getD i zNode).peers ≠ x.nodes.length then 1 else 0 := rfl
theorem mailAt_eq (x : Cluster) (i : Nat) : mailAt x i = if place x (x.mails.getD i zMail).to_ = false then 3 else mailFault (x.nodes.getD (x.mails.getD i zMail).to_.toNat zNode) (x.mails.getD i zMail) := rfl
theorem winAt_eq (x : Cluster) (i : Nat) : winAt x i = if inR (x.wins.getD i zWon).term 1 100000 = false ∨ place x (x.wins.getD i zWon).node = false then 3 else 0 := rfl
theorem sealAt_eq (x : Cluster) (i : Nat) : sealAt x i = if inR (x.seals.getD i zSeal).term 1 100000 = false then 3 else entryFault (x.seals.getD i zSeal).entry := rfl
noncomputable def clusterFault (x : Cluster) : Int :=
  if x.nodes.length < 1 ∨ 5 < x.nodes.length ∨ 80 < x.mails.length then 2 else
  if scan (nodeAt x) x.nodes.length 0 ≠ 0 then scan (nodeAt x) x.nodes.length 0 else
  if scan (mailAt x) x.mails.length 0 ≠ 0 then scan (mailAt x) x.mails.length 0 else
  if 400 < x.wins.length ∨ 40 < x.seals.length then 2 else
  if scan (winAt x) x.wins.length 0 ≠ 0 then scan (winAt x) x.wins.length 0 else
  scan (sealAt x) x.seals.length 0
theorem place_iff {x : Cluster} {n : Int} : place x n = true ↔ 0 ≤ n ∧ n < x.nodes.length := by
  unfold place inR
  simp
  omega
theorem nodes_ok {x : Cluster} (h : scan (nodeAt x) x.nodes.length 0 = 0) {i : Nat} (hi : i < x.nodes.length) : nodeFault (x.nodes.getD i zNode) = 0 ∧ (x.nodes.getD i zNode).id = i ∧ (x.nodes.getD i zNode).peers = x.nodes.length := by
  have := scan_zero.1 h i hi
  rw [nodeAt_eq] at this
  grind
noncomputable def mailGuard (x : Cluster) (p : Int) : Int := if clusterFault x ≠ 0 then clusterFault x else if inR p 0 ((x.mails.length : Int) - 1) = false then 3 else 0
def bad (c : Int) : ClusterResult := ⟨c, zCluster⟩
noncomputable def copyMail (x : Cluster) (p : Int) : ClusterResult :=
  if mailGuard x p ≠ 0 then bad (mailGuard x p) else
  if 80 ≤ x.mails.length then bad 2 else ⟨0, { x with mails := x.mails ++ [x.mails.getD p.toNat zMail] }⟩
theorem guard_iff {x : Cluster} {p : Int} (h : mailGuard x p = 0) : clusterFault x = 0 ∧ ∃ n : Nat, p = n ∧ n < x.mails.length := by
  unfold mailGuard inR at h
  split at h
  · rename_i h0; exact absurd h h0
  · rename_i h0
    split at h
    · cases h
    · rename_i h1
      simp at h1
      exact ⟨by simpa using h0, p.toNat, by omega, by omega⟩
theorem drop_take_one {α : Type} (z : α) {xs : List α} {n : Nat} (h : n < xs.length) : (xs.take (n + 1)).drop n = [xs.getD n z] := by
  rw [take_snoc z h, List.drop_append_of_le_length (by simp; omega), List.drop_of_length_le (by simp; omega)]
  rfl
def resC (c : Int) (x : Cluster) : ClusterResult := if c ≠ 0 then bad c else ⟨0, x⟩
theorem take_snoc_map {α : Type} (f : α → List T) (xs : List α) (r : List T) : List.take (xs.length + 1) (xs.map f ++ [r]) = xs.map f ++ [r] := List.take_of_length_le (by simp)
theorem take_app_map {α : Type} (f : α → List T) (xs ys : List α) : List.take (xs.length + ys.length) ((xs ++ ys).map f) = (xs ++ ys).map f := List.take_of_length_le (by simp)
attribute [go_sem] take_snoc_map take_app_map
def rowV (m : Mail) (v : Value) : List T := [.int .i64 m.kind, .int .i64 m.from_, .int .i64 m.to_, .int .i64 m.term, .int .i64 m.index, .int .i64 m.last, .int .i64 m.commit, .bool m.ok, .val v]
theorem take_set_map {α : Type} (f : α → List T) (xs : List α) (n : Nat) (r : List T) : List.take xs.length ((xs.map f).set n r) = (xs.map f).set n r := List.take_of_length_le (by simp)
attribute [go_sem] take_set_map
theorem noShR_set : ∀ {l : List (List T)} {n : Nat} {r : List T}, T.noShR l → T.noShL r → T.noShR (l.set n r)
  | [], _, _, _, _ => by simp [T.noShR]
  | a :: l, 0, r, h, hr => by simp only [List.set_cons_zero, T.noShR] at h ⊢; exact ⟨hr, h.2⟩
  | a :: l, n + 1, r, h, hr => by simp only [List.set_cons_succ, T.noShR] at h ⊢; exact ⟨h.1, noShR_set h.2 hr⟩
theorem noShR_append : ∀ (l l2 : List (List T)), T.noShR (l ++ l2) = (T.noShR l ∧ T.noShR l2)
  | [], l2 => by simp [T.noShR]
  | a :: l, l2 => by simp only [List.cons_append, T.noShR, noShR_append l l2, and_assoc]
theorem getD_set_app {α : Type} {l : List α} {i : Nat} (h : i < l.length) (r : α) (l2 : List α) (d : α) : (l.set i r ++ l2).getD i d = r := by
  rw [List.getD_eq_getElem?_getD, List.getElem?_append_left (by simpa using h), List.getElem?_set_self h]
  rfl
theorem set_app {α : Type} {l : List α} {i : Nat} (h : i < l.length) (r r2 : α) (l2 : List α) : (l.set i r ++ l2).set i r2 = l.set i r2 ++ l2 := by
  rw [List.set_append_left _ _ (by simpa using h), List.set_set]
theorem set_getD_map {α : Type} (f : α → List T) (z : α) {xs : List α} {i : Nat} (h : i < xs.length) : (xs.map f).set i (f (xs.getD i z)) = xs.map f := by
  rw [List.getD_eq_getElem?_getD, List.getElem?_eq_getElem h]
  apply List.ext_getElem
  · simp
  · intro j h1 h2
    rw [List.getElem_set]
    split
    · rename_i e; subst e; simp
    · rfl
attribute [go_sem] noShR_append
theorem mails_le {x : Cluster} (h : clusterFault x = 0) : x.mails.length ≤ 80 := by
  unfold clusterFault at h
  grind
theorem snoc_map {α : Type} (f : α → List T) (xs : List α) (y : α) : xs.map f ++ [f y] = (xs ++ [y]).map f := by simp
theorem limC_mono {b c : Nat} (h : b ≤ c) {x : Cluster} (hx : limC b x) : limC c x := by
  unfold limC limN limM at *
  obtain ⟨⟨a1, a2⟩, ⟨b1, b2⟩, c1, d1⟩ := hx
  exact ⟨⟨by omega, fun y hy => by have := a2 y hy; omega⟩, ⟨by omega, fun y hy => by have := b2 y hy; omega⟩, by omega, by omega⟩
theorem mkE_bd (xs : List Entry) (k : Int) : mkK sE xs k ≤ k + 9 * xs.length := mkK_bd (by omega) fun x _ k => by unfold sE; omega
theorem mkI_bd (xs : List Int) (k : Int) : mkK sI xs k ≤ k + 1 * xs.length := mkK_bd (by omega) fun x _ k => by unfold sI; omega
theorem sN_bd {x : Node} (h : limN 2097152 x) (k : Int) : sN x k ≤ k + 30000000 := by
  obtain ⟨h1, h2, h3, h4⟩ := h
  have e1 := mkE_bd x.log (k + 1 + 1 + 1 + 1)
  have e2 := mkI_bd x.votes (kN4 x k + 1 + 1)
  have e3 := mkI_bd x.next (mkK sI x.votes (kN4 x k + 1 + 1))
  have e4 := mkI_bd x.match_ (mkK sI x.next (mkK sI x.votes (kN4 x k + 1 + 1)))
  unfold sN
  unfold kN4 at *
  omega
theorem sM_bd {x : Mail} (h : limM 2097152 x) (k : Int) : sM x k ≤ k + 30000000 := by
  unfold limM at h
  have e1 := mkE_bd x.entries (k + 1 + 1 + 1 + 1 + 1 + 1 + 1 + 1)
  unfold sM
  omega
theorem sCl_bd {x : Cluster} (h : limC 2097152 x) : sCl x 1 ≤ 9000000000000000000 := by
  obtain ⟨⟨a1, a2⟩, ⟨b1, b2⟩, c1, d1⟩ := h
  have e1 := mkK_bd (s := sN) (c := 30000000) (by omega) (xs := x.nodes) (k := 1) fun y hy k => sN_bd (a2 y hy) k
  have e2 := mkK_bd (s := sM) (c := 30000000) (by omega) (xs := x.mails) (k := mkK sN x.nodes 1) fun y hy k => sM_bd (b2 y hy) k
  have e3 := mkK_bd (s := sW) (c := 2) (by omega) (xs := x.wins) (k := mkK sM x.mails (mkK sN x.nodes 1)) fun y hy k => by unfold sW; omega
  have e4 := mkK_bd (s := sS) (c := 10) (by omega) (xs := x.seals) (k := mkK sW x.wins (mkK sM x.mails (mkK sN x.nodes 1))) fun y hy k => by unfold sS; omega
  unfold sCl
  omega
theorem lim_bad {c : Int} : limC 2097152 (bad c).cluster := by
  unfold bad zCluster limC
  simp
theorem copyMail_lim {x : Cluster} (h : limC 1048576 x) (p : Int) : limC 2097152 (copyMail x p).cluster := by
  unfold copyMail
  split
  · exact lim_bad
  · split
    · exact lim_bad
    · obtain ⟨⟨a1, a2⟩, ⟨b1, b2⟩, c1, d1⟩ := limC_mono (c := 2097152) (by omega) h
      obtain ⟨_, ⟨b3, _⟩, _, _⟩ := h
      refine ⟨⟨a1, a2⟩, ⟨by simp; omega, fun y hy => ?_⟩, c1, d1⟩
      rcases List.mem_append.1 hy with hy | hy
      · exact b2 y hy
      · simp only [List.mem_singleton] at hy
        subst hy
        by_cases hl : p.toNat < x.mails.length
        · exact b2 _ (getD_mem zMail hl)
        · rw [List.getD_eq_getElem?_getD, List.getElem?_eq_none (by omega)]
          unfold limM
          simp [zMail]
def badN (c : Int) : NodeResult := ⟨c, zNode, []⟩
noncomputable def nodeGuard (x : Cluster) (p : Int) : Int := if clusterFault x ≠ 0 then clusterFault x else if place x p = false then 3 else 0
noncomputable def crashNode (x : Node) : NodeResult := if nodeFault x ≠ 0 then badN (nodeFault x) else ⟨0, ⟨x.id, x.peers, x.term, x.voted, x.log, 0, 0, [], [], []⟩, []⟩
def wonBy (x : Cluster) (i : Nat) (r : Node) : Bool := decide (r.role = 2) && (decide ((x.nodes.getD i zNode).role ≠ 2) || decide ((x.nodes.getD i zNode).term ≠ r.term))
def doWins (x : Cluster) (i : Nat) (r : Node) : List Won := if wonBy x i r then x.wins ++ [⟨r.term, i⟩] else x.wins
def sealsTo (s : List Seal) (r : Node) (k : Nat) : List Seal := s ++ ((r.log.take k).drop s.length).map (fun e => ⟨r.term, e⟩)
def doOk (x : Cluster) (i : Nat) (r : NodeResult) : Bool := decide (r.code = 0) && decide (x.mails.length + r.send.length ≤ 80) && (!wonBy x i r.node || decide (x.wins.length < 400))
def doC (x : Cluster) (i : Nat) (r : NodeResult) : Cluster := ⟨x.nodes.set i r.node, x.mails ++ r.send, doWins x i r.node, sealsTo x.seals r.node r.node.commit.toNat⟩
def doR (x : Cluster) (i : Nat) (r : NodeResult) : ClusterResult := if doOk x i r then ⟨0, doC x i r⟩ else bad (if r.code ≠ 0 then r.code else 2)
theorem sealsTo_self (s : List Seal) (r : Node) {k : Nat} (h : k ≤ s.length) : sealsTo s r k = s := by
  unfold sealsTo
  rw [List.drop_of_length_le (by simp; omega)]
  simp
theorem sealsTo_succ (s : List Seal) (r : Node) {k : Nat} (h : s.length ≤ k) (hk : k < r.log.length) : sealsTo s r (k + 1) = sealsTo s r k ++ [⟨r.term, r.log.getD k zEntry⟩] := by
  unfold sealsTo
  rw [take_snoc zEntry hk, List.drop_append_of_le_length (by simp; omega), List.map_append, List.append_assoc]
  rfl
theorem sealsTo_len (s : List Seal) (r : Node) {k : Nat} (h : s.length ≤ k) (hk : k ≤ r.log.length) : (sealsTo s r k).length = k := by
  unfold sealsTo
  simp
  omega
theorem guardN_iff {x : Cluster} {p : Int} (h : nodeGuard x p = 0) : clusterFault x = 0 ∧ ∃ n : Nat, p = n ∧ n < x.nodes.length := by
  unfold nodeGuard at h
  split at h
  · rename_i h0; exact absurd h h0
  · rename_i h0
    split at h
    · cases h
    · rename_i h1
      have h2 := place_iff.1 (by simpa using h1)
      exact ⟨by simpa using h0, p.toNat, by omega, by omega⟩
theorem cl_nodes {x : Cluster} (h : clusterFault x = 0) {i : Nat} (hi : i < x.nodes.length) : nodeFault (x.nodes.getD i zNode) = 0 ∧ (x.nodes.getD i zNode).id = i ∧ (x.nodes.getD i zNode).peers = x.nodes.length := by
  refine nodes_ok ?_ hi
  unfold clusterFault at h
  grind
theorem cl_wins {x : Cluster} (h : clusterFault x = 0) : x.wins.length ≤ 400 ∧ x.seals.length ≤ 40 := by
  unfold clusterFault at h
  grind
def limR (b : Nat) (r : NodeResult) : Prop := limN b r.node ∧ r.send.length ≤ b ∧ ∀ m ∈ r.send, limM b m
theorem sealsTo_len' (s : List Seal) (r : Node) {k : Nat} (h : s.length ≤ k) (hk : k ≤ max s.length r.log.length) : (sealsTo s r k).length = k := by
  unfold sealsTo
  simp
  omega
theorem sealsTo_end (s : List Seal) (r : Node) {k : Nat} (h : s.length ≤ k) (hk : k ≤ max s.length r.commit.toNat) (hc : r.commit ≤ k) (hl : r.commit ≤ r.log.length) : sealsTo s r k = sealsTo s r r.commit.toNat := by
  rcases Nat.lt_or_ge s.length k with h1 | h1
  · rw [show k = r.commit.toNat by omega]
  · rw [sealsTo_self s r h1, sealsTo_self s r (by omega)]
noncomputable def atNode (x : Cluster) (p : Int) (r : NodeResult) : ClusterResult := if nodeGuard x p ≠ 0 then bad (nodeGuard x p) else doR x p.toNat r
theorem lim_zNode {b : Nat} : limN b zNode := by unfold limN; simp [zNode]
theorem lim_badN {b : Nat} {c : Int} : limR b (badN c) := ⟨lim_zNode, by simp [badN], by simp [badN]⟩
theorem crash_lim {b : Nat} {x : Node} (h : limN b x) : limR b (crashNode x) := by
  unfold crashNode
  split
  · exact lim_badN
  · refine ⟨⟨h.1, by simp, by simp, by simp⟩, by simp, by simp⟩
theorem crash_commit (x : Node) : (crashNode x).node.commit ≤ (crashNode x).node.log.length := by
  unfold crashNode
  split <;> simp [badN, zNode]
attribute [go_sem] T.own T.ownL
theorem lim_getD {b : Nat} {xs : List Node} (h : ∀ y ∈ xs, limN b y) (k : Nat) : limN b (xs.getD k zNode) := by
  by_cases hk : k < xs.length
  · exact h _ (getD_mem zNode hk)
  · rw [List.getD_eq_getElem?_getD, List.getElem?_eq_none (by omega)]
    exact lim_zNode
theorem crash_id {x : Node} (h : (crashNode x).code = 0) : (crashNode x).node.id = x.id := by
  unfold crashNode at *
  split at h
  · rename_i h0; exact absurd h h0
  · rename_i h0; rw [if_neg h0]
theorem atNode_lim {x : Cluster} (h : limC 1048576 x) (p : Int) {r : NodeResult} (hr : limR 1048576 r) : limC 2097152 (atNode x p r).cluster := by
  unfold atNode
  split
  · exact lim_bad
  · unfold doR
    split
    · obtain ⟨⟨a1, a2⟩, ⟨b1, b2⟩, c1, d1⟩ := h
      obtain ⟨⟨e1, e2, e3, e4⟩, f1, f2⟩ := hr
      have hm : limC 2097152 x := limC_mono (by omega) ⟨⟨a1, a2⟩, ⟨b1, b2⟩, c1, d1⟩
      refine ⟨⟨by simp [doC]; omega, fun y hy => ?_⟩, ⟨by simp [doC]; omega, fun y hy => ?_⟩, ?_, ?_⟩
      · rcases List.mem_or_eq_of_mem_set hy with hy | rfl
        · exact hm.1.2 y hy
        · exact ⟨by omega, by omega, by omega, by omega⟩
      · rcases List.mem_append.1 hy with hy | hy
        · exact hm.2.1.2 y hy
        · have := f2 y hy
          unfold limM at *
          omega
      · show (doWins _ _ _).length ≤ _
        unfold doWins
        split
        · simp; omega
        · omega
      · show (sealsTo _ _ _).length ≤ _
        unfold sealsTo
        simp
        omega
    · exact lim_bad
def cntGe (l : List Int) (i : Int) : Nat := l.countP fun k => decide (i ≤ k)
def quor (x : Node) (c : Int) : Bool := decide (x.peers < 2 * c)
def agOk (x : Node) (i : Nat) : Bool := quor x (cntGe x.match_ i) && decide ((x.log.getD (i - 1) zEntry).term = x.term)
def agN (x : Node) (c : Nat) : Nat → Nat
  | 0 => c
  | n + 1 => if n + 1 ≤ c then c else if agOk x (n + 1) then n + 1 else agN x c n
def agI (x : Node) : Int := agN x x.commit.toNat x.log.length
def agreed (x : Node) : Node := { x with commit := agI x }
theorem agN_le (x : Node) (c : Nat) : ∀ {n : Nat}, n ≤ c → agN x c n = c
  | 0, _ => rfl
  | n + 1, h => by rw [agN, if_pos h]
theorem agN_ok (x : Node) {c n : Nat} (h : c < n) (ho : agOk x n = true) : agN x c n = n := by
  obtain ⟨m, rfl⟩ : ∃ m, n = m + 1 := ⟨n - 1, by omega⟩
  rw [agN, if_neg (by omega), if_pos ho]
theorem agN_no (x : Node) {c n : Nat} (h : c < n) (ho : agOk x n = false) : agN x c n = agN x c (n - 1) := by
  obtain ⟨m, rfl⟩ : ∃ m, n = m + 1 := ⟨n - 1, by omega⟩
  rw [agN, if_neg (by omega), if_neg (by rw [ho]; simp)]
  rfl
theorem agN_bd (x : Node) {c : Nat} : ∀ {n : Nat}, c ≤ n → c ≤ agN x c n ∧ agN x c n ≤ n
  | 0, h => ⟨Nat.le_refl _, h⟩
  | n + 1, h => by
    rw [agN]
    split
    · omega
    · split
      · omega
      · have := agN_bd x (c := c) (n := n) (by omega); omega
theorem cntGe_succ {l : List Int} {i : Int} {j : Nat} (h : j < l.length) : cntGe (l.take (j + 1)) i = cntGe (l.take j) i + (if i ≤ l.getD j zI_i64 then 1 else 0) := by
  unfold cntGe
  rw [take_snoc zI_i64 h, List.countP_append]
  simp [List.countP_cons]
theorem cntGe_le (l : List Int) (i : Int) : cntGe l i ≤ l.length := List.countP_le_length
theorem cntGe_take_le (l : List Int) (i : Int) (j : Nat) : cntGe (l.take j) i ≤ l.length := Nat.le_trans (cntGe_le _ _) (by simp; omega)
theorem cntGe_all {l : List Int} {i : Int} : cntGe (l.take l.length) i = cntGe l i := by rw [List.take_length]
theorem node_ok {x : Node} (h : nodeFault x = 0) : (1 ≤ x.peers ∧ x.peers ≤ 5 ∧ 0 ≤ x.id ∧ x.id < x.peers ∧ 0 ≤ x.term ∧ x.term ≤ 100000 ∧ 0 ≤ x.role ∧ x.role ≤ 2) ∧ logFault x.log = 0 ∧ (lastE x.log).term ≤ x.term ∧ (0 ≤ x.commit ∧ x.commit ≤ x.log.length) ∧ listsOk x ∧ rangeOk x.next 1 (x.log.length + 1) ∧ rangeOk x.match_ 0 x.log.length ∧ (x.role ≠ 0 → x.voted = x.id ∧ x.term ≠ 0) ∧ (x.voted = -1 ∨ isId x x.voted = true) := by
  unfold nodeFault at h
  split at h
  · cases h
  rename_i g1
  split at h
  · rename_i g2; exact absurd h g2
  rename_i g2
  split at h
  · cases h
  rename_i g3
  split at h
  · cases h
  rename_i g4
  split at h
  · cases h
  rename_i g5
  split at h
  · cases h
  rename_i g6
  split at h
  · cases h
  rename_i g7
  have g1 : nodeRange x = true := by simpa using g1
  unfold nodeRange isId inR at g1
  simp only [Bool.and_eq_true, decide_eq_true_eq, Bool.or_eq_true] at g1
  obtain ⟨⟨⟨⟨a1, a2⟩, a3⟩, a4⟩, a5⟩ := g1
  rw [wrap_small (by omega) (by omega)] at a2
  have g4 : inR x.commit 0 x.log.length = true := by simpa using g4
  unfold inR at g4
  simp only [Bool.and_eq_true, decide_eq_true_eq] at g4
  refine ⟨⟨a1.1, a1.2, a2.1, by omega, a3.1, a3.2, a5.1, a5.2⟩, by simpa using g2, by omega, g4, by simpa using g5, ?_, ?_, ?_, ?_⟩
  · exact Classical.byContradiction fun hh => g6 (.inl hh)
  · exact Classical.byContradiction fun hh => g6 (.inr hh)
  · intro hr
    constructor
    · exact Classical.byContradiction fun hh => g7 ⟨hr, .inl hh⟩
    · intro hh; exact g7 ⟨hr, .inr hh⟩
  · rcases a4 with a4 | a4
    · exact .inl a4
    · refine .inr ?_
      unfold isId inR
      simp [a4.1, a4.2]
theorem log_le {l : List Entry} (h : logFault l = 0) : l.length ≤ 40 := by
  unfold logFault at h
  split at h
  · cases h
  · omega
theorem node_lead {x : Node} (h : nodeFault x = 0) (hr : x.role = 2) : x.next.length = x.peers.toNat ∧ x.match_.length = x.peers.toNat := by
  have := (node_ok h).2.2.2.2.1
  have hp := (node_ok h).1
  unfold listsOk due at this
  rw [if_pos hr] at this
  omega
theorem set_map_I (l : List Int) (n : Nat) (v : Int) : (l.map eI_i64).set n [.int .i64 v] = (l.set n v).map eI_i64 := by simp [List.map_set, eI_i64]
theorem app_map_E (l : List Entry) (e : Entry) : l.map eEntry ++ [[.int .i64 e.term, .int .i64 e.client, .int .i64 e.seq, .int .i64 e.cmd.kind, .int .i64 e.cmd.expect, .int .i64 e.cmd.name, .int .i64 e.cmd.addr, .int .i64 e.cmd.number, .int .i64 e.cmd.proto]] = (l ++ [e]).map eEntry := by simp [eEntry]
def asked (x : Node) (e : Entry) : Node := { x with log := x.log ++ [e], next := x.next.set x.id.toNat (x.log.length + 1 + 1), match_ := x.match_.set x.id.toNat (x.log.length + 1) }
noncomputable def askNode (x : Node) (e : Entry) : NodeResult :=
  if nodeFault x ≠ 0 then badN (nodeFault x) else if x.role ≠ 2 then badN 10 else if entryFault e ≠ 0 then badN (entryFault e) else if e.term ≠ x.term then badN 1 else if 40 ≤ x.log.length then badN 2 else ⟨0, agreed (asked x e), []⟩
noncomputable def leadF (x : Node) : Int := if nodeFault x ≠ 0 then nodeFault x else if x.role ≠ 2 then 10 else 0
theorem limN_mono {b c : Nat} (h : b ≤ c) {x : Node} (hx : limN b x) : limN c x := by
  unfold limN at *
  omega
theorem take_set_len {α : Type} (l : List α) (n : Nat) (v : α) : List.take l.length (l.set n v) = l.set n v := List.take_of_length_le (by simp)
attribute [go_sem] take_set_len
theorem leadF_ok {x : Node} (h : leadF x = 0) : nodeFault x = 0 ∧ x.role = 2 := by
  unfold leadF at h
  grind
theorem agI_bd {x : Node} (h0 : 0 ≤ x.commit) (h1 : x.commit ≤ x.log.length) : x.commit ≤ agI x ∧ agI x ≤ x.log.length := by
  have := agN_bd x (c := x.commit.toNat) (n := x.log.length) (by omega)
  unfold agI
  omega
theorem ask_lim {b : Nat} (hb : 41 ≤ b) {x : Node} (h : limN b x) (e : Entry) : limR b (askNode x e) := by
  unfold askNode
  split
  · exact lim_badN
  · rename_i h0
    have h0 : nodeFault x = 0 := by simpa using h0
    have hl := log_le (node_ok h0).2.1
    repeat' split
    all_goals first | exact lim_badN | exact ⟨⟨by simp [agreed, asked]; omega, by simpa [agreed, asked] using h.2.1, by simpa [agreed, asked] using h.2.2.1, by simpa [agreed, asked] using h.2.2.2⟩, by simp, by simp⟩
theorem ask_commit (x : Node) (e : Entry) : (askNode x e).node.commit ≤ (askNode x e).node.log.length := by
  unfold askNode
  split
  · simp [badN, zNode]
  · rename_i h0
    have h0 : nodeFault x = 0 := by simpa using h0
    obtain ⟨a, b⟩ := (node_ok h0).2.2.2.1
    repeat' split
    all_goals first | (simp [badN, zNode]; done) | exact (agI_bd (x := asked x e) a (by simp [asked]; omega)).2
theorem ask_id {x : Node} {e : Entry} (h : (askNode x e).code = 0) : (askNode x e).node.id = x.id := by
  unfold askNode at *
  grind [badN, agreed, asked]
def spreadM (x : Node) (i k : Nat) : Mail := ⟨3, x.id, i, x.term, k, (lastE (x.log.take k)).term, x.commit, false, (x.log.take (min x.log.length (k + 4))).drop k⟩
def othersTo (f : Nat → Mail) (id : Int) (n : Nat) : List Mail := ((List.range n).filter fun i : Nat => !decide ((i : Int) = id)).map f
theorem othersTo_succ (f : Nat → Mail) {id : Int} {n : Nat} (h : (n : Int) ≠ id) : othersTo f id (n + 1) = othersTo f id n ++ [f n] := by
  unfold othersTo
  rw [List.range_succ, List.filter_append, List.map_append]
  simp [h]
theorem othersTo_skip (f : Nat → Mail) {id : Int} {n : Nat} (h : (n : Int) = id) : othersTo f id (n + 1) = othersTo f id n := by
  unfold othersTo
  rw [List.range_succ, List.filter_append, List.map_append]
  simp [h]
theorem othersTo_len (f : Nat → Mail) (id : Int) (n : Nat) : (othersTo f id n).length ≤ n := by
  unfold othersTo
  rw [List.length_map]
  exact Nat.le_trans (List.length_filter_le ..) (by simp)
theorem othersTo_mem {f : Nat → Mail} {id : Int} {n : Nat} {m : Mail} (h : m ∈ othersTo f id n) : ∃ i, i < n ∧ m = f i := by
  unfold othersTo at h
  simp at h
  obtain ⟨i, ⟨h1, _⟩, rfl⟩ := h
  exact ⟨i, h1, rfl⟩
def nextK (x : Node) (i : Nat) : Nat := (x.next.getD i zI_i64 - 1).toNat
def spreads (x : Node) (n : Nat) : List Mail := othersTo (fun i => spreadM x i (nextK x i)) x.id n
noncomputable def spreadNode (x : Node) : NodeResult := if leadF x ≠ 0 then badN (leadF x) else ⟨0, x, spreads x x.peers.toNat⟩
theorem lastE_take {l : List Entry} {k : Nat} (h : k ≤ l.length) : lastE (l.take k) = if k = 0 then zEntry else l.getD (k - 1) zEntry := by
  unfold lastE
  rw [List.length_take, Nat.min_eq_left h]
  split
  · rfl
  · rw [List.getD_eq_getElem?_getD, List.getElem?_take, if_pos (by omega), ← List.getD_eq_getElem?_getD]
theorem min_cast (a b : Nat) : (if (a : Int) < (b : Int) then (a : Int) else (b : Int)) = ((min a b : Nat) : Int) := by
  split <;> omega
theorem next_ok {x : Node} (h : nodeFault x = 0) (hr : x.role = 2) {i : Nat} (hi : (i : Int) < x.peers) : i < x.next.length ∧ i < x.match_.length ∧ x.next.getD i zI_i64 = (nextK x i : Int) + 1 ∧ nextK x i ≤ x.log.length ∧ (0 ≤ x.match_.getD i zI_i64 ∧ x.match_.getD i zI_i64 ≤ x.log.length) := by
  obtain ⟨l1, l2⟩ := node_lead h hr
  have h1 := (node_ok h).2.2.2.2.2.1
  have h2 := (node_ok h).2.2.2.2.2.2.1
  have e1 := h1 i (by omega)
  have e2 := h2 i (by omega)
  unfold inR at e1 e2
  simp only [Bool.and_eq_true, decide_eq_true_eq] at e1 e2
  unfold nextK
  exact ⟨by omega, by omega, by omega, by omega, e2⟩
attribute [go_sem] mnxI
theorem take_drop_take {α : Type} (l : List α) (a k : Nat) : List.take (a - k) (List.drop k (List.take a l)) = List.drop k (List.take a l) := List.take_of_length_le (by simp; omega)
attribute [go_sem] take_drop_take
theorem spreads0 (x : Node) : spreads x 0 = [] := rfl
theorem othersTo0 (f : Nat → Mail) (id : Int) : othersTo f id 0 = [] := rfl
attribute [go_sem] spreads0 othersTo0
theorem spreads_len (x : Node) (n : Nat) : (spreads x n).length ≤ n := othersTo_len ..
theorem spreads_succ {x : Node} {n : Nat} (h : (n : Int) ≠ x.id) : spreads x (n + 1) = spreads x n ++ [spreadM x n (nextK x n)] := othersTo_succ _ h
theorem spreads_skip {x : Node} {n : Nat} (h : (n : Int) = x.id) : spreads x (n + 1) = spreads x n := othersTo_skip _ h
theorem leadF_ok0 {x : Node} (h1 : nodeFault x = 0) (h2 : x.role = 2) : leadF x = 0 := by
  unfold leadF; rw [if_neg (by omega), if_neg (by omega)]
theorem spread_lim {b : Nat} (hb : 5 ≤ b) {x : Node} (h : limN b x) : limR b (spreadNode x) := by
  unfold spreadNode
  split
  · exact lim_badN
  · rename_i h0
    obtain ⟨nf, nr⟩ := leadF_ok (x := x) (by omega)
    have hp := (node_ok nf).1
    refine ⟨h, Nat.le_trans (spreads_len _ _) (by omega), fun m hm => ?_⟩
    obtain ⟨i, _, rfl⟩ := othersTo_mem hm
    unfold limM spreadM
    have := h.1
    simp
    omega
theorem spread_commit (x : Node) : (spreadNode x).node.commit ≤ (spreadNode x).node.log.length := by
  unfold spreadNode
  split
  · simp [badN, zNode]
  · exact (node_ok (leadF_ok (x := x) (by omega)).1).2.2.2.1.2
theorem spread_id {x : Node} (h : (spreadNode x).code = 0) : (spreadNode x).node.id = x.id := by
  unfold spreadNode at *
  grind [badN]
attribute [go_sem] isZ bnd
theorem toNat0 : Int.toNat 0 = 0 := rfl
theorem toNat_subN (a b : Nat) : ((a : Int) - (b : Int)).toNat = a - b := by omega
theorem toNat_addN (a b : Nat) : ((a : Int) + (b : Int)).toNat = a + b := by omega
theorem toNat_subNN (a b c : Nat) : ((a : Int) - ((b : Int) + (c : Int))).toNat = a - (b + c) := by omega
theorem toNat_addNN (a b c : Nat) : ((a : Int) + (b : Int) + (c : Int)).toNat = a + b + c := by omega
attribute [go_sem] toNat0 toNat_subN toNat_addN toNat_subNN toNat_addNN Int.sub_zero Int.add_zero Int.zero_add
theorem del_rows {α : Type} (f : α → List T) (xs : List α) {i j : Nat} (hij : i ≤ j) (hj : j ≤ xs.length) (J Z R : List (List T)) : List.take (i + (xs.length - j)) (List.take (i + (xs.length - j)) ((xs.take i ++ xs.drop j).map f ++ J) ++ Z ++ R) = (xs.take i ++ xs.drop j).map f := by
  have hl : ((xs.take i ++ xs.drop j).map f).length = i + (xs.length - j) := by simp; omega
  rw [← hl, List.take_left, List.append_assoc, List.take_left]
theorem del_rowsR (R : List (List T)) {i j : Nat} (hij : i ≤ j) (hj : j ≤ R.length) (J Z Q : List (List T)) : List.take (i + (R.length - j)) (List.take (i + (R.length - j)) (R.take i ++ R.drop j ++ J) ++ Z ++ Q) = R.take i ++ R.drop j := by
  have hl : (R.take i ++ R.drop j).length = i + (R.length - j) := by simp; omega
  rw [← hl, List.take_left, List.append_assoc, List.take_left]
theorem junk_drop {α : Type} (J : List T) (f : α → List T) (xs : List α) (n : Nat) : List.drop (n + 1) (List.replicate n J ++ List.map f (List.drop n xs)) = List.map f (List.drop (n + 1) xs) := by
  rw [List.drop_append, List.drop_of_length_le (by simp), List.nil_append, List.length_replicate, ← List.map_drop, List.drop_drop]
  congr 2
  omega
theorem take_drop_len {α : Type} (xs : List α) (k : Nat) : List.take (xs.length - k) (List.drop k xs) = List.drop k xs := List.take_of_length_le (by simp)
attribute [go_sem] junk_drop take_drop_len
def without (x : Cluster) (n : Nat) : Cluster := { x with mails := x.mails.take n ++ x.mails.drop (n + 1) }
noncomputable def dropMail (x : Cluster) (p : Int) : ClusterResult := if mailGuard x p ≠ 0 then bad (mailGuard x p) else ⟨0, without x p.toNat⟩
theorem set_without {α : Type} (f : α → List T) (xs : List α) (n : Nat) (r : List T) : List.take n ((xs.map f).set n r) ++ List.drop (n + 1) ((xs.map f).set n r) = (xs.take n ++ xs.drop (n + 1)).map f := by
  rw [List.take_set_of_le (Nat.le_refl _), List.drop_set_of_lt (Nat.lt_succ_self _), List.map_append, List.map_take, List.map_drop]
theorem dropMail_lim {x : Cluster} (h : limC 1048576 x) (p : Int) : limC 2097152 (dropMail x p).cluster := by
  unfold dropMail
  split
  · exact lim_bad
  · obtain ⟨⟨a1, a2⟩, ⟨b1, b2⟩, c1, d1⟩ := limC_mono (c := 2097152) (by omega) h
    refine ⟨⟨a1, a2⟩, ⟨by simp [without]; omega, fun y hy => b2 y ?_⟩, c1, d1⟩
    rcases List.mem_append.1 hy with hy | hy
    · exact List.mem_of_mem_take hy
    · exact List.mem_of_mem_drop hy
theorem roRows_Mail (o : Bool) (xs : List Mail) : roRows (xs.map (eMail o)) = xs.map (eMail false) := roRows_map _ _ (fun _ => rfl) xs
theorem toNat_sub1N (a b : Nat) : ((a : Int) - ((b : Int) + 1)).toNat = a - (b + 1) := by omega
attribute [go_sem] roRows_Mail toNat_sub1N
def eClusterM (o : Bool) (x : Cluster) : List T := [.sl o 10 (x.nodes.map (eNode o)), .sl o 9 (x.mails.map (eMail false)), .sl o 2 (x.wins.map eWon), .sl o 10 (x.seals.map eSeal)]
attribute [go_sem] eClusterM
attribute [go_sem] false_and and_false
def followed (x : Node) : Node := { x with role := 0, votes := [], next := [], match_ := [] }
def led (x : Node) : Node := { x with role := 2, votes := [], next := List.replicate x.peers.toNat ((x.log.length : Int) + 1), match_ := (List.replicate x.peers.toNat 0).set x.id.toNat x.log.length }
def leadOf (x : Node) : Node := agreed (led x)
def asking (x : Node) : Node := { x with term := x.term + 1, voted := x.id, role := 1, votes := [x.id] }
def voteM (x : Node) (i : Nat) : Mail := ⟨1, x.id, i, x.term + 1, x.log.length, (lastE x.log).term, 0, false, []⟩
def votesTo (x : Node) (n : Nat) : List Mail := othersTo (voteM x) x.id n
noncomputable def timeoutNode (x : Node) : NodeResult :=
  if nodeFault x ≠ 0 then badN (nodeFault x) else if x.role = 2 then badN 10 else if x.term = 100000 then badN 3 else
  ⟨0, if quor x 1 then leadOf (asking x) else asking x, votesTo x x.peers.toNat⟩
theorem votes0 (x : Node) : votesTo x 0 = [] := rfl
attribute [go_sem] votes0
theorem votes_len (x : Node) (n : Nat) : (votesTo x n).length ≤ n := othersTo_len ..
theorem votes_succ {x : Node} {n : Nat} (h : (n : Int) ≠ x.id) : votesTo x (n + 1) = votesTo x n ++ [voteM x n] := othersTo_succ _ h
theorem votes_skip {x : Node} {n : Nat} (h : (n : Int) = x.id) : votesTo x (n + 1) = votesTo x n := othersTo_skip _ h
theorem cntGe_led {m : Nat} {j : Nat} {v i : Int} (hi : 0 < i) : cntGe ((List.replicate m 0).set j v) i ≤ 1 := by
  unfold cntGe
  induction m generalizing j with
  | zero => simp
  | succ m ih =>
    rw [List.replicate_succ]
    cases j with
    | zero => rw [List.set_cons_zero, List.countP_cons, List.countP_replicate]; split <;> split <;> simp_all <;> omega
    | succ j => rw [List.set_cons_succ, List.countP_cons]; have := ih (j := j); split <;> simp_all <;> omega
theorem agreed_led {x : Node} (h : quor x 1 = false) (h0 : 0 ≤ x.commit) (h1 : x.commit ≤ x.log.length) : leadOf x = led x := by
  have hag : ∀ n : Nat, x.commit.toNat ≤ n → agN (led x) x.commit.toNat n = x.commit.toNat := by
    intro n
    induction n with
    | zero => intro h; rw [agN]
    | succ n ih =>
      intro h'
      rw [agN]
      split
      · rfl
      · rw [if_neg, ih (by omega)]
        unfold agOk
        have hc : cntGe (led x).match_ ((n + 1 : Nat) : Int) ≤ 1 := cntGe_led (by omega)
        have : quor (led x) (cntGe (led x).match_ ((n + 1 : Nat) : Int)) = false := by
          generalize cntGe (led x).match_ ((n + 1 : Nat) : Int) = c at hc ⊢
          unfold quor at h ⊢
          rw [show (led x).peers = x.peers from rfl]
          simp only [decide_eq_false_iff_not] at h ⊢
          omega
        rw [this]
        simp
  unfold leadOf agreed agI
  rw [show (led x).commit = x.commit from rfl, hag _ (by simp [led]; omega)]
  have : ((x.commit.toNat : Nat) : Int) = x.commit := by omega
  rw [this]
  rfl
theorem timeout_lim {b : Nat} (hb : 5 ≤ b) {x : Node} (h : limN b x) : limR b (timeoutNode x) := by
  unfold timeoutNode
  split
  · exact lim_badN
  split
  · exact lim_badN
  split
  · exact lim_badN
  rename_i h0 _ _
  have hp := (node_ok (x := x) (by omega)).1
  refine ⟨?_, Nat.le_trans (votes_len _ _) (by omega), fun m hm => ?_⟩
  · have := h.1
    split
    · refine ⟨by simpa [leadOf, agreed, led, asking] using h.1, by simp [leadOf, agreed, led, asking], ?_, ?_⟩ <;> simp [leadOf, agreed, led, asking] <;> omega
    · refine ⟨h.1, by simp [asking]; omega, h.2.2.1, h.2.2.2⟩
  · obtain ⟨i, _, rfl⟩ := othersTo_mem hm
    simp [limM, voteM]
theorem timeout_commit (x : Node) : (timeoutNode x).node.commit ≤ (timeoutNode x).node.log.length := by
  unfold timeoutNode
  split
  · simp [badN, zNode]
  split
  · simp [badN, zNode]
  split
  · simp [badN, zNode]
  rename_i h0 _ _
  have hc := (node_ok (x := x) (by omega)).2.2.2.1
  split
  · have := agN_bd (led (asking x)) (c := x.commit.toNat) (n := x.log.length) (by omega)
    show agI (led (asking x)) ≤ _
    unfold agI
    simp only [leadOf, agreed, led, asking] at this ⊢
    omega
  · exact hc.2
theorem timeout_id {x : Node} (h : (timeoutNode x).code = 0) : (timeoutNode x).node.id = x.id := by
  unfold timeoutNode at *
  grind [badN, leadOf, agreed, led, asking]
def repV (v : Int) (k n : Nat) : List (List T) := List.replicate k [.int .i64 v] ++ List.replicate (n - k) [.int .i64 0]
def repVer (k : Nat) : Nat := if k ≤ 2 then k + 1 else if k ≤ 4 then 4 else 5
theorem repV_len {v : Int} {k n : Nat} (h : k ≤ n) : (repV v k n).length = n := by simp [repV]; omega
theorem repV_step {v : Int} {k n : Nat} (h : k ≤ n) : (repV v k n).take k ++ ((repV v k n).take k).take (min (n - k) k) ++ (repV v k n).drop (k + min (n - k) k) = repV v (k + min (n - k) k) n := by
  unfold repV
  rw [List.take_left' (by simp), List.take_replicate, List.drop_append, List.drop_replicate, List.drop_replicate, List.length_replicate, show k - (k + min (n - k) k) = 0 by omega, List.replicate_zero, List.nil_append, List.replicate_append_replicate]
  congr 2 <;> omega
theorem repV_all {v : Int} {n : Nat} : repV v n n = (List.replicate n v).map eI_i64 := by simp [repV, eI_i64]
theorem cpRows_repV {d : Dep} {v : Int} {k n : Nat} (m : Nat) : cpRows d ((repV v k n).take m) = True := by
  have : ∀ r ∈ (repV v k n).take m, ∃ u : Int, r = [.int .i64 u] := by
    intro r hr
    have := List.mem_of_mem_take hr
    simp [repV] at this
    rcases this with ⟨_, rfl⟩ | ⟨_, rfl⟩ <;> exact ⟨_, rfl⟩
  apply eq_true
  unfold cpRows
  cases d <;> (intro r hr t ht; obtain ⟨u, rfl⟩ := this r hr; simp at ht; subst ht; simp [T.solid, T.flat])
theorem ro1 (v : Int) : roRows [[T.int .i64 v]] = [[T.int .i64 v]] := rfl
theorem repV_0 {v : Int} {n : Nat} (h : 1 ≤ n) : List.take 1 [[T.int .i64 v]] ++ List.drop 1 (List.replicate n [T.int .i64 0]) = repV v 1 n := by
  simp [repV]
attribute [go_sem] ro1 cpRows_repV Int.one_mul
theorem rep_I (n : Nat) (v : Int) : List.replicate n [T.int .i64 v] = (List.replicate n v).map eI_i64 := by simp [eI_i64]
theorem take_set_rep {α : Type} (n i : Nat) (a b : α) : List.take n ((List.replicate n a).set i b) = (List.replicate n a).set i b := List.take_of_length_le (by simp)
attribute [go_sem] take_set_rep
theorem rep_snoc {α : Type} (n : Nat) (a : α) : List.replicate n a ++ [a] = a :: List.replicate n a := by rw [← List.replicate_succ', List.replicate_succ]
theorem ins_grow {α : Type} {R V Z D D' J : List α} {i N a b c : Nat} (hi : i ≤ R.length) (hN : N = R.length + V.length) (ha : a = i + V.length) (hb : V.length ≤ b) (hc : c = R.length - i) :
    List.take N (List.take a (List.take i (List.take i R ++ Z) ++ List.take b V ++ D) ++ List.take c (List.drop i (R ++ J)) ++ D') = List.take i R ++ V ++ List.drop i R := by
  rw [List.take_left' (by simp; omega), List.take_of_length_le hb, List.take_left' (by simp; omega), List.drop_append_of_le_length hi, List.take_left' (l₁ := List.drop i R) (by simp; omega), List.take_left' (by simp; omega)]
theorem ins_room {α : Type} {R V D J : List α} {i N a a2 b c : Nat} (hi : i ≤ R.length) (hJ : R.length + V.length ≤ (R ++ J).length) (hN : N = R.length + V.length) (ha : a = i + V.length) (ha2 : a2 = i + V.length) (hb : V.length ≤ b) (hc : c = R.length - i) :
    List.take N (List.take i (List.take a (R ++ J) ++ List.take c (List.drop i (R ++ J)) ++ D) ++ List.take b V ++ List.drop a2 (List.take a (R ++ J) ++ List.take c (List.drop i (R ++ J)) ++ D)) = List.take i R ++ V ++ List.drop i R := by
  have e1 : List.take i (List.take a (R ++ J) ++ List.take c (List.drop i (R ++ J)) ++ D) = List.take i R := by
    rw [List.append_assoc, List.take_append_of_le_length (by simp only [List.length_take]; omega), List.take_take, Nat.min_eq_left (by omega), List.take_append_of_le_length hi]
  have e2 : List.drop a2 (List.take a (R ++ J) ++ List.take c (List.drop i (R ++ J)) ++ D) = List.drop i R ++ D := by
    rw [List.append_assoc, List.drop_left' (by simp only [List.length_take]; omega), List.drop_append_of_le_length hi, List.take_left' (l₁ := List.drop i R) (by simp; omega)]
  rw [e1, e2, List.take_of_length_le hb, ← List.append_assoc, List.take_left' (by simp; omega)]
def lbn (xs : List Int) (v : Int) : Nat := (xs.takeWhile fun x => decide (x < v)).length
theorem lbn_eq : ∀ {xs : List Int} {v : Int} {i : Nat}, i ≤ xs.length → (∀ p, p < i → xs.getD p zI_i64 < v) → (i < xs.length → v ≤ xs.getD i zI_i64) → lbn xs v = i
  | [], v, i, h, _, _ => by simp at h; subst h; rfl
  | x :: xs, v, 0, _, _, h2 => by
    have := h2 (by simp)
    simp at this
    unfold lbn
    rw [List.takeWhile_cons_of_neg (by simp; omega)]
    rfl
  | x :: xs, v, i + 1, h, h1, h2 => by
    have h0 := h1 0 (by omega)
    simp at h0
    have ih := lbn_eq (xs := xs) (v := v) (i := i) (by simpa using h) (fun p hp => by simpa using h1 (p + 1) (by omega)) (fun hi => by simpa using h2 (by simpa using hi))
    unfold lbn at ih ⊢
    rw [List.takeWhile_cons_of_pos (by simpa using h0), List.length_cons, ih]
def hasI (xs : List Int) (v : Int) : Bool := decide (lbn xs v < xs.length) && decide (xs.getD (lbn xs v) zI_i64 = v)
theorem rises_lt {xs : List Int} (h : rises xs) {i : Nat} : ∀ {j : Nat}, i < j → j < xs.length → xs.getD i zI_i64 < xs.getD j zI_i64
  | 0, h1, _ => by omega
  | j + 1, h1, h2 => by
    have e := h (j + 1) (by omega) h2
    simp only [Nat.add_sub_cancel] at e
    by_cases hij : i = j
    · subst hij; exact e
    · have := rises_lt h (i := i) (j := j) (by omega) (by omega)
      omega
theorem lbn_le (xs : List Int) (v : Int) : lbn xs v ≤ xs.length := List.takeWhile_sublist _ |>.length_le
def riseL (xs : List Int) (v : Int) : List Int := if hasI xs v then xs else xs.take (lbn xs v) ++ [v] ++ xs.drop (lbn xs v)
theorem half_nat (a b : Nat) (h : a + b < 9223372036854775808) : ((a : Int) + b).fdiv (2 ^ min (Int.toNat 1) 64) = (((a + b) / 2 : Nat) : Int) := by
  show ((a : Int) + b).fdiv (2 ^ 1) = _
  rw [← Int.natCast_add]
  rw [Int.fdiv_eq_ediv_of_nonneg _ (by omega)]
  omega
theorem wrap_u (n : Nat) (h : n < 18446744073709551616) : IntKind.u64.wrap (n : Int) = n := by
  show ((n : Int) % 18446744073709551616) = n
  omega
def fitsM (log : List Entry) (index term : Int) : Bool := if index = 0 then decide (term = 0) else inR index 1 log.length && decide ((log.getD (IntKind.i64.wrap (index - 1)).toNat zEntry).term = term)
def upM (log : List Entry) (index term : Int) : Bool := decide ((lastE log).term < term) || (decide (term = (lastE log).term) && decide ((log.length : Int) ≤ index))
theorem inR_idx {index : Int} {n : Nat} (hn : n ≤ 2097152) (h : inR index 1 n = true) : 0 ≤ IntKind.i64.wrap (index - 1) ∧ IntKind.i64.wrap (index - 1) < n := by
  unfold inR at h
  simp only [Bool.and_eq_true, decide_eq_true_eq] at h
  rw [wrap_small (by omega) (by omega)]
  omega
theorem tw_range {p : Nat → Bool} {n : Nat} : ∀ {i : Nat}, i ≤ n → (∀ q, q < i → p q = true) → (i < n → p i = false) → ((List.range n).takeWhile p).length = i := by
  intro i hi h1 h2
  have hs : List.range n = List.range i ++ (List.range (n - i)).map (i + ·) := by
    rw [← List.range_add]; congr 1; omega
  rw [hs, List.takeWhile_append_of_pos (by simpa using h1)]
  simp only [List.length_append, List.length_range]
  cases hn : n - i with
  | zero => simp
  | succ k =>
    rw [List.range_succ_eq_map, List.map_cons, List.takeWhile_cons_of_neg (by simpa using h2 (by omega))]
    simp
def eqEn (x y : Entry) : Bool := decide (x.term = y.term) && (decide (x.client = y.client) && (decide (x.seq = y.seq) && (decide (x.cmd.kind = y.cmd.kind) && (decide (x.cmd.expect = y.cmd.expect) && (decide (x.cmd.name = y.cmd.name) && (decide (x.cmd.addr = y.cmd.addr) && (decide (x.cmd.number = y.cmd.number) && decide (x.cmd.proto = y.cmd.proto))))))))
def commonN (a b : List Entry) : Nat := ((List.range (min a.length b.length)).takeWhile fun n => eqEn (a.getD n zEntry) (b.getD n zEntry)).length
def bad7 (log more : List Entry) (i k : Nat) : Bool := decide (log.length ≤ i + k) || !decide ((log.getD (i + k) zEntry).term = (more.getD k zEntry).term)
def take7K (log more : List Entry) (i : Nat) : Nat := ((List.range more.length).takeWhile fun k => !bad7 log more i k).length
def take7 (log more : List Entry) (i : Nat) : List Entry := if take7K log more i < more.length then log.take (i + take7K log more i) ++ more.drop (take7K log more i) else log
theorem take7_at {log more : List Entry} {i k : Nat} (hk : k < more.length) (hlo : ∀ q, q < k → bad7 log more i q = false) (hb : bad7 log more i k = true) : take7 log more i = log.take (i + k) ++ more.drop k := by
  have e : take7K log more i = k := tw_range (by omega) (fun q hq => by simp [hlo q hq]) (fun _ => by simp [hb])
  unfold take7
  rw [e, if_pos hk]
theorem take7_all {log more : List Entry} {i : Nat} (hlo : ∀ q, q < more.length → bad7 log more i q = false) : take7 log more i = log := by
  have e : take7K log more i = more.length := tw_range (Nat.le_refl _) (fun q hq => by simp [hlo q hq]) (fun h => by omega)
  unfold take7
  rw [e, if_neg (by omega)]
theorem take7_len {log more : List Entry} {i : Nat} (hi : i ≤ log.length) : (take7 log more i).length ≤ log.length + more.length := by
  unfold take7
  split
  · simp; omega
  · omega
def takeR (log more : List Entry) (i : Nat) : EntriesResult := if 40 < (take7 log more i).length then ⟨2, []⟩ else ⟨0, take7 log more i⟩
theorem fits_nat {log : List Entry} {index term : Int} (hl : log.length ≤ 2097152) (h : fitsM log index term = true) : ∃ n : Nat, index = n ∧ n ≤ log.length := by
  unfold fitsM at h
  split at h
  · exact ⟨0, by omega, by omega⟩
  · simp only [Bool.and_eq_true] at h
    have := h.1
    unfold inR at this
    simp only [Bool.and_eq_true, decide_eq_true_eq] at this
    exact ⟨index.toNat, by omega, by omega⟩
def upOk (x : Node) (m : Mail) : Bool := decide (m.term = x.term) && (decide (x.voted = -1) || decide (x.voted = m.from_)) && upM x.log m.index m.last
def votedN (x : Node) (m : Mail) : Node := if upOk x m = true then { x with voted := m.from_ } else x
def grantM (x : Node) (m : Mail) : Mail := ⟨2, x.id, m.from_, x.term, 0, 0, 0, upOk x m, []⟩
def riseN (x : Node) (m : Mail) : Node := { x with votes := riseL x.votes m.from_ }
def grantedN (x : Node) (m : Mail) : Node := if (m.ok && decide (m.term = x.term) && decide (x.role = 1)) = true then (if quor (riseN x m) (riseN x m).votes.length then leadOf (riseN x m) else riseN x m) else x
def baseM (x : Node) (m : Mail) : Mail := ⟨4, x.id, m.from_, x.term, 0, 0, 0, false, []⟩
def takenL (x : Node) (m : Mail) : List Entry := take7 x.log m.entries m.index.toNat
def takenC (x : Node) (m : Mail) : Int := if m.term < x.term then 0 else if x.role = 2 then 10 else if fitsM x.log m.index m.last = false then 0 else if 40 < (takenL x m).length then 2 else if (commonN x.log (takenL x m) : Int) < x.commit then 10 else 0
def takenEnd (m : Mail) : Int := m.index + m.entries.length
def takenOk (x : Node) (m : Mail) : Node := { followed x with log := takenL x m, commit := max x.commit (min m.commit (takenEnd m)) }
def takenN (x : Node) (m : Mail) : Node := if m.term < x.term ∨ x.role = 2 then x else if fitsM x.log m.index m.last = false ∨ takenC x m ≠ 0 then followed x else takenOk x m
def takenM (x : Node) (m : Mail) : Mail := if m.term < x.term ∨ x.role = 2 then baseM x m else if fitsM x.log m.index m.last = false then { baseM x m with index := min (m.index - 1) x.log.length } else if takenC x m ≠ 0 then baseM x m else { baseM x m with ok := true, index := takenEnd m }
def toldT (x : Node) (m : Mail) : Int := if x.match_.getD m.from_.toNat zI_i64 < m.index ∧ m.index ≤ x.log.length then m.index else x.match_.getD m.from_.toNat zI_i64
def toldOk (x : Node) (m : Mail) : Node := { x with match_ := x.match_.set m.from_.toNat (toldT x m), next := x.next.set m.from_.toNat (toldT x m + 1) }
def toldNo (x : Node) (m : Mail) : Node := { x with next := x.next.set m.from_.toNat (max (max 1 (min (x.next.getD m.from_.toNat zI_i64 - 1) (m.index + 1))) (x.match_.getD m.from_.toNat zI_i64 + 1)) }
def toldN (x : Node) (m : Mail) : Node := if ¬ m.term = x.term ∨ ¬ x.role = 2 then x else if m.ok = true then agreed (toldOk x m) else toldNo x m
def newer (x : Node) (m : Mail) : Node := if x.term < m.term then followed { x with term := m.term, voted := -1 } else x
def hear (x : Node) (m : Mail) : NodeResult :=
  if m.kind = 1 then ⟨0, votedN (newer x m) m, [grantM (newer x m) m]⟩ else if m.kind = 2 then ⟨0, grantedN (newer x m) m, []⟩ else if m.kind = 3 then (if takenC (newer x m) m ≠ 0 then badN (takenC (newer x m) m) else ⟨0, takenN (newer x m) m, [takenM (newer x m) m]⟩) else ⟨0, toldN (newer x m) m, []⟩
noncomputable def hearMail (x : Node) (m : Mail) : NodeResult := if nodeFault x ≠ 0 then badN (nodeFault x) else if mailFault x m ≠ 0 then badN (mailFault x m) else hear x m
theorem flat_I (xs : List Int) : ∀ r ∈ xs.map eI_i64, ∀ t ∈ r, t.flat = true := by
  intro r hr t ht
  simp only [List.mem_map] at hr
  obtain ⟨x, _, rfl⟩ := hr
  simp [eI_i64] at ht
  subst ht
  rfl
theorem riseL_len (xs : List Int) (v : Int) : (riseL xs v).length ≤ xs.length + 1 := by
  unfold riseL
  split
  · omega
  · simp; omega
theorem riseL_no {xs : List Int} {v : Int} (h : hasI xs v = false) : (riseL xs v).map eI_i64 = List.take (lbn xs v) (xs.map eI_i64) ++ [[T.int .i64 v]] ++ List.drop (lbn xs v) (xs.map eI_i64) := by
  unfold riseL
  rw [h]
  simp [eI_i64]
theorem riseL_has {xs : List Int} {v : Int} (h : hasI xs v = true) : riseL xs v = xs := by
  unfold riseL
  rw [if_pos h]
theorem told_spec (a b c : Int) : (if (if 1 > (if a < b then a else b) then 1 else if a < b then a else b) > c then (if 1 > (if a < b then a else b) then 1 else if a < b then a else b) else c) = max (max 1 (min a b)) c := by
  repeat' split
  all_goals omega
theorem told_impl (a b c : Int) : (if c > (if (if b < a then b else a) > 1 then (if b < a then b else a) else 1) then c else (if (if b < a then b else a) > 1 then (if b < a then b else a) else 1)) = max (max 1 (min a b)) c := by
  repeat' split
  all_goals omega
theorem min_if (a b : Int) : (if a < b then a else b) = min a b := by split <;> omega
theorem max_if (a b : Int) : (if a > b then a else b) = max a b := by split <;> omega
theorem min_fi (a b : Int) : (if b < a then b else a) = min a b := by split <;> omega
theorem max_fi (a b : Int) : (if b > a then b else a) = max a b := by split <;> omega
theorem taken0 {x : Node} {m : Mail} (h : m.term < x.term) : takenN x m = x ∧ takenM x m = baseM x m ∧ takenC x m = 0 := by
  unfold takenN takenM takenC
  simp [h]
theorem taken1 {x : Node} {m : Mail} (h0 : ¬ m.term < x.term) (h : x.role = 2) : takenN x m = x ∧ takenM x m = baseM x m ∧ takenC x m = 10 := by
  unfold takenN takenM takenC
  simp [h0, h]
theorem taken2 {x : Node} {m : Mail} (h0 : ¬ m.term < x.term) (h : ¬ x.role = 2) (h2 : fitsM x.log m.index m.last = false) : takenN x m = followed x ∧ takenM x m = { baseM x m with index := min (m.index - 1) x.log.length } ∧ takenC x m = 0 := by
  unfold takenN takenM takenC
  simp [h0, h, h2]
theorem taken3 {x : Node} {m : Mail} (h0 : ¬ m.term < x.term) (h : ¬ x.role = 2) (h2 : fitsM x.log m.index m.last = true) (h3 : 40 < (takenL x m).length) : takenN x m = followed x ∧ takenM x m = baseM x m ∧ takenC x m = 2 := by
  have hc : takenC x m = 2 := by unfold takenC; simp [h0, h, h2, h3]
  unfold takenN takenM
  simp [h0, h, h2, hc]
theorem taken4 {x : Node} {m : Mail} (h0 : ¬ m.term < x.term) (h : ¬ x.role = 2) (h2 : fitsM x.log m.index m.last = true) (h3 : ¬ 40 < (takenL x m).length) (h4 : (commonN x.log (takenL x m) : Int) < x.commit) : takenN x m = followed x ∧ takenM x m = baseM x m ∧ takenC x m = 10 := by
  have hc : takenC x m = 10 := by unfold takenC; simp [h0, h, h2, h3, h4]
  unfold takenN takenM
  simp [h0, h, h2, hc]
theorem taken5 {x : Node} {m : Mail} (h0 : ¬ m.term < x.term) (h : ¬ x.role = 2) (h2 : fitsM x.log m.index m.last = true) (h3 : ¬ 40 < (takenL x m).length) (h4 : ¬ (commonN x.log (takenL x m) : Int) < x.commit) : takenN x m = takenOk x m ∧ takenM x m = { baseM x m with ok := true, index := takenEnd m } ∧ takenC x m = 0 := by
  have hc : takenC x m = 0 := by unfold takenC; simp [h0, h, h2, h3, h4]
  unfold takenN takenM
  simp [h0, h, h2, hc]
theorem takeR_bad {log more : List Entry} {i : Nat} (h : ¬ (takeR log more i).code = 0) : 40 < (take7 log more i).length ∧ takeR log more i = ⟨2, []⟩ := by
  unfold takeR at h ⊢
  split at h
  · rename_i h4; exact ⟨h4, if_pos h4⟩
  · simp at h
theorem takeR_ok {log more : List Entry} {i : Nat} (h : (takeR log more i).code = 0) : ¬ 40 < (take7 log more i).length ∧ takeR log more i = ⟨0, take7 log more i⟩ := by
  unfold takeR at h ⊢
  split at h
  · simp at h
  · rename_i h4; exact ⟨h4, if_neg h4⟩
theorem mail_ok {x : Node} {m : Mail} (hp : 1 ≤ x.peers ∧ x.peers ≤ 5) (h : mailFault x m = 0) : (1 ≤ m.kind ∧ m.kind ≤ 4) ∧ (0 ≤ m.from_ ∧ m.from_ < x.peers) ∧ (1 ≤ m.term ∧ m.term ≤ 100000) ∧ (0 ≤ m.index ∧ m.index ≤ 40) ∧ (0 ≤ m.commit ∧ m.commit ≤ 40) ∧ logFault m.entries = 0 ∧ (0 < m.entries.length → m.last ≤ (m.entries.getD 0 zEntry).term) := by
  unfold mailFault at h
  split at h
  · cases h
  rename_i g1
  split at h
  · cases h
  rename_i g2
  split at h
  · rename_i g3; exact absurd h g3
  rename_i g3
  split at h
  · cases h
  rename_i g4
  have g1 : inR m.kind 1 4 = true := by simpa using g1
  have g2 : mailRange x m = true := by simpa using g2
  have g4 : mailForm m := by simpa using g4
  unfold mailRange isId inR at g2
  unfold inR at g1
  simp only [Bool.and_eq_true, decide_eq_true_eq] at g1 g2
  obtain ⟨⟨⟨⟨⟨⟨a1, a2⟩, a3⟩, a4⟩, a5⟩, a6⟩, a7⟩ := g2
  rw [wrap_small (by omega) (by omega)] at a1
  refine ⟨g1, ⟨a1.1, by omega⟩, a4, a5, a7, by simpa using g3, fun h0 => (g4.1 h0).2.2⟩
theorem rises_ge {xs : List Int} (h : rises xs) {b : Int} (h0 : ∀ i, i < xs.length → b ≤ xs.getD i zI_i64) : ∀ {i : Nat}, i < xs.length → b + i ≤ xs.getD i zI_i64
  | 0, hi => by simpa using h0 0 hi
  | i + 1, hi => by
    have e := h (i + 1) (by omega) hi
    have ih := rises_ge h h0 (i := i) (by omega)
    simp only [Nat.add_sub_cancel] at e
    omega
theorem votes_few {x : Node} (h : nodeFault x = 0) : rises x.votes ∧ x.votes.length ≤ 5 := by
  obtain ⟨⟨p1, p2, _⟩, _, _, _, hl, _⟩ := node_ok h
  refine ⟨hl.1, ?_⟩
  have hid := hl.2.2.1
  have hin : ∀ i, i < x.votes.length → 0 ≤ x.votes.getD i zI_i64 ∧ x.votes.getD i zI_i64 < x.peers := by
    intro i hi
    have := hid i hi
    unfold isId inR at this
    simp only [Bool.and_eq_true, decide_eq_true_eq] at this
    rw [wrap_small (by omega) (by omega)] at this
    omega
  cases hn : x.votes.length with
  | zero => omega
  | succ n =>
    have h1 := rises_ge hl.1 (b := 0) (fun i hi => (hin i hi).1) (i := n) (by omega)
    have h2 := (hin n (by omega)).2
    omega
structure HearOk (y : Node) (m : Mail) : Prop where
  lim : limN 2097152 y
  c0 : 0 ≤ y.commit
  c1 : y.commit ≤ y.log.length
  p1 : 1 ≤ y.peers
  p2 : y.peers ≤ 5
  p3 : 0 ≤ y.id
  p4 : y.id < y.peers
  rv : rises y.votes
  nv : y.votes.length ≤ 100
  lf : logFault y.log = 0
  tl : y.role = 2 → m.from_.toNat < y.next.length ∧ m.from_.toNat < y.match_.length ∧ 1 ≤ y.next.getD m.from_.toNat zI_i64 ∧ y.next.getD m.from_.toNat zI_i64 ≤ 41 ∧ 0 ≤ y.match_.getD m.from_.toNat zI_i64 ∧ y.match_.getD m.from_.toNat zI_i64 ≤ 40
theorem hear_ok {x : Node} {m : Mail} (hx : limN 2097152 x) (h : nodeFault x = 0) (hm : mailFault x m = 0) : HearOk (newer x m) m := by
  obtain ⟨⟨p1, p2, p3, p4, _⟩, lf, _, ⟨c0, c1⟩, _⟩ := node_ok h
  obtain ⟨v1, v2⟩ := votes_few h
  obtain ⟨_, ⟨f1, f2⟩, _⟩ := mail_ok ⟨p1, p2⟩ hm
  have hll := log_le lf
  unfold newer
  split
  · exact ⟨⟨hx.1, by simp [followed], by simp [followed], by simp [followed]⟩, c0, c1, p1, p2, p3, p4, by intro i h1 h2; simp [followed] at h2, by simp [followed], lf, by intro h; simp [followed] at h⟩
  · refine ⟨hx, c0, c1, p1, p2, p3, p4, v1, by omega, lf, fun hr => ?_⟩
    obtain ⟨n1, n2, n3, n4, n5, n6⟩ := next_ok h hr (i := m.from_.toNat) (by omega)
    exact ⟨n1, n2, by omega, by omega, n5, by omega⟩
theorem newer_lim {b : Nat} {x : Node} {m : Mail} (h : limN b x) : limN b (newer x m) := by
  unfold newer
  split
  · exact ⟨h.1, by simp [followed], by simp [followed], by simp [followed]⟩
  · exact h
theorem lead_lim {b : Nat} (hb : 5 ≤ b) {x : Node} (h : limN b x) (hp : x.peers ≤ 5) : limN b (leadOf x) := by
  refine ⟨by simpa [leadOf, agreed, led] using h.1, by simp [leadOf, agreed, led], ?_, ?_⟩ <;> simp [leadOf, agreed, led] <;> omega
theorem takenN_lim {b : Nat} (hb : 200 ≤ b) {y : Node} {m : Mail} (h : limN b y) (hc : takenC y m = 0) : limN b (takenN y m) := by
  have hf : limN b (followed y) := ⟨h.1, by simp [followed], by simp [followed], by simp [followed]⟩
  unfold takenN
  split
  · exact h
  · rename_i h0
    split
    · exact hf
    · rename_i h1
      have hl : (takenL y m).length ≤ 40 := by
        by_cases h4 : 40 < (takenL y m).length
        · exfalso
          revert hc
          unfold takenC
          have g1 : ¬ m.term < y.term := fun e => h0 (.inl e)
          have g2 : ¬ y.role = 2 := fun e => h0 (.inr e)
          have g3 : ¬ fitsM y.log m.index m.last = false := fun e => h1 (.inl e)
          simp [g1, g2, g3, h4]
        · omega
      exact ⟨by simp only [takenOk]; omega, hf.2.1, hf.2.2.1, hf.2.2.2⟩
theorem takenM_entries (y : Node) (m : Mail) : (takenM y m).entries = [] := by
  unfold takenM
  repeat' split
  all_goals rfl
theorem hear_lim {b : Nat} (hb : 200 ≤ b) {x : Node} {m : Mail} (h : limN b x) (hb2 : b ≤ 2097152) : limR b (hearMail x m) := by
  unfold hearMail
  split
  · exact lim_badN
  split
  · exact lim_badN
  rename_i h0 h1
  have K := hear_ok (x := x) (m := m) ⟨by have := h.1; omega, by have := h.2.1; omega, by have := h.2.2.1; omega, by have := h.2.2.2; omega⟩ (by omega) (by omega)
  have hy : limN b (newer x m) := newer_lim h
  unfold hear
  generalize newer x m = y at K hy ⊢
  have hr := riseL_len y.votes m.from_
  have hnv := K.nv
  have hri : limN b (riseN y m) := ⟨hy.1, by simp only [riseN]; omega, hy.2.2.1, hy.2.2.2⟩
  split
  · refine ⟨?_, by simp; omega, fun z hz => ?_⟩
    · show limN b (votedN y m)
      unfold votedN
      split
      · exact hy
      · exact hy
    · simp only [List.mem_singleton] at hz
      subst hz
      simp [limM, grantM]
  split
  · refine ⟨?_, by simp, by simp⟩
    show limN b (grantedN y m)
    unfold grantedN
    split
    · split
      · exact lead_lim (by omega) hri K.p2
      · exact hri
    · exact hy
  split
  · split
    · exact lim_badN
    · rename_i hc
      refine ⟨takenN_lim hb hy (by simpa using hc), by simp; omega, fun z hz => ?_⟩
      simp only [List.mem_singleton] at hz
      subst hz
      simp [limM, takenM_entries]
  · refine ⟨?_, by simp, by simp⟩
    show limN b (toldN y m)
    unfold toldN
    split
    · exact hy
    · split
      · refine ⟨hy.1, hy.2.1, ?_, ?_⟩
        · simpa [agreed, toldOk] using hy.2.2.1
        · simpa [agreed, toldOk] using hy.2.2.2
      · refine ⟨hy.1, hy.2.1, ?_, hy.2.2.2⟩
        simpa [toldNo] using hy.2.2.1
theorem law_n_bd {x : Node} (h : limN 2097152 x) (k : Int) : sN1 x k ≤ k + 30000000 := by
  obtain ⟨h1, h2, h3, h4⟩ := h
  have e1 := mkE_bd x.log k
  have e2 := mkI_bd x.votes (mkK sE x.log k)
  have e3 := mkI_bd x.next (mkK sI x.votes (mkK sE x.log k))
  have e4 := mkI_bd x.match_ (mkK sI x.next (mkK sI x.votes (mkK sE x.log k)))
  unfold sN1
  omega
theorem law_r_bd {r : NodeResult} (h : limR 2097152 r) : mkK sM r.send (sN1 r.node 1) ≤ 9000000000000000000 := by
  obtain ⟨h1, h2, h3⟩ := h
  have e1 := law_n_bd h1 1
  have e2 := mkK_bd (s := sM) (c := 30000000) (by omega) (xs := r.send) (k := sN1 r.node 1) fun y hy k => sM_bd (h3 y hy) k
  omega
theorem law_m_bd {x : Node} {m : Mail} (h : limN 2097152 x) (hm : limM 2097152 m) : sN1 x 1 ≤ 9000000000000000000 ∧ mkK sE m.entries (sN1 x 1) ≤ 9000000000000000000 := by
  have e1 := law_n_bd h 1
  have e2 := mkE_bd m.entries (sN1 x 1)
  unfold limM at hm
  omega
theorem law_up (x : Node) (m : Mail) (r : NodeResult) : 1 ≤ sN1 x 1 ∧ 1 ≤ mkK sE m.entries (sN1 x 1) ∧ 1 ≤ mkK sM r.send (sN1 r.node 1) := by
  have e1 := sN1_up x 1
  have e2 := mkK_mono sE_up m.entries (sN1 x 1)
  have e3 := sN1_up r.node 1
  have e4 := mkK_mono sM_up r.send (sN1 r.node 1)
  omega
theorem mkL_take {α : Type} (f : α → Int → α) (s : α → Int → Int) (xs : List α) (k : Int) : List.take xs.length (mkL f s xs k) = mkL f s xs k := List.take_of_length_le (by rw [mkL_length]; exact Nat.le_refl _)
noncomputable def deliverMail (x : Cluster) (p : Int) : ClusterResult := if mailGuard x p ≠ 0 then bad (mailGuard x p) else doR (without x p.toNat) (x.mails.getD p.toNat zMail).to_.toNat (hearMail (x.nodes.getD (x.mails.getD p.toNat zMail).to_.toNat zNode) (x.mails.getD p.toNat zMail))
theorem cl_mail {x : Cluster} (h : clusterFault x = 0) {n : Nat} (hn : n < x.mails.length) : ∃ i : Nat, (x.mails.getD n zMail).to_ = i ∧ i < x.nodes.length ∧ mailFault (x.nodes.getD i zNode) (x.mails.getD n zMail) = 0 := by
  have hs : scan (mailAt x) x.mails.length 0 = 0 := by unfold clusterFault at h; grind
  have h1 := scan_zero.1 hs n hn
  rw [mailAt_eq] at h1
  split at h1
  · cases h1
  · rename_i hp
    have hp2 : place x (x.mails.getD n zMail).to_ = true := by
      cases hq : place x (x.mails.getD n zMail).to_
      · exact absurd hq hp
      · rfl
    have h2 := place_iff.1 hp2
    exact ⟨(x.mails.getD n zMail).to_.toNat, by omega, by omega, h1⟩
theorem first_bad (p : Nat → Bool) : ∀ (n : Nat), ∃ k, k ≤ n ∧ (∀ q, q < k → p q = true) ∧ (k < n → p k = false)
  | 0 => ⟨0, Nat.le_refl _, fun q h => by omega, fun h => by omega⟩
  | n + 1 => by
    obtain ⟨k, h1, h2, h3⟩ := first_bad p n
    rcases Nat.lt_or_ge k n with h | h
    · exact ⟨k, by omega, h2, fun _ => h3 h⟩
    · obtain rfl : k = n := by omega
      cases hp : p k with
      | false => exact ⟨k, by omega, h2, fun _ => hp⟩
      | true =>
        refine ⟨k + 1, Nat.le_refl _, fun q hq => ?_, fun h => by omega⟩
        rcases Nat.lt_or_ge q k with h4 | h4
        · exact h2 q h4
        · obtain rfl : q = k := by omega
          exact hp
theorem take7_ge {log more : List Entry} {i : Nat} (hi : i ≤ log.length) : i + more.length ≤ (take7 log more i).length := by
  obtain ⟨k, h1, h2, h3⟩ := first_bad (fun k => !bad7 log more i k) more.length
  have hlo : ∀ q, q < k → bad7 log more i q = false := fun q hq => by simpa using h2 q hq
  have hik : i + k ≤ log.length := by
    cases k with
    | zero => omega
    | succ k =>
      have := hlo k (by omega)
      unfold bad7 at this
      simp only [Bool.or_eq_false_iff, decide_eq_false_iff_not] at this
      omega
  rcases Nat.lt_or_ge k more.length with h | h
  · rw [take7_at h hlo (by simpa using h3 h)]
    simp
    omega
  · obtain rfl : k = more.length := by omega
    rw [take7_all hlo]
    omega
theorem commonN_le (a b : List Entry) : commonN a b ≤ b.length := by
  unfold commonN
  have := (List.takeWhile_prefix (l := List.range (min a.length b.length)) (fun n => eqEn (a.getD n zEntry) (b.getD n zEntry))).length_le
  rw [List.length_range] at this
  omega
theorem agreed_commit {x : Node} (h0 : 0 ≤ x.commit) (h1 : x.commit ≤ x.log.length) : (agreed x).commit ≤ (agreed x).log.length := by
  have := agN_bd x (c := x.commit.toNat) (n := x.log.length) (by omega)
  show agI x ≤ x.log.length
  unfold agI
  omega
theorem taken_commit {y : Node} {m : Mail} (hl : y.log.length ≤ 2097152) (h1 : y.commit ≤ y.log.length) (hc : takenC y m = 0) : (takenN y m).commit ≤ (takenN y m).log.length := by
  unfold takenN
  split
  · exact h1
  · rename_i h0
    have g1 : ¬ m.term < y.term := fun e => h0 (.inl e)
    have g2 : ¬ y.role = 2 := fun e => h0 (.inr e)
    split
    · exact h1
    · rename_i h2
      have g3 : fitsM y.log m.index m.last = true := by
        cases hf : fitsM y.log m.index m.last
        · exact absurd (.inl hf) h2
        · rfl
      obtain ⟨i, hi, hin⟩ := fits_nat hl g3
      have g4 : y.commit ≤ (commonN y.log (takenL y m) : Int) := by
        revert hc
        unfold takenC
        rw [if_neg g1, if_neg g2, if_neg (by simp [g3])]
        split
        · intro h; cases h
        · split
          · intro h; cases h
          · intro _; omega
      have g5 := commonN_le y.log (takenL y m)
      have g6 : i + m.entries.length ≤ (takenL y m).length := by
        have := take7_ge (more := m.entries) hin
        unfold takenL
        rw [hi]
        exact this
      show max y.commit (min m.commit (takenEnd m)) ≤ ((takenL y m).length : Int)
      unfold takenEnd
      omega
theorem hear_commit {x : Node} {m : Mail} (hx : limN 2097152 x) : (hearMail x m).node.commit ≤ (hearMail x m).node.log.length := by
  unfold hearMail
  split
  · simp [badN, zNode]
  split
  · simp [badN, zNode]
  have K := hear_ok (x := x) (m := m) hx (by omega) (by omega)
  unfold hear
  generalize newer x m = y at K ⊢
  split
  · show (votedN y m).commit ≤ (votedN y m).log.length
    unfold votedN
    split
    · exact K.c1
    · exact K.c1
  split
  · show (grantedN y m).commit ≤ (grantedN y m).log.length
    unfold grantedN
    split
    · split
      · exact agreed_commit (x := led (riseN y m)) K.c0 K.c1
      · exact K.c1
    · exact K.c1
  split
  · split
    · simp [badN, zNode]
    · rename_i hc
      exact taken_commit K.lim.1 K.c1 (by simpa using hc)
  · show (toldN y m).commit ≤ (toldN y m).log.length
    unfold toldN
    split
    · exact K.c1
    · split
      · exact agreed_commit (x := toldOk y m) K.c0 K.c1
      · exact K.c1
theorem hear_id {x : Node} {m : Mail} (h : (hearMail x m).code = 0) : (hearMail x m).node.id = x.id := by
  unfold hearMail at *
  split at h
  · rename_i h0; exact absurd h h0
  rename_i h0
  rw [if_neg h0]
  split at h
  · rename_i h1; exact absurd h h1
  rename_i h1
  rw [if_neg h1]
  have hy : (newer x m).id = x.id := by
    unfold newer
    split <;> rfl
  unfold hear at *
  generalize newer x m = y at hy h ⊢
  split at h
  · rename_i k1
    rw [if_pos k1]
    show (votedN y m).id = x.id
    unfold votedN
    split <;> exact hy
  rename_i k1
  rw [if_neg k1]
  split at h
  · rename_i k2
    rw [if_pos k2]
    show (grantedN y m).id = x.id
    unfold grantedN
    split
    · split <;> exact hy
    · exact hy
  rename_i k2
  rw [if_neg k2]
  split at h
  · rename_i k3
    rw [if_pos k3]
    split at h
    · rename_i k4; exact absurd h k4
    · rename_i k4
      rw [if_neg k4]
      show (takenN y m).id = x.id
      unfold takenN
      split
      · exact hy
      · split <;> exact hy
  · rename_i k3
    rw [if_neg k3]
    show (toldN y m).id = x.id
    unfold toldN
    split
    · exact hy
    · split <;> exact hy
theorem without_lim {b : Nat} {x : Cluster} (h : limC b x) (n : Nat) : limC b (without x n) := by
  obtain ⟨⟨a1, a2⟩, ⟨b1, b2⟩, c1, d1⟩ := h
  refine ⟨⟨a1, a2⟩, ⟨by simp [without]; omega, fun y hy => b2 y ?_⟩, c1, d1⟩
  rcases List.mem_append.1 hy with hy | hy
  · exact List.mem_of_mem_take hy
  · exact List.mem_of_mem_drop hy
theorem do_lim {x : Cluster} (h : limC 1048576 x) (i : Nat) {r : NodeResult} (hr : limR 1048576 r) : limC 2097152 (doR x i r).cluster := by
  unfold doR
  split
  · obtain ⟨⟨a1, a2⟩, ⟨b1, b2⟩, c1, d1⟩ := h
    obtain ⟨⟨e1, e2, e3, e4⟩, f1, f2⟩ := hr
    have hm : limC 2097152 x := limC_mono (by omega) ⟨⟨a1, a2⟩, ⟨b1, b2⟩, c1, d1⟩
    refine ⟨⟨by simp [doC]; omega, fun y hy => ?_⟩, ⟨by simp [doC]; omega, fun y hy => ?_⟩, ?_, ?_⟩
    · rcases List.mem_or_eq_of_mem_set hy with hy | rfl
      · exact hm.1.2 y hy
      · exact ⟨by omega, by omega, by omega, by omega⟩
    · rcases List.mem_append.1 hy with hy | hy
      · exact hm.2.1.2 y hy
      · have := f2 y hy
        unfold limM at *
        omega
    · show (doWins _ _ _).length ≤ _
      unfold doWins
      split
      · simp; omega
      · omega
    · show (sealsTo _ _ _).length ≤ _
      unfold sealsTo
      simp
      omega
  · exact lim_bad
theorem deliverMail_lim {x : Cluster} (h : limC 1048576 x) (p : Int) : limC 2097152 (deliverMail x p).cluster := by
  unfold deliverMail
  split
  · exact lim_bad
  · exact do_lim (without_lim h _) _ (hear_lim (by omega) (lim_getD h.1.2 _) (by omega))
theorem hearMail_ok {x : Node} {m : Mail} (hn : nodeFault x = 0) (hm : mailFault x m = 0) : hearMail x m = hear x m := by
  unfold hearMail
  rw [if_neg (by simp [hn]), if_neg (by simp [hm])]
end Go.H
end
section
set_option linter.unusedVariables false
namespace Go.H
open Go Go.Proofs.Tryz
noncomputable def tbl : Nat → Bool → List T
  | 2, _ => dI_i64
  | 3, _ => dI_i64
  | 27, b => dCluster b
  | 34, b => dCluster b
  | 36, b => dClusterResult b
  | 47, b => dNode b
  | 49, b => dMail b
  | 54, b => dNode b
  | 56, b => dNodeResult b
  | 60, b => dMail b
  | 70, _ => dCmd
  | 72, _ => dCmd
  | 120, _ => dEntry
  | 127, _ => dWon
  | 129, _ => dWon
  | 131, _ => dSeal
  | 134, _ => dEntry
  | 136, _ => dSeal
  | 165, b => dEntriesResult b
  | _, _ => []
theorem tb2 (b : Bool) : tbl 2 b = dI_i64 := rfl
theorem tb3 (b : Bool) : tbl 3 b = dI_i64 := rfl
theorem tb27 (b : Bool) : tbl 27 b = dCluster b := rfl
theorem tb34 (b : Bool) : tbl 34 b = dCluster b := rfl
theorem tb36 (b : Bool) : tbl 36 b = dClusterResult b := rfl
theorem tb47 (b : Bool) : tbl 47 b = dNode b := rfl
theorem tb49 (b : Bool) : tbl 49 b = dMail b := rfl
theorem tb54 (b : Bool) : tbl 54 b = dNode b := rfl
theorem tb56 (b : Bool) : tbl 56 b = dNodeResult b := rfl
theorem tb60 (b : Bool) : tbl 60 b = dMail b := rfl
theorem tb70 (b : Bool) : tbl 70 b = dCmd := rfl
theorem tb72 (b : Bool) : tbl 72 b = dCmd := rfl
theorem tb120 (b : Bool) : tbl 120 b = dEntry := rfl
theorem tb127 (b : Bool) : tbl 127 b = dWon := rfl
theorem tb129 (b : Bool) : tbl 129 b = dWon := rfl
theorem tb131 (b : Bool) : tbl 131 b = dSeal := rfl
theorem tb134 (b : Bool) : tbl 134 b = dEntry := rfl
theorem tb136 (b : Bool) : tbl 136 b = dSeal := rfl
theorem tb165 (b : Bool) : tbl 165 b = dEntriesResult b := rfl
noncomputable def tr0 : List TypeInfo := [t0, t1, t2, t3, t4, t5, t6, t7, t8, t9, t10, t11, t12, t13, t14, t15]
noncomputable def tr1 : List TypeInfo := [t16, t17, t18, t19, t20, t21, t22, t23, t24, t25, t26, t27, t28, t29, t30, t31]
noncomputable def tr2 : List TypeInfo := [t32, t33, t34, t35, t36, t37, t38, t39, t40, t41, t42, t43, t44, t45, t46, t47]
noncomputable def tr3 : List TypeInfo := [t48, t49, t50, t51, t52, t53, t54, t55, t56, t57, t58, t59, t60, t61, t62, t63]
noncomputable def tr4 : List TypeInfo := [t64, t65, t66, t67, t68, t69, t70, t71, t72, t73, t74, t75, t76, t77, t78, t79]
noncomputable def tr5 : List TypeInfo := [t80, t81, t82, t83, t84, t85, t86, t87, t88, t89, t90, t91, t92, t93, t94, t95]
noncomputable def tr6 : List TypeInfo := [t96, t97, t98, t99, t100, t101, t102, t103, t104, t105, t106, t107, t108, t109, t110, t111]
noncomputable def tr7 : List TypeInfo := [t112, t113, t114, t115, t116, t117, t118, t119, t120, t121, t122, t123, t124, t125, t126, t127]
noncomputable def tr8 : List TypeInfo := [t128, t129, t130, t131, t132, t133, t134, t135, t136, t137, t138, t139, t140, t141, t142, t143]
noncomputable def tr9 : List TypeInfo := [t144, t145, t146, t147, t148, t149, t150, t151, t152, t153, t154, t155, t156, t157, t158, t159]
noncomputable def tr10 : List TypeInfo := [t160, t161, t162, t163, t164, t165, t166, t167, t168, t169, t170, t171, t172, t173, t174, t175]
noncomputable def tr11 : List TypeInfo := [t176, t177, t178, t179, t180, t181, t182, t183, t184, t185, t186, t187, t188, t189, t190, t191]
noncomputable def tr12 : List TypeInfo := [t192, t193, t194, t195, t196, t197, t198, t199, t200, t201, t202, t203, t204, t205, t206, t207]
noncomputable def tr13 : List TypeInfo := [t208, t209, t210, t211, t212, t213, t214, t215, t216, t217, t218]
noncomputable def tys (t : Nat) : Option TypeInfo := tyG [tr0, tr1, tr2, tr3, tr4, tr5, tr6, tr7, tr8, tr9, tr10, tr11, tr12, tr13] t
theorem goF [Inv prog] {fn : Func} {f : FuncId} {av : List Arg} {L : List Ob} {rs : List TV} {L' : List Ob} {c : (Nat → Bool → List T) → SC} {c' : SC} {rvs : List RV} (hs : List (Nat × Hn)) (dr : List (Nat × Nat × List Nat × List Nat)) (dp : List (Nat × List Nat)) (hf : prog.funcs[f]? = some fn)
    (k : CW prog c' (endX rvs L rs L') (initS av L)) (hc : ∀ tb, genF tys fn tb hs dr dp = c tb := by intro tb; cbv) (hcc : c tbl = c' := by first | (dsimp only [tb2, tb3, tb27, tb34, tb36, tb47, tb49, tb54, tb56, tb60, tb70, tb72, tb120, tb127, tb129, tb131, tb134, tb136, tb165] <;> exact rfl) | exact rfl) (hk : OkG prog fn (genF tys fn tbl hs dr dp) := by exact ⟨_, rfl, by kernel_rfl, by kernel_rfl⟩)
    (h0 : cmpR prog fn.results.toList = some (rvG tys fn.results.toList) := by kernel_rfl) (hr : rvG tys fn.results.toList = rvs := by cbv) (hn : Nat.ble av.length fn.ntmps = true := by kernel_rfl) (has : Nat.ble av.length 199 = true := by rfl)
    (hok : ∀ o ∈ L, obOk o := by first | (simp; done) | (simp [obOk]; done) | (simp [obOk, go_sem]; done)) (hok2 : ∀ a ∈ av, argOk a := by first | (simp [argOk, aT, aI, aS]; done) | (simp [argOk, go_sem]; done)) : SemX prog f av L rs L' := by
  obtain ⟨cc, g1, g2, g3⟩ := hk
  subst hcc
  subst hr
  rw [hc tbl] at g2 g3
  exact SemX.of_code hf g1 g2 g3 h0 (Nat.le_of_ble_eq_true hn) (Nat.lt_succ_of_le (Nat.le_of_ble_eq_true has)) hok hok2 k
theorem goFC [Inv prog] {fn : Func} {f : FuncId} {av : List Arg} {L : List Ob} {rs : List TV} {L' : List Ob} {c : (Nat → Bool → List T) → SC} {c' : SC} {rvs : List RV} (k0 : Nat) {A : Arr} (hs : List (Nat × Hn)) (dr : List (Nat × Nat × List Nat × List Nat)) (dp : List (Nat × List Nat)) (hf : prog.funcs[f]? = some fn)
    (k : ∀ cp, A.rows.length ≤ cp → cp ≤ 9223372036854775807 → CW prog c' (endX rvs L rs L') ((initS av L).full k0 cp)) (hk0 : look k0 (initS av L).ms = some (.arr A) := by exact rfl) (hc : ∀ tb, genF tys fn tb hs dr dp = c tb := by intro tb; cbv) (hcc : c tbl = c' := by first | (dsimp only [tb2, tb3, tb27, tb34, tb36, tb47, tb49, tb54, tb56, tb60, tb70, tb72, tb120, tb127, tb129, tb131, tb134, tb136, tb165] <;> exact rfl) | exact rfl) (hk : OkG prog fn (genF tys fn tbl hs dr dp) := by exact ⟨_, rfl, by kernel_rfl, by kernel_rfl⟩)
    (h0 : cmpR prog fn.results.toList = some (rvG tys fn.results.toList) := by kernel_rfl) (hr : rvG tys fn.results.toList = rvs := by cbv) (hn : Nat.ble av.length fn.ntmps = true := by kernel_rfl) (has : Nat.ble av.length 199 = true := by rfl)
    (hok : ∀ o ∈ L, obOk o := by first | (simp; done) | (simp [obOk]; done) | (simp [obOk, go_sem]; done)) (hok2 : ∀ a ∈ av, argOk a := by first | (simp [argOk, aT, aI, aS]; done) | (simp [argOk, go_sem]; done)) : SemX prog f av L rs L' := by
  obtain ⟨cc, g1, g2, g3⟩ := hk
  subst hcc
  subst hr
  rw [hc tbl] at g2 g3
  exact SemX.of_codeC k0 hf g1 g2 g3 h0 (Nat.le_of_ble_eq_true hn) (Nat.lt_succ_of_le (Nat.le_of_ble_eq_true has)) hok hok2 hk0 k
end Go.H
end
section
set_option maxRecDepth 100000
set_option linter.unusedVariables false
set_option linter.unusedSimpArgs false
namespace Go.H
open Go Go.Proofs.Tryz
section
variable {H : Type} {enc : TypeId × Value → H} {w : World} {base : Nat} {spare : Nat → Bool} {held : Bool}
theorem cells27 : prog.cellsOf 27 = 4 := by kernel_rfl
theorem cells47 : prog.cellsOf 47 = 10 := by kernel_rfl
theorem cells2 : prog.cellsOf 2 = 1 := by kernel_rfl
theorem cells134 : prog.cellsOf 134 = 9 := by kernel_rfl
theorem cells70 : prog.cellsOf 70 = 6 := by kernel_rfl
theorem cells44 : prog.cellsOf 44 = 1 := by kernel_rfl
theorem cells45 : prog.cellsOf 45 = 1 := by kernel_rfl
theorem cells22 : prog.cellsOf 22 = 1 := by kernel_rfl
theorem cells49 : prog.cellsOf 49 = 9 := by kernel_rfl
theorem cells4 : prog.cellsOf 4 = 1 := by kernel_rfl
theorem cells23 : prog.cellsOf 23 = 1 := by kernel_rfl
theorem cells129 : prog.cellsOf 129 = 2 := by kernel_rfl
theorem cells24 : prog.cellsOf 24 = 1 := by kernel_rfl
theorem cells136 : prog.cellsOf 136 = 10 := by kernel_rfl
theorem cells25 : prog.cellsOf 25 = 1 := by kernel_rfl
theorem of_70 {fuel : Nat} {cs : List Value} {d : DataW H × List MemPlace} (h : DataW.trod enc prog w base spare held fuel 70 cs = some d) : ∃ x : Cmd, RoL w (okW w) (eCmd x) cs ∧ (fun _ => True) x := by
  obtain ⟨xs, n, rfl, _, hl, hxl, hf⟩ := DataW.trod_struct underlying70 h
  rw [cells70] at hl
  obtain ⟨_, h0⟩ : ∃ d, DataW.trod enc prog w base spare held n 2 ((cs.drop 0).take (prog.cellsOf 2)) = some d := fld_of hf hxl 0 rfl
  rw [cells2] at h0
  obtain ⟨x0, r0⟩ := int_of underlying2 h0
  obtain ⟨_, h1⟩ : ∃ d, DataW.trod enc prog w base spare held n 2 ((cs.drop 1).take (prog.cellsOf 2)) = some d := fld_of hf hxl 1 rfl
  rw [cells2] at h1
  obtain ⟨x1, r1⟩ := int_of underlying2 h1
  obtain ⟨_, h2⟩ : ∃ d, DataW.trod enc prog w base spare held n 2 ((cs.drop 2).take (prog.cellsOf 2)) = some d := fld_of hf hxl 2 rfl
  rw [cells2] at h2
  obtain ⟨x2, r2⟩ := int_of underlying2 h2
  obtain ⟨_, h3⟩ : ∃ d, DataW.trod enc prog w base spare held n 2 ((cs.drop 3).take (prog.cellsOf 2)) = some d := fld_of hf hxl 3 rfl
  rw [cells2] at h3
  obtain ⟨x3, r3⟩ := int_of underlying2 h3
  obtain ⟨_, h4⟩ : ∃ d, DataW.trod enc prog w base spare held n 2 ((cs.drop 4).take (prog.cellsOf 2)) = some d := fld_of hf hxl 4 rfl
  rw [cells2] at h4
  obtain ⟨x4, r4⟩ := int_of underlying2 h4
  obtain ⟨_, h5⟩ : ∃ d, DataW.trod enc prog w base spare held n 2 ((cs.drop 5).take (prog.cellsOf 2)) = some d := fld_of hf hxl 5 rfl
  rw [cells2] at h5
  obtain ⟨x5, r5⟩ := int_of underlying2 h5
  refine ⟨⟨x0, x1, x2, x3, x4, x5⟩, ?_, trivial⟩
  exact (RoL_cat (o := 0) (n := 1) r0 (RoL_cat (o := 1) (n := 1) r1 (RoL_cat (o := 2) (n := 1) r2 (RoL_cat (o := 3) (n := 1) r3 (RoL_cat (o := 4) (n := 1) r4 (RoL_end (o := 5) (n := 1) r5 hl))))))
theorem of_134 {fuel : Nat} {cs : List Value} {d : DataW H × List MemPlace} (h : DataW.trod enc prog w base spare held fuel 134 cs = some d) : ∃ x : Entry, RoL w (okW w) (eEntry x) cs ∧ (fun _ => True) x := by
  obtain ⟨xs, n, rfl, _, hl, hxl, hf⟩ := DataW.trod_struct underlying134 h
  rw [cells134] at hl
  obtain ⟨_, h0⟩ : ∃ d, DataW.trod enc prog w base spare held n 2 ((cs.drop 0).take (prog.cellsOf 2)) = some d := fld_of hf hxl 0 rfl
  rw [cells2] at h0
  obtain ⟨x0, r0⟩ := int_of underlying2 h0
  obtain ⟨_, h1⟩ : ∃ d, DataW.trod enc prog w base spare held n 2 ((cs.drop 1).take (prog.cellsOf 2)) = some d := fld_of hf hxl 1 rfl
  rw [cells2] at h1
  obtain ⟨x1, r1⟩ := int_of underlying2 h1
  obtain ⟨_, h2⟩ : ∃ d, DataW.trod enc prog w base spare held n 2 ((cs.drop 2).take (prog.cellsOf 2)) = some d := fld_of hf hxl 2 rfl
  rw [cells2] at h2
  obtain ⟨x2, r2⟩ := int_of underlying2 h2
  obtain ⟨_, h3⟩ : ∃ d, DataW.trod enc prog w base spare held n 70 ((cs.drop 3).take (prog.cellsOf 70)) = some d := fld_of hf hxl 3 rfl
  rw [cells70] at h3
  obtain ⟨x3, r3, q3⟩ := of_70 h3
  refine ⟨⟨x0, x1, x2, x3⟩, ?_, trivial⟩
  exact (RoL_cat (o := 0) (n := 1) r0 (RoL_cat (o := 1) (n := 1) r1 (RoL_cat (o := 2) (n := 1) r2 (RoL_end (o := 3) (n := 6) r3 hl))))
theorem of_47 {fuel : Nat} {cs : List Value} {d : DataW H × List MemPlace} (h : DataW.trod enc prog w base spare held fuel 47 cs = some d) : ∃ x : Node, RoL w (okW w) (eNode false x) cs ∧ qNode x := by
  obtain ⟨xs, n, rfl, _, hl, hxl, hf⟩ := DataW.trod_struct underlying47 h
  rw [cells47] at hl
  obtain ⟨_, h0⟩ : ∃ d, DataW.trod enc prog w base spare held n 2 ((cs.drop 0).take (prog.cellsOf 2)) = some d := fld_of hf hxl 0 rfl
  rw [cells2] at h0
  obtain ⟨x0, r0⟩ := int_of underlying2 h0
  obtain ⟨_, h1⟩ : ∃ d, DataW.trod enc prog w base spare held n 2 ((cs.drop 1).take (prog.cellsOf 2)) = some d := fld_of hf hxl 1 rfl
  rw [cells2] at h1
  obtain ⟨x1, r1⟩ := int_of underlying2 h1
  obtain ⟨_, h2⟩ : ∃ d, DataW.trod enc prog w base spare held n 2 ((cs.drop 2).take (prog.cellsOf 2)) = some d := fld_of hf hxl 2 rfl
  rw [cells2] at h2
  obtain ⟨x2, r2⟩ := int_of underlying2 h2
  obtain ⟨_, h3⟩ : ∃ d, DataW.trod enc prog w base spare held n 2 ((cs.drop 3).take (prog.cellsOf 2)) = some d := fld_of hf hxl 3 rfl
  rw [cells2] at h3
  obtain ⟨x3, r3⟩ := int_of underlying2 h3
  obtain ⟨_, h4⟩ : ∃ d, DataW.trod enc prog w base spare held n 44 ((cs.drop 4).take (prog.cellsOf 44)) = some d := fld_of hf hxl 4 rfl
  rw [cells44] at h4
  obtain ⟨x4, r4, l4, q4⟩ := sl_of eEntry (fun _ => True) 9 underlying44 cells134 (fun _ => rfl) (by decide) (fun n cs d h => of_134 h) h4
  obtain ⟨_, h5⟩ : ∃ d, DataW.trod enc prog w base spare held n 2 ((cs.drop 5).take (prog.cellsOf 2)) = some d := fld_of hf hxl 5 rfl
  rw [cells2] at h5
  obtain ⟨x5, r5⟩ := int_of underlying2 h5
  obtain ⟨_, h6⟩ : ∃ d, DataW.trod enc prog w base spare held n 2 ((cs.drop 6).take (prog.cellsOf 2)) = some d := fld_of hf hxl 6 rfl
  rw [cells2] at h6
  obtain ⟨x6, r6⟩ := int_of underlying2 h6
  obtain ⟨_, h7⟩ : ∃ d, DataW.trod enc prog w base spare held n 45 ((cs.drop 7).take (prog.cellsOf 45)) = some d := fld_of hf hxl 7 rfl
  rw [cells45] at h7
  obtain ⟨x7, r7, l7, q7⟩ := sl_of eI_i64 (fun _ => True) 1 underlying45 cells2 (fun _ => rfl) (by decide) (fun n cs d h => by obtain ⟨x, hx⟩ := int_of underlying2 h; exact ⟨x, hx, trivial⟩) h7
  obtain ⟨_, h8⟩ : ∃ d, DataW.trod enc prog w base spare held n 45 ((cs.drop 8).take (prog.cellsOf 45)) = some d := fld_of hf hxl 8 rfl
  rw [cells45] at h8
  obtain ⟨x8, r8, l8, q8⟩ := sl_of eI_i64 (fun _ => True) 1 underlying45 cells2 (fun _ => rfl) (by decide) (fun n cs d h => by obtain ⟨x, hx⟩ := int_of underlying2 h; exact ⟨x, hx, trivial⟩) h8
  obtain ⟨_, h9⟩ : ∃ d, DataW.trod enc prog w base spare held n 45 ((cs.drop 9).take (prog.cellsOf 45)) = some d := fld_of hf hxl 9 rfl
  rw [cells45] at h9
  obtain ⟨x9, r9, l9, q9⟩ := sl_of eI_i64 (fun _ => True) 1 underlying45 cells2 (fun _ => rfl) (by decide) (fun n cs d h => by obtain ⟨x, hx⟩ := int_of underlying2 h; exact ⟨x, hx, trivial⟩) h9
  refine ⟨⟨x0, x1, x2, x3, x4, x5, x6, x7, x8, x9⟩, ?_, ⟨l4, l7, l8, l9⟩⟩
  exact (RoL_cat (o := 0) (n := 1) r0 (RoL_cat (o := 1) (n := 1) r1 (RoL_cat (o := 2) (n := 1) r2 (RoL_cat (o := 3) (n := 1) r3 (RoL_cat (o := 4) (n := 1) r4 (RoL_cat (o := 5) (n := 1) r5 (RoL_cat (o := 6) (n := 1) r6 (RoL_cat (o := 7) (n := 1) r7 (RoL_cat (o := 8) (n := 1) r8 (RoL_end (o := 9) (n := 1) r9 hl))))))))))
theorem of_49 {fuel : Nat} {cs : List Value} {d : DataW H × List MemPlace} (h : DataW.trod enc prog w base spare held fuel 49 cs = some d) : ∃ x : Mail, RoL w (okW w) (eMail false x) cs ∧ qMail x := by
  obtain ⟨xs, n, rfl, _, hl, hxl, hf⟩ := DataW.trod_struct underlying49 h
  rw [cells49] at hl
  obtain ⟨_, h0⟩ : ∃ d, DataW.trod enc prog w base spare held n 2 ((cs.drop 0).take (prog.cellsOf 2)) = some d := fld_of hf hxl 0 rfl
  rw [cells2] at h0
  obtain ⟨x0, r0⟩ := int_of underlying2 h0
  obtain ⟨_, h1⟩ : ∃ d, DataW.trod enc prog w base spare held n 2 ((cs.drop 1).take (prog.cellsOf 2)) = some d := fld_of hf hxl 1 rfl
  rw [cells2] at h1
  obtain ⟨x1, r1⟩ := int_of underlying2 h1
  obtain ⟨_, h2⟩ : ∃ d, DataW.trod enc prog w base spare held n 2 ((cs.drop 2).take (prog.cellsOf 2)) = some d := fld_of hf hxl 2 rfl
  rw [cells2] at h2
  obtain ⟨x2, r2⟩ := int_of underlying2 h2
  obtain ⟨_, h3⟩ : ∃ d, DataW.trod enc prog w base spare held n 2 ((cs.drop 3).take (prog.cellsOf 2)) = some d := fld_of hf hxl 3 rfl
  rw [cells2] at h3
  obtain ⟨x3, r3⟩ := int_of underlying2 h3
  obtain ⟨_, h4⟩ : ∃ d, DataW.trod enc prog w base spare held n 2 ((cs.drop 4).take (prog.cellsOf 2)) = some d := fld_of hf hxl 4 rfl
  rw [cells2] at h4
  obtain ⟨x4, r4⟩ := int_of underlying2 h4
  obtain ⟨_, h5⟩ : ∃ d, DataW.trod enc prog w base spare held n 2 ((cs.drop 5).take (prog.cellsOf 2)) = some d := fld_of hf hxl 5 rfl
  rw [cells2] at h5
  obtain ⟨x5, r5⟩ := int_of underlying2 h5
  obtain ⟨_, h6⟩ : ∃ d, DataW.trod enc prog w base spare held n 2 ((cs.drop 6).take (prog.cellsOf 2)) = some d := fld_of hf hxl 6 rfl
  rw [cells2] at h6
  obtain ⟨x6, r6⟩ := int_of underlying2 h6
  obtain ⟨_, h7⟩ : ∃ d, DataW.trod enc prog w base spare held n 4 ((cs.drop 7).take (prog.cellsOf 4)) = some d := fld_of hf hxl 7 rfl
  rw [cells4] at h7
  obtain ⟨x7, r7⟩ := bool_of underlying4 h7
  obtain ⟨_, h8⟩ : ∃ d, DataW.trod enc prog w base spare held n 44 ((cs.drop 8).take (prog.cellsOf 44)) = some d := fld_of hf hxl 8 rfl
  rw [cells44] at h8
  obtain ⟨x8, r8, l8, q8⟩ := sl_of eEntry (fun _ => True) 9 underlying44 cells134 (fun _ => rfl) (by decide) (fun n cs d h => of_134 h) h8
  refine ⟨⟨x0, x1, x2, x3, x4, x5, x6, x7, x8⟩, ?_, l8⟩
  exact (RoL_cat (o := 0) (n := 1) r0 (RoL_cat (o := 1) (n := 1) r1 (RoL_cat (o := 2) (n := 1) r2 (RoL_cat (o := 3) (n := 1) r3 (RoL_cat (o := 4) (n := 1) r4 (RoL_cat (o := 5) (n := 1) r5 (RoL_cat (o := 6) (n := 1) r6 (RoL_cat (o := 7) (n := 1) r7 (RoL_end (o := 8) (n := 1) r8 hl)))))))))
theorem of_129 {fuel : Nat} {cs : List Value} {d : DataW H × List MemPlace} (h : DataW.trod enc prog w base spare held fuel 129 cs = some d) : ∃ x : Won, RoL w (okW w) (eWon x) cs ∧ (fun _ => True) x := by
  obtain ⟨xs, n, rfl, _, hl, hxl, hf⟩ := DataW.trod_struct underlying129 h
  rw [cells129] at hl
  obtain ⟨_, h0⟩ : ∃ d, DataW.trod enc prog w base spare held n 2 ((cs.drop 0).take (prog.cellsOf 2)) = some d := fld_of hf hxl 0 rfl
  rw [cells2] at h0
  obtain ⟨x0, r0⟩ := int_of underlying2 h0
  obtain ⟨_, h1⟩ : ∃ d, DataW.trod enc prog w base spare held n 2 ((cs.drop 1).take (prog.cellsOf 2)) = some d := fld_of hf hxl 1 rfl
  rw [cells2] at h1
  obtain ⟨x1, r1⟩ := int_of underlying2 h1
  refine ⟨⟨x0, x1⟩, ?_, trivial⟩
  exact (RoL_cat (o := 0) (n := 1) r0 (RoL_end (o := 1) (n := 1) r1 hl))
theorem of_136 {fuel : Nat} {cs : List Value} {d : DataW H × List MemPlace} (h : DataW.trod enc prog w base spare held fuel 136 cs = some d) : ∃ x : Seal, RoL w (okW w) (eSeal x) cs ∧ (fun _ => True) x := by
  obtain ⟨xs, n, rfl, _, hl, hxl, hf⟩ := DataW.trod_struct underlying136 h
  rw [cells136] at hl
  obtain ⟨_, h0⟩ : ∃ d, DataW.trod enc prog w base spare held n 2 ((cs.drop 0).take (prog.cellsOf 2)) = some d := fld_of hf hxl 0 rfl
  rw [cells2] at h0
  obtain ⟨x0, r0⟩ := int_of underlying2 h0
  obtain ⟨_, h1⟩ : ∃ d, DataW.trod enc prog w base spare held n 134 ((cs.drop 1).take (prog.cellsOf 134)) = some d := fld_of hf hxl 1 rfl
  rw [cells134] at h1
  obtain ⟨x1, r1, q1⟩ := of_134 h1
  refine ⟨⟨x0, x1⟩, ?_, trivial⟩
  exact (RoL_cat (o := 0) (n := 1) r0 (RoL_end (o := 1) (n := 9) r1 hl))
theorem of_27 {fuel : Nat} {cs : List Value} {d : DataW H × List MemPlace} (h : DataW.trod enc prog w base spare held fuel 27 cs = some d) : ∃ x : Cluster, RoL w (okW w) (eCluster false x) cs ∧ qCluster x := by
  obtain ⟨xs, n, rfl, _, hl, hxl, hf⟩ := DataW.trod_struct underlying27 h
  rw [cells27] at hl
  obtain ⟨_, h0⟩ : ∃ d, DataW.trod enc prog w base spare held n 22 ((cs.drop 0).take (prog.cellsOf 22)) = some d := fld_of hf hxl 0 rfl
  rw [cells22] at h0
  obtain ⟨x0, r0, l0, q0⟩ := sl_of (eNode false) qNode 10 underlying22 cells47 (fun _ => rfl) (by decide) (fun n cs d h => of_47 h) h0
  obtain ⟨_, h1⟩ : ∃ d, DataW.trod enc prog w base spare held n 23 ((cs.drop 1).take (prog.cellsOf 23)) = some d := fld_of hf hxl 1 rfl
  rw [cells23] at h1
  obtain ⟨x1, r1, l1, q1⟩ := sl_of (eMail false) qMail 9 underlying23 cells49 (fun _ => rfl) (by decide) (fun n cs d h => of_49 h) h1
  obtain ⟨_, h2⟩ : ∃ d, DataW.trod enc prog w base spare held n 24 ((cs.drop 2).take (prog.cellsOf 24)) = some d := fld_of hf hxl 2 rfl
  rw [cells24] at h2
  obtain ⟨x2, r2, l2, q2⟩ := sl_of eWon (fun _ => True) 2 underlying24 cells129 (fun _ => rfl) (by decide) (fun n cs d h => of_129 h) h2
  obtain ⟨_, h3⟩ : ∃ d, DataW.trod enc prog w base spare held n 25 ((cs.drop 3).take (prog.cellsOf 25)) = some d := fld_of hf hxl 3 rfl
  rw [cells25] at h3
  obtain ⟨x3, r3, l3, q3⟩ := sl_of eSeal (fun _ => True) 10 underlying25 cells136 (fun _ => rfl) (by decide) (fun n cs d h => of_136 h) h3
  refine ⟨⟨x0, x1, x2, x3⟩, ?_, ⟨⟨l0, q0⟩, ⟨l1, q1⟩, l2, l3⟩⟩
  exact (RoL_cat (o := 0) (n := 1) r0 (RoL_cat (o := 1) (n := 1) r1 (RoL_cat (o := 2) (n := 1) r2 (RoL_end (o := 3) (n := 1) r3 hl))))
end
end Go.H
end
section
set_option maxRecDepth 100000
set_option maxHeartbeats 4000000
set_option linter.unusedVariables false
set_option linter.unusedSimpArgs false
namespace Go.H
open Go Go.Proofs.Tryz
variable [Inv prog]
theorem s_laws_szEntryS (rows : List (List T)) (l : Int) (h0 : -1 ≤ l) (h1 : l ≤ 1048576) (hl : rows.length ≤ 9223372036854775807) : SemX prog 78 [aT (.sl false 9 rows), aI l] [] [rI (szL rows.length l)] [] := by
 refine goF [] [] [] func78 ?_
 refine D ?_
 refine cC (fun c0 => ?_) (fun c0 => ?_)
 · skip
   refine D ?_
   refine E ?_
   first
   | exact trivial
   | simp [szL, *]
 · skip
   refine D ?_
   refine E ?_
   first
   | exact trivial
   | simp [szL, *]
end Go.H
end
section
set_option maxRecDepth 100000
set_option maxHeartbeats 4000000
set_option linter.unusedVariables false
set_option linter.unusedSimpArgs false
namespace Go.H
open Go Go.Proofs.Tryz
variable [Inv prog]
theorem s_laws_szInt64S (rows : List (List T)) (l : Int) (h0 : -1 ≤ l) (h1 : l ≤ 1048576) (hl : rows.length ≤ 9223372036854775807) : SemX prog 79 [aT (.sl false 1 rows), aI l] [] [rI (szL rows.length l)] [] := by
 refine goF [] [] [] func79 ?_
 refine D ?_
 refine cC (fun c0 => ?_) (fun c0 => ?_)
 · skip
   refine D ?_
   refine E ?_
   first
   | exact trivial
   | simp [szL, *]
 · skip
   refine D ?_
   refine E ?_
   first
   | exact trivial
   | simp [szL, *]
end Go.H
end
section
set_option maxRecDepth 100000
set_option maxHeartbeats 4000000
set_option linter.unusedVariables false
set_option linter.unusedSimpArgs false
namespace Go.H
open Go Go.Proofs.Tryz
variable [Inv prog]
theorem s_laws_szNode (x : Node) (l : Int) (h0 : -1 ≤ l) (h1 : l ≤ 1048576) (hx : x.log.length ≤ 9223372036854775807 ∧ x.votes.length ≤ 9223372036854775807 ∧ x.next.length ≤ 9223372036854775807 ∧ x.match_.length ≤ 9223372036854775807) : SemX prog 24 [aS (eNode false x), aI l] [] [rI (szNode x l)] [] := by
 refine goF [] [] [] func24 ?_
 refine D ?_
 refine kR (s_laws_szEntryS (x.log.map eEntry) (l) h0 h1 (by simp only [List.length_map]; omega)) ?_
 refine D ?_
 refine cC (fun c0 => ?_) (fun c0 => ?_)
 · skip
   refine D ?_
   refine E ?_
   first
   | exact trivial
   | simp [szNode, szT, *]
 · skip
   refine D ?_
   refine kR (s_laws_szInt64S (x.votes.map eI_i64) (szL x.log.length l) (by omega) (szL_hi h1 (by omega)) (by simp only [List.length_map]; omega)) ?_
   refine D ?_
   refine cC (fun c1 => ?_) (fun c1 => ?_)
   · skip
     refine D ?_
     refine E ?_
     first
     | exact trivial
     | simp [szNode, szT, *]
   · skip
     refine D ?_
     refine kR (s_laws_szInt64S (x.next.map eI_i64) (szL x.votes.length (szL x.log.length l)) (by omega) (szL_hi (szL_hi h1 (by omega)) (by omega)) (by simp only [List.length_map]; omega)) ?_
     refine D ?_
     refine cC (fun c2 => ?_) (fun c2 => ?_)
     · skip
       refine D ?_
       refine E ?_
       first
       | exact trivial
       | simp [szNode, szT, *]
     · skip
       refine D ?_
       refine kR (s_laws_szInt64S (x.match_.map eI_i64) (szL x.next.length (szL x.votes.length (szL x.log.length l))) (by omega) (szL_hi (szL_hi (szL_hi h1 (by omega)) (by omega)) (by omega)) (by simp only [List.length_map]; omega)) ?_
       refine D ?_
       refine cC (fun c3 => ?_) (fun c3 => ?_)
       · skip
         refine D ?_
         refine E ?_
         first
         | exact trivial
         | simp [szNode, szT, *]
       · skip
         refine D ?_
         refine E ?_
         first
         | exact trivial
         | simp [szNode, szT, *]
end Go.H
end
section
set_option maxRecDepth 100000
set_option maxHeartbeats 4000000
set_option linter.unusedVariables false
set_option linter.unusedSimpArgs false
namespace Go.H
open Go Go.Proofs.Tryz
variable [Inv prog]
theorem s_laws_szNodeS (xs : List Node) (l : Int) (h0 : -1 ≤ l) (h1 : l ≤ 1048576) (hl : xs.length ≤ 9223372036854775807) (hm : ∀ i < xs.length, (xs.getD i zNode).log.length ≤ 9223372036854775807 ∧ (xs.getD i zNode).votes.length ≤ 9223372036854775807 ∧ (xs.getD i zNode).next.length ≤ 9223372036854775807 ∧ (xs.getD i zNode).match_.length ≤ 9223372036854775807) : SemX prog 46 [aT (.sl false 10 (xs.map (eNode false))), aI l] [] [rI (szNs xs l)] [] := by
 refine goF [] [] [] func46 ?_
 refine D ?_
 refine cC (fun c0 => ?_) (fun c0 => ?_)
 · skip
   refine D ?_
   refine E ?_
   simp [szNs, szMs, szL, szT, *]
 · skip
   refine D ?_
   refine L (α := (Nat × Int)) (fun x => [(1, .int .i64 x.2), (5, .int .i64 x.1)]) (fun x => []) (fun x => xs.length - x.1) (fun x => x.1 ≤ xs.length ∧ -1 ≤ x.2 ∧ x.2 ≤ 1048576 ∧ szNodes xs (szL xs.length l) = szNodes (xs.drop x.1) x.2) (0, szL xs.length l) [] (fun x0 hL => ?_) (by simp only [go_sem] <;> and_intros <;> first | with_reducible exact rfl | (first | omega | (simp [szL, *]; done))) (by refine ⟨Nat.zero_le _, szL_lo _ _, szL_hi h1 (by omega), rfl⟩)
   obtain ⟨i, m⟩ := x0
   obtain ⟨hi, hm1, hm2, he⟩ := hL
   try dsimp only at *
   refine D ?_
   refine cC (fun c1 => ?_) (fun c1 => ?_)
   · skip
     refine D ?_
     refine kR (s_laws_szNode (xs.getD i zNode) m hm1 hm2 (hm i (by omega))) ?_
     refine D ?_
     refine cC (fun c2 => ?_) (fun c2 => ?_)
     · skip
       refine D ?_
       refine E ?_
       have := szL_lo xs.length l
       rw [szNs, szT, if_neg (by unfold szL; split <;> omega), he, drop_getD zNode (by omega)]
       simp [szNodes, szT, *, -List.getD_eq_getElem?_getD]
     · skip
       refine D ?_
       refine lp_next (i + 1, szNode (xs.getD i zNode) m) [] ?_ ?_ ?_
       · simp only [go_sem] <;> and_intros <;> first | with_reducible exact rfl | (first | omega | (simp [szL, *]; done))
       · refine ⟨by omega, (szNode_lo _ _ hm2).1, (szNode_lo _ _ hm2).2, ?_⟩
         rw [he, drop_getD zNode (by omega)]
         simp [szNodes, szT, *, -List.getD_eq_getElem?_getD]
       · try dsimp only
         omega
   · skip
     obtain rfl : i = xs.length := by omega
     refine D ?_
     refine E ?_
     first
     | exact trivial
     | rw [szNs, szT, if_neg (by unfold szL; split <;> omega), he]
       simp [szNodes]
end Go.H
end
section
set_option maxRecDepth 100000
set_option maxHeartbeats 4000000
set_option linter.unusedVariables false
set_option linter.unusedSimpArgs false
namespace Go.H
open Go Go.Proofs.Tryz
variable [Inv prog]
theorem s_laws_szMail (x : Mail) (l : Int) (h0 : -1 ≤ l) (h1 : l ≤ 1048576) (hx : x.entries.length ≤ 9223372036854775807) : SemX prog 25 [aS (eMail false x), aI l] [] [rI (szMail x l)] [] := by
 refine goF [] [] [] func25 ?_
 refine D ?_
 refine kR (s_laws_szEntryS (x.entries.map eEntry) (l) h0 h1 (by simp only [List.length_map]; omega)) ?_
 refine D ?_
 refine cC (fun c0 => ?_) (fun c0 => ?_)
 · skip
   refine D ?_
   refine E ?_
   first
   | exact trivial
   | simp [szMail, szT, *]
 · skip
   refine D ?_
   refine E ?_
   first
   | exact trivial
   | simp [szMail, szT, *]
end Go.H
end
section
set_option maxRecDepth 100000
set_option maxHeartbeats 4000000
set_option linter.unusedVariables false
set_option linter.unusedSimpArgs false
namespace Go.H
open Go Go.Proofs.Tryz
variable [Inv prog]
theorem s_laws_szMailS (xs : List Mail) (l : Int) (h0 : -1 ≤ l) (h1 : l ≤ 1048576) (hl : xs.length ≤ 9223372036854775807) (hm : ∀ i < xs.length, (xs.getD i zMail).entries.length ≤ 9223372036854775807) : SemX prog 47 [aT (.sl false 9 (xs.map (eMail false))), aI l] [] [rI (szMs xs l)] [] := by
 refine goF [] [] [] func47 ?_
 refine D ?_
 refine cC (fun c0 => ?_) (fun c0 => ?_)
 · skip
   refine D ?_
   refine E ?_
   simp [szNs, szMs, szL, szT, *]
 · skip
   refine D ?_
   refine L (α := (Nat × Int)) (fun x => [(1, .int .i64 x.2), (5, .int .i64 x.1)]) (fun x => []) (fun x => xs.length - x.1) (fun x => x.1 ≤ xs.length ∧ -1 ≤ x.2 ∧ x.2 ≤ 1048576 ∧ szMails xs (szL xs.length l) = szMails (xs.drop x.1) x.2) (0, szL xs.length l) [] (fun x0 hL => ?_) (by simp only [go_sem] <;> and_intros <;> first | with_reducible exact rfl | (first | omega | (simp [szL, *]; done))) (by refine ⟨Nat.zero_le _, szL_lo _ _, szL_hi h1 (by omega), rfl⟩)
   obtain ⟨i, m⟩ := x0
   obtain ⟨hi, hm1, hm2, he⟩ := hL
   try dsimp only at *
   refine D ?_
   refine cC (fun c1 => ?_) (fun c1 => ?_)
   · skip
     refine D ?_
     refine kR (s_laws_szMail (xs.getD i zMail) m hm1 hm2 (hm i (by omega))) ?_
     refine D ?_
     refine cC (fun c2 => ?_) (fun c2 => ?_)
     · skip
       refine D ?_
       refine E ?_
       have := szL_lo xs.length l
       rw [szMs, szT, if_neg (by unfold szL; split <;> omega), he, drop_getD zMail (by omega)]
       simp [szMails, szT, *, -List.getD_eq_getElem?_getD]
     · skip
       refine D ?_
       refine lp_next (i + 1, szMail (xs.getD i zMail) m) [] ?_ ?_ ?_
       · simp only [go_sem] <;> and_intros <;> first | with_reducible exact rfl | (first | omega | (simp [szL, *]; done))
       · refine ⟨by omega, (szMail_lo _ _ hm2).1, (szMail_lo _ _ hm2).2, ?_⟩
         rw [he, drop_getD zMail (by omega)]
         simp [szMails, szT, *, -List.getD_eq_getElem?_getD]
       · try dsimp only
         omega
   · skip
     obtain rfl : i = xs.length := by omega
     refine D ?_
     refine E ?_
     first
     | exact trivial
     | rw [szMs, szT, if_neg (by unfold szL; split <;> omega), he]
       simp [szMails]
end Go.H
end
section
set_option maxRecDepth 100000
set_option maxHeartbeats 4000000
set_option linter.unusedVariables false
set_option linter.unusedSimpArgs false
namespace Go.H
open Go Go.Proofs.Tryz
variable [Inv prog]
theorem s_laws_szWonS (rows : List (List T)) (l : Int) (h0 : -1 ≤ l) (h1 : l ≤ 1048576) (hl : rows.length ≤ 9223372036854775807) : SemX prog 48 [aT (.sl false 2 rows), aI l] [] [rI (szL rows.length l)] [] := by
 refine goF [] [] [] func48 ?_
 refine D ?_
 refine cC (fun c0 => ?_) (fun c0 => ?_)
 · skip
   refine D ?_
   refine E ?_
   first
   | exact trivial
   | simp [szL, *]
 · skip
   refine D ?_
   refine E ?_
   first
   | exact trivial
   | simp [szL, *]
end Go.H
end
section
set_option maxRecDepth 100000
set_option maxHeartbeats 4000000
set_option linter.unusedVariables false
set_option linter.unusedSimpArgs false
namespace Go.H
open Go Go.Proofs.Tryz
variable [Inv prog]
theorem s_laws_szSealS (rows : List (List T)) (l : Int) (h0 : -1 ≤ l) (h1 : l ≤ 1048576) (hl : rows.length ≤ 9223372036854775807) : SemX prog 49 [aT (.sl false 10 rows), aI l] [] [rI (szL rows.length l)] [] := by
 refine goF [] [] [] func49 ?_
 refine D ?_
 refine cC (fun c0 => ?_) (fun c0 => ?_)
 · skip
   refine D ?_
   refine E ?_
   first
   | exact trivial
   | simp [szL, *]
 · skip
   refine D ?_
   refine E ?_
   first
   | exact trivial
   | simp [szL, *]
end Go.H
end
section
set_option maxRecDepth 100000
set_option maxHeartbeats 4000000
set_option linter.unusedVariables false
set_option linter.unusedSimpArgs false
namespace Go.H
open Go Go.Proofs.Tryz
variable [Inv prog]
theorem s_laws_szCluster (x : Cluster) (l : Int) (h0 : -1 ≤ l) (h1 : l ≤ 1048576) (hn : x.nodes.length ≤ 9223372036854775807) (hN : ∀ i < x.nodes.length, (x.nodes.getD i zNode).log.length ≤ 9223372036854775807 ∧ (x.nodes.getD i zNode).votes.length ≤ 9223372036854775807 ∧ (x.nodes.getD i zNode).next.length ≤ 9223372036854775807 ∧ (x.nodes.getD i zNode).match_.length ≤ 9223372036854775807) (hm : x.mails.length ≤ 9223372036854775807) (hM : ∀ i < x.mails.length, (x.mails.getD i zMail).entries.length ≤ 9223372036854775807) (hw : x.wins.length ≤ 9223372036854775807) (hs : x.seals.length ≤ 9223372036854775807) : SemX prog 11 [aS (eCluster false x), aI l] [] [rI (szCluster x l)] [] := by
 refine goF [] [] [] func11 ?_
 refine D ?_
 refine kR (s_laws_szNodeS x.nodes l h0 h1 hn hN) ?_
 refine D ?_
 refine cC (fun c0 => ?_) (fun c0 => ?_)
 · skip
   refine D ?_
   refine E ?_
   first
   | exact trivial
   | simp [szCluster, szT, *]
 · skip
   refine D ?_
   refine kR (s_laws_szMailS x.mails (szNs x.nodes l) (szNs_lo x.nodes l h1).1 (szNs_lo x.nodes l h1).2 hm hM) ?_
   refine D ?_
   refine cC (fun c1 => ?_) (fun c1 => ?_)
   · skip
     refine D ?_
     refine E ?_
     first
     | exact trivial
     | simp [szCluster, szT, *]
   · skip
     refine D ?_
     refine kR (s_laws_szWonS (x.wins.map eWon) (szMs x.mails (szNs x.nodes l)) (szMs_lo x.mails _ (szNs_lo x.nodes l h1).2).1 (szMs_lo x.mails _ (szNs_lo x.nodes l h1).2).2 (by simp only [List.length_map]; omega)) ?_
     refine D ?_
     refine cC (fun c2 => ?_) (fun c2 => ?_)
     · skip
       refine D ?_
       refine E ?_
       first
       | exact trivial
       | simp [szCluster, szT, *]
     · skip
       refine D ?_
       refine kR (s_laws_szSealS (x.seals.map eSeal) (szL x.wins.length (szMs x.mails (szNs x.nodes l))) (szL_lo _ _) (szL_hi (szMs_lo x.mails _ (szNs_lo x.nodes l h1).2).2 (by omega)) (by simp only [List.length_map]; omega)) ?_
       refine D ?_
       refine cC (fun c3 => ?_) (fun c3 => ?_)
       · skip
         refine D ?_
         refine E ?_
         first
         | exact trivial
         | simp [szCluster, szT, *]
       · skip
         refine D ?_
         refine E ?_
         first
         | exact trivial
         | simp [szCluster, szT, *]
end Go.H
end
section
set_option maxRecDepth 100000
set_option maxHeartbeats 4000000
set_option linter.unusedVariables false
set_option linter.unusedSimpArgs false
namespace Go.H
open Go Go.Proofs.Tryz
variable [Inv prog]
theorem s_laws_toCmd (x : Cmd) : SemX prog 40 [aS (eCmd x)] [] [.agg (eCmd x)] [] := by
 refine goF [] [] [] func40 ?_
 refine D ?_
 exact E trivial
end Go.H
end
section
set_option maxRecDepth 100000
set_option maxHeartbeats 4000000
set_option linter.unusedVariables false
set_option linter.unusedSimpArgs false
namespace Go.H
open Go Go.Proofs.Tryz
variable [Inv prog]
theorem s_laws_toEntry (x : Entry) : SemX prog 145 [aS (eEntry x)] [] [.agg (eEntry x)] [] := by
 refine goF [] [] [] func145 ?_
 refine D ?_
 refine kR (s_laws_toCmd x.cmd) ?_
 refine D ?_
 exact E trivial
end Go.H
end
section
set_option maxRecDepth 100000
set_option maxHeartbeats 4000000
set_option linter.unusedVariables false
set_option linter.unusedSimpArgs false
namespace Go.H
open Go Go.Proofs.Tryz
variable [Inv prog]
theorem s_laws_toEntryS (xs : List Entry) (hl : xs.length ≤ 2097152)  : SemX prog 83 [aT (.sl false 9 (xs.map eEntry))] [] [.one (.sl true 9 (xs.map eEntry))] [] := by
 refine goF [] [] [] func83 ?_
 refine D ?_
 refine L (α := Nat) (fun x => [(4, .int .i64 x)]) (fun x => [(32768, .arr ⟨9, (xs.take x).map eEntry ++ List.replicate (xs.length - x) dEntry, x + 1, none⟩)]) (fun x => xs.length - x) (fun x => x ≤ xs.length) 0 [] (fun x hI => ?_) (by simp only [go_sem] <;> and_intros <;> first | with_reducible exact rfl | (first | omega | (simp [dEntry, eEntry, zEntry, zCmd, zEntry]; done)))
 refine D ?_
 refine cC (fun c0 => ?_) (fun c0 => ?_)
 · skip
   have hg := getD_bld (l := (xs.take x).map eEntry) (n := xs.length - x) (d := dEntry) (i := x) (by simp; omega)
   have hA := hg
   refine D ?_
   refine kR (s_laws_toEntry (xs.getD x zEntry)) ?_
   refine D ?_
   refine lp_next (x+1) [] ?_ ?_ ?_
   · simp only [go_sem, hA] <;> and_intros <;> first | with_reducible exact rfl | (first | omega | (rw [← bld_step eEntry zEntry dEntry (by omega)]; simp only [eEntry]))
   · omega
   · omega
 · skip
   obtain rfl : x = xs.length := by omega
   refine D ?_
   exact E trivial
end Go.H
end
section
set_option maxRecDepth 100000
set_option maxHeartbeats 4000000
set_option linter.unusedVariables false
set_option linter.unusedSimpArgs false
namespace Go.H
open Go Go.Proofs.Tryz
variable [Inv prog]
theorem s_laws_toInt64S (xs : List Int) (hl : xs.length ≤ 2097152)  : SemX prog 84 [aT (.sl false 1 (xs.map eI_i64))] [] [.one (.sl true 1 (xs.map eI_i64))] [] := by
 refine goF [] [] [] func84 ?_
 refine D ?_
 refine L (α := Nat) (fun x => [(4, .int .i64 x)]) (fun x => [(32768, .arr ⟨1, (xs.take x).map eI_i64 ++ List.replicate (xs.length - x) dI_i64, x + 1, none⟩)]) (fun x => xs.length - x) (fun x => x ≤ xs.length) 0 [] (fun x hI => ?_) (by simp only [go_sem] <;> and_intros <;> first | with_reducible exact rfl | (first | omega | (simp [dI_i64, eI_i64, zI_i64, zCmd, zEntry]; done)))
 refine D ?_
 refine cC (fun c0 => ?_) (fun c0 => ?_)
 · skip
   have hg := getD_bld (l := (xs.take x).map eI_i64) (n := xs.length - x) (d := dI_i64) (i := x) (by simp; omega)
   have hA := hg
   refine D ?_
   refine lp_next (x+1) [] ?_ ?_ ?_
   · simp only [go_sem, hA] <;> and_intros <;> first | with_reducible exact rfl | (first | omega | (rw [← bld_step eI_i64 zI_i64 dI_i64 (by omega)]; simp only [eI_i64]))
   · omega
   · omega
 · skip
   obtain rfl : x = xs.length := by omega
   refine D ?_
   exact E trivial
end Go.H
end
section
set_option maxRecDepth 100000
set_option maxHeartbeats 4000000
set_option linter.unusedVariables false
set_option linter.unusedSimpArgs false
namespace Go.H
open Go Go.Proofs.Tryz
variable [Inv prog]
theorem s_laws_toNode (x : Node) (hx : limN 2097152 x) : SemX prog 27 [aS (eNode false x)] [] [.agg (eNode true x)] [] := by
 refine goF [] [] [] func27 ?_
 refine D ?_
 refine kR (s_laws_toEntryS x.log hx.1) ?_
 refine D ?_
 refine kR (s_laws_toInt64S x.votes hx.2.1) ?_
 refine D ?_
 refine kR (s_laws_toInt64S x.next hx.2.2.1) ?_
 refine D ?_
 refine kR (s_laws_toInt64S x.match_ hx.2.2.2) ?_
 refine D ?_
 exact E trivial
end Go.H
end
section
set_option maxRecDepth 100000
set_option maxHeartbeats 4000000
set_option linter.unusedVariables false
set_option linter.unusedSimpArgs false
namespace Go.H
open Go Go.Proofs.Tryz
variable [Inv prog]
theorem s_laws_toNodeS (xs : List Node) (hl : xs.length ≤ 2097152) (hm : ∀ y ∈ xs, limN 2097152 y) : SemX prog 54 [aT (.sl false 10 (xs.map (eNode false)))] [] [.one (.sl true 10 (xs.map (eNode true)))] [] := by
 refine goF [] [] [] func54 ?_
 refine D ?_
 refine L (α := Nat) (fun x => [(4, .int .i64 x)]) (fun x => [(32768, .arr ⟨10, (xs.take x).map (eNode true) ++ List.replicate (xs.length - x) (dNode true), x + 1, none⟩)]) (fun x => xs.length - x) (fun x => x ≤ xs.length) 0 [] (fun x hI => ?_) (by simp only [go_sem] <;> and_intros <;> first | with_reducible exact rfl | (first | omega | (simp [dNode, eNode, zNode, zCmd, zEntry]; done)))
 refine D ?_
 refine cC (fun c0 => ?_) (fun c0 => ?_)
 · skip
   have hg := getD_bld (l := (xs.take x).map (eNode true)) (n := xs.length - x) (d := (dNode true)) (i := x) (by simp; omega)
   have hA := hg
   refine D ?_
   refine kR (s_laws_toNode (xs.getD x zNode) ((all_getD zNode).2 hm x (by omega))) ?_
   refine D ?_
   refine lp_next (x+1) [] ?_ ?_ ?_
   · simp only [go_sem, hA] <;> and_intros <;> first | with_reducible exact rfl | (first | omega | (rw [← bld_step (eNode true) zNode (dNode true) (by omega)]; simp only [eNode]))
   · omega
   · omega
 · skip
   obtain rfl : x = xs.length := by omega
   refine D ?_
   exact E trivial
end Go.H
end
section
set_option maxRecDepth 100000
set_option maxHeartbeats 4000000
set_option linter.unusedVariables false
set_option linter.unusedSimpArgs false
namespace Go.H
open Go Go.Proofs.Tryz
variable [Inv prog]
theorem s_laws_toMail (x : Mail) (hx : limM 2097152 x) : SemX prog 28 [aS (eMail false x)] [] [.agg (eMail true x)] [] := by
 refine goF [] [] [] func28 ?_
 refine D ?_
 refine kR (s_laws_toEntryS x.entries hx) ?_
 refine D ?_
 exact E trivial
end Go.H
end
section
set_option maxRecDepth 100000
set_option maxHeartbeats 4000000
set_option linter.unusedVariables false
set_option linter.unusedSimpArgs false
namespace Go.H
open Go Go.Proofs.Tryz
variable [Inv prog]
theorem s_laws_toMailS (xs : List Mail) (hl : xs.length ≤ 2097152) (hm : ∀ y ∈ xs, limM 2097152 y) : SemX prog 55 [aT (.sl false 9 (xs.map (eMail false)))] [] [.one (.sl true 9 (xs.map (eMail true)))] [] := by
 refine goF [] [] [] func55 ?_
 refine D ?_
 refine L (α := Nat) (fun x => [(4, .int .i64 x)]) (fun x => [(32768, .arr ⟨9, (xs.take x).map (eMail true) ++ List.replicate (xs.length - x) (dMail true), x + 1, none⟩)]) (fun x => xs.length - x) (fun x => x ≤ xs.length) 0 [] (fun x hI => ?_) (by simp only [go_sem] <;> and_intros <;> first | with_reducible exact rfl | (first | omega | (simp [dMail, eMail, zMail, zCmd, zEntry]; done)))
 refine D ?_
 refine cC (fun c0 => ?_) (fun c0 => ?_)
 · skip
   have hg := getD_bld (l := (xs.take x).map (eMail true)) (n := xs.length - x) (d := (dMail true)) (i := x) (by simp; omega)
   have hA := hg
   refine D ?_
   refine kR (s_laws_toMail (xs.getD x zMail) ((all_getD zMail).2 hm x (by omega))) ?_
   refine D ?_
   refine lp_next (x+1) [] ?_ ?_ ?_
   · simp only [go_sem, hA] <;> and_intros <;> first | with_reducible exact rfl | (first | omega | (rw [← bld_step (eMail true) zMail (dMail true) (by omega)]; simp only [eMail]))
   · omega
   · omega
 · skip
   obtain rfl : x = xs.length := by omega
   refine D ?_
   exact E trivial
end Go.H
end
section
set_option maxRecDepth 100000
set_option maxHeartbeats 4000000
set_option linter.unusedVariables false
set_option linter.unusedSimpArgs false
namespace Go.H
open Go Go.Proofs.Tryz
variable [Inv prog]
theorem s_laws_toWon (x : Won) : SemX prog 112 [aS (eWon x)] [] [.agg (eWon x)] [] := by
 refine goF [] [] [] func112 ?_
 refine D ?_
 exact E trivial
end Go.H
end
section
set_option maxRecDepth 100000
set_option maxHeartbeats 4000000
set_option linter.unusedVariables false
set_option linter.unusedSimpArgs false
namespace Go.H
open Go Go.Proofs.Tryz
variable [Inv prog]
theorem s_laws_toWonS (xs : List Won) (hl : xs.length ≤ 2097152)  : SemX prog 56 [aT (.sl false 2 (xs.map eWon))] [] [.one (.sl true 2 (xs.map eWon))] [] := by
 refine goF [] [] [] func56 ?_
 refine D ?_
 refine L (α := Nat) (fun x => [(4, .int .i64 x)]) (fun x => [(32768, .arr ⟨2, (xs.take x).map eWon ++ List.replicate (xs.length - x) dWon, x + 1, none⟩)]) (fun x => xs.length - x) (fun x => x ≤ xs.length) 0 [] (fun x hI => ?_) (by simp only [go_sem] <;> and_intros <;> first | with_reducible exact rfl | (first | omega | (simp [dWon, eWon, zWon, zCmd, zEntry]; done)))
 refine D ?_
 refine cC (fun c0 => ?_) (fun c0 => ?_)
 · skip
   have hg := getD_bld (l := (xs.take x).map eWon) (n := xs.length - x) (d := dWon) (i := x) (by simp; omega)
   have hA := hg
   refine D ?_
   refine kR (s_laws_toWon (xs.getD x zWon)) ?_
   refine D ?_
   refine lp_next (x+1) [] ?_ ?_ ?_
   · simp only [go_sem, hA] <;> and_intros <;> first | with_reducible exact rfl | (first | omega | (rw [← bld_step eWon zWon dWon (by omega)]; simp only [eWon]))
   · omega
   · omega
 · skip
   obtain rfl : x = xs.length := by omega
   refine D ?_
   exact E trivial
end Go.H
end
section
set_option maxRecDepth 100000
set_option maxHeartbeats 4000000
set_option linter.unusedVariables false
set_option linter.unusedSimpArgs false
namespace Go.H
open Go Go.Proofs.Tryz
variable [Inv prog]
theorem s_laws_toSeal (x : Seal) : SemX prog 113 [aS (eSeal x)] [] [.agg (eSeal x)] [] := by
 refine goF [] [] [] func113 ?_
 refine D ?_
 refine kR (s_laws_toEntry x.entry) ?_
 refine D ?_
 exact E trivial
end Go.H
end
section
set_option maxRecDepth 100000
set_option maxHeartbeats 4000000
set_option linter.unusedVariables false
set_option linter.unusedSimpArgs false
namespace Go.H
open Go Go.Proofs.Tryz
variable [Inv prog]
theorem s_laws_toSealS (xs : List Seal) (hl : xs.length ≤ 2097152)  : SemX prog 57 [aT (.sl false 10 (xs.map eSeal))] [] [.one (.sl true 10 (xs.map eSeal))] [] := by
 refine goF [] [] [] func57 ?_
 refine D ?_
 refine L (α := Nat) (fun x => [(4, .int .i64 x)]) (fun x => [(32768, .arr ⟨10, (xs.take x).map eSeal ++ List.replicate (xs.length - x) dSeal, x + 1, none⟩)]) (fun x => xs.length - x) (fun x => x ≤ xs.length) 0 [] (fun x hI => ?_) (by simp only [go_sem] <;> and_intros <;> first | with_reducible exact rfl | (first | omega | (simp [dSeal, eSeal, zSeal, zCmd, zEntry]; done)))
 refine D ?_
 refine cC (fun c0 => ?_) (fun c0 => ?_)
 · skip
   have hg := getD_bld (l := (xs.take x).map eSeal) (n := xs.length - x) (d := dSeal) (i := x) (by simp; omega)
   have hA := hg
   refine D ?_
   refine kR (s_laws_toSeal (xs.getD x zSeal)) ?_
   refine D ?_
   refine lp_next (x+1) [] ?_ ?_ ?_
   · simp only [go_sem, hA] <;> and_intros <;> first | with_reducible exact rfl | (first | omega | (rw [← bld_step eSeal zSeal dSeal (by omega)]; simp only [eSeal]))
   · omega
   · omega
 · skip
   obtain rfl : x = xs.length := by omega
   refine D ?_
   exact E trivial
end Go.H
end
section
set_option maxRecDepth 100000
set_option maxHeartbeats 4000000
set_option linter.unusedVariables false
set_option linter.unusedSimpArgs false
namespace Go.H
open Go Go.Proofs.Tryz
variable [Inv prog]
theorem s_laws_toCluster (x : Cluster) (hx : limC 2097152 x) : SemX prog 13 [aS (eCluster false x)] [] [.agg (eCluster true x)] [] := by
 refine goF [] [] [] func13 ?_
 refine D ?_
 refine kR (s_laws_toNodeS x.nodes hx.1.1 hx.1.2) ?_
 refine D ?_
 refine kR (s_laws_toMailS x.mails hx.2.1.1 hx.2.1.2) ?_
 refine D ?_
 refine kR (s_laws_toWonS x.wins hx.2.2.1) ?_
 refine D ?_
 refine kR (s_laws_toSealS x.seals hx.2.2.2) ?_
 refine D ?_
 exact E trivial
end Go.H
end
section
set_option maxRecDepth 100000
set_option maxHeartbeats 4000000
set_option linter.unusedVariables false
set_option linter.unusedSimpArgs false
namespace Go.H
open Go Go.Proofs.Tryz
variable [Inv prog]
theorem s_laws_eqCmd (x : Cmd)  : SemX prog 188 [aS (eCmd x), aS (eCmd x)] [] [rB true] [] := by
 refine goF [] [] [] func188 ?_
 refine D ?_
 refine cF ?_
 refine D ?_
 refine cF ?_
 refine D ?_
 refine cF ?_
 refine D ?_
 refine cF ?_
 refine D ?_
 refine cF ?_
 refine D ?_
 refine cF ?_
 refine D ?_
 exact E trivial
end Go.H
end
section
set_option maxRecDepth 100000
set_option maxHeartbeats 4000000
set_option linter.unusedVariables false
set_option linter.unusedSimpArgs false
namespace Go.H
open Go Go.Proofs.Tryz
variable [Inv prog]
theorem s_laws_eqEntry (x : Entry)  : SemX prog 155 [aS (eEntry x), aS (eEntry x)] [] [rB true] [] := by
 refine goF [] [] [] func155 ?_
 refine D ?_
 refine cF ?_
 refine D ?_
 refine cF ?_
 refine D ?_
 refine cF ?_
 refine D ?_
 refine kR (s_laws_eqCmd x.cmd) ?_
 refine D ?_
 refine cF ?_
 refine D ?_
 exact E trivial
end Go.H
end
section
set_option maxRecDepth 100000
set_option maxHeartbeats 4000000
set_option linter.unusedVariables false
set_option linter.unusedSimpArgs false
namespace Go.H
open Go Go.Proofs.Tryz
variable [Inv prog]
theorem s_laws_eqEntryS (xs : List Entry) (hl : xs.length ≤ 2097152)  : SemX prog 92 [aT (.sl false 9 (xs.map eEntry)), aT (.sl false 9 (xs.map eEntry))] [] [rB true] [] := by
 refine goF [] [] [] func92 ?_
 refine D ?_
 refine cF ?_
 refine D ?_
 refine L (α := Nat) (fun x => [(5, .int .i64 x)]) (fun x => []) (fun x => xs.length - x) (fun x => x ≤ xs.length) 0 [] (fun x hI => ?_)
 refine D ?_
 refine cC (fun c1 => ?_) (fun c1 => ?_)
 · skip
   refine D ?_
   refine kD (s_laws_eqEntry (xs.getD x zEntry)) ?_
   refine D ?_
   refine cF ?_
   refine D ?_
   exact N (x+1) []
 · skip
   refine D ?_
   exact E trivial
end Go.H
end
section
set_option maxRecDepth 100000
set_option maxHeartbeats 4000000
set_option linter.unusedVariables false
set_option linter.unusedSimpArgs false
namespace Go.H
open Go Go.Proofs.Tryz
variable [Inv prog]
theorem s_laws_eqInt64S (xs : List Int) (hl : xs.length ≤ 2097152)  : SemX prog 93 [aT (.sl false 1 (xs.map eI_i64)), aT (.sl false 1 (xs.map eI_i64))] [] [rB true] [] := by
 refine goF [] [] [] func93 ?_
 refine D ?_
 refine cF ?_
 refine D ?_
 refine L (α := Nat) (fun x => [(5, .int .i64 x)]) (fun x => []) (fun x => xs.length - x) (fun x => x ≤ xs.length) 0 [] (fun x hI => ?_)
 refine D ?_
 refine cC (fun c1 => ?_) (fun c1 => ?_)
 · skip
   refine D ?_
   refine cF ?_
   refine D ?_
   exact N (x+1) []
 · skip
   refine D ?_
   exact E trivial
end Go.H
end
section
set_option maxRecDepth 100000
set_option maxHeartbeats 4000000
set_option linter.unusedVariables false
set_option linter.unusedSimpArgs false
namespace Go.H
open Go Go.Proofs.Tryz
variable [Inv prog]
theorem s_laws_eqNode (x : Node) (hx : limN 2097152 x) : SemX prog 31 [aS (eNode false x), aS (eNode false x)] [] [rB true] [] := by
 refine goF [] [] [] func31 ?_
 refine D ?_
 refine cF ?_
 refine D ?_
 refine cF ?_
 refine D ?_
 refine cF ?_
 refine D ?_
 refine cF ?_
 refine D ?_
 refine kR (s_laws_eqEntryS x.log hx.1) ?_
 refine D ?_
 refine cF ?_
 refine D ?_
 refine cF ?_
 refine D ?_
 refine cF ?_
 refine D ?_
 refine kR (s_laws_eqInt64S x.votes hx.2.1) ?_
 refine D ?_
 refine cF ?_
 refine D ?_
 refine kR (s_laws_eqInt64S x.next hx.2.2.1) ?_
 refine D ?_
 refine cF ?_
 refine D ?_
 refine kR (s_laws_eqInt64S x.match_ hx.2.2.2) ?_
 refine D ?_
 refine cF ?_
 refine D ?_
 exact E trivial
end Go.H
end
section
set_option maxRecDepth 100000
set_option maxHeartbeats 4000000
set_option linter.unusedVariables false
set_option linter.unusedSimpArgs false
namespace Go.H
open Go Go.Proofs.Tryz
variable [Inv prog]
theorem s_laws_eqNodeS (xs : List Node) (hl : xs.length ≤ 2097152) (hm : ∀ y ∈ xs, limN 2097152 y) : SemX prog 61 [aT (.sl false 10 (xs.map (eNode false))), aT (.sl false 10 (xs.map (eNode false)))] [] [rB true] [] := by
 refine goF [] [] [] func61 ?_
 refine D ?_
 refine cF ?_
 refine D ?_
 refine L (α := Nat) (fun x => [(5, .int .i64 x)]) (fun x => []) (fun x => xs.length - x) (fun x => x ≤ xs.length) 0 [] (fun x hI => ?_)
 refine D ?_
 refine cC (fun c1 => ?_) (fun c1 => ?_)
 · skip
   refine D ?_
   refine kD (s_laws_eqNode (xs.getD x zNode) ((all_getD zNode).2 hm x (by omega))) ?_
   refine D ?_
   refine cF ?_
   refine D ?_
   exact N (x+1) []
 · skip
   refine D ?_
   exact E trivial
end Go.H
end
section
set_option maxRecDepth 100000
set_option maxHeartbeats 4000000
set_option linter.unusedVariables false
set_option linter.unusedSimpArgs false
namespace Go.H
open Go Go.Proofs.Tryz
variable [Inv prog]
theorem s_laws_eqMail (x : Mail) (hx : limM 2097152 x) : SemX prog 32 [aS (eMail false x), aS (eMail false x)] [] [rB true] [] := by
 refine goF [] [] [] func32 ?_
 refine D ?_
 refine cF ?_
 refine D ?_
 refine cF ?_
 refine D ?_
 refine cF ?_
 refine D ?_
 refine cF ?_
 refine D ?_
 refine cF ?_
 refine D ?_
 refine cF ?_
 refine D ?_
 refine cF ?_
 refine D ?_
 refine cF ?_
 refine D ?_
 refine kR (s_laws_eqEntryS x.entries hx) ?_
 refine D ?_
 refine cF ?_
 refine D ?_
 exact E trivial
end Go.H
end
section
set_option maxRecDepth 100000
set_option maxHeartbeats 4000000
set_option linter.unusedVariables false
set_option linter.unusedSimpArgs false
namespace Go.H
open Go Go.Proofs.Tryz
variable [Inv prog]
theorem s_laws_eqMailS (xs : List Mail) (hl : xs.length ≤ 2097152) (hm : ∀ y ∈ xs, limM 2097152 y) : SemX prog 62 [aT (.sl false 9 (xs.map (eMail false))), aT (.sl false 9 (xs.map (eMail false)))] [] [rB true] [] := by
 refine goF [] [] [] func62 ?_
 refine D ?_
 refine cF ?_
 refine D ?_
 refine L (α := Nat) (fun x => [(5, .int .i64 x)]) (fun x => []) (fun x => xs.length - x) (fun x => x ≤ xs.length) 0 [] (fun x hI => ?_)
 refine D ?_
 refine cC (fun c1 => ?_) (fun c1 => ?_)
 · skip
   refine D ?_
   refine kD (s_laws_eqMail (xs.getD x zMail) ((all_getD zMail).2 hm x (by omega))) ?_
   refine D ?_
   refine cF ?_
   refine D ?_
   exact N (x+1) []
 · skip
   refine D ?_
   exact E trivial
end Go.H
end
section
set_option maxRecDepth 100000
set_option maxHeartbeats 4000000
set_option linter.unusedVariables false
set_option linter.unusedSimpArgs false
namespace Go.H
open Go Go.Proofs.Tryz
variable [Inv prog]
theorem s_laws_eqWon (x : Won)  : SemX prog 120 [aS (eWon x), aS (eWon x)] [] [rB true] [] := by
 refine goF [] [] [] func120 ?_
 refine D ?_
 refine cF ?_
 refine D ?_
 refine cF ?_
 refine D ?_
 exact E trivial
end Go.H
end
section
set_option maxRecDepth 100000
set_option maxHeartbeats 4000000
set_option linter.unusedVariables false
set_option linter.unusedSimpArgs false
namespace Go.H
open Go Go.Proofs.Tryz
variable [Inv prog]
theorem s_laws_eqWonS (xs : List Won) (hl : xs.length ≤ 2097152)  : SemX prog 63 [aT (.sl false 2 (xs.map eWon)), aT (.sl false 2 (xs.map eWon))] [] [rB true] [] := by
 refine goF [] [] [] func63 ?_
 refine D ?_
 refine cF ?_
 refine D ?_
 refine L (α := Nat) (fun x => [(5, .int .i64 x)]) (fun x => []) (fun x => xs.length - x) (fun x => x ≤ xs.length) 0 [] (fun x hI => ?_)
 refine D ?_
 refine cC (fun c1 => ?_) (fun c1 => ?_)
 · skip
   refine D ?_
   refine kD (s_laws_eqWon (xs.getD x zWon)) ?_
   refine D ?_
   refine cF ?_
   refine D ?_
   exact N (x+1) []
 · skip
   refine D ?_
   exact E trivial
end Go.H
end
section
set_option maxRecDepth 100000
set_option maxHeartbeats 4000000
set_option linter.unusedVariables false
set_option linter.unusedSimpArgs false
namespace Go.H
open Go Go.Proofs.Tryz
variable [Inv prog]
theorem s_laws_eqSeal (x : Seal)  : SemX prog 121 [aS (eSeal x), aS (eSeal x)] [] [rB true] [] := by
 refine goF [] [] [] func121 ?_
 refine D ?_
 refine cF ?_
 refine D ?_
 refine kR (s_laws_eqEntry x.entry) ?_
 refine D ?_
 refine cF ?_
 refine D ?_
 exact E trivial
end Go.H
end
section
set_option maxRecDepth 100000
set_option maxHeartbeats 4000000
set_option linter.unusedVariables false
set_option linter.unusedSimpArgs false
namespace Go.H
open Go Go.Proofs.Tryz
variable [Inv prog]
theorem s_laws_eqSealS (xs : List Seal) (hl : xs.length ≤ 2097152)  : SemX prog 64 [aT (.sl false 10 (xs.map eSeal)), aT (.sl false 10 (xs.map eSeal))] [] [rB true] [] := by
 refine goF [] [] [] func64 ?_
 refine D ?_
 refine cF ?_
 refine D ?_
 refine L (α := Nat) (fun x => [(5, .int .i64 x)]) (fun x => []) (fun x => xs.length - x) (fun x => x ≤ xs.length) 0 [] (fun x hI => ?_)
 refine D ?_
 refine cC (fun c1 => ?_) (fun c1 => ?_)
 · skip
   refine D ?_
   refine kD (s_laws_eqSeal (xs.getD x zSeal)) ?_
   refine D ?_
   refine cF ?_
   refine D ?_
   exact N (x+1) []
 · skip
   refine D ?_
   exact E trivial
end Go.H
end
section
set_option maxRecDepth 100000
set_option maxHeartbeats 4000000
set_option linter.unusedVariables false
set_option linter.unusedSimpArgs false
namespace Go.H
open Go Go.Proofs.Tryz
variable [Inv prog]
theorem s_laws_eqCluster (x : Cluster) (hx : limC 2097152 x) : SemX prog 16 [aS (eCluster false x), aS (eCluster false x)] [] [rB true] [] := by
 refine goF [] [] [] func16 ?_
 refine D ?_
 refine kR (s_laws_eqNodeS x.nodes hx.1.1 hx.1.2) ?_
 refine D ?_
 refine cF ?_
 refine D ?_
 refine kR (s_laws_eqMailS x.mails hx.2.1.1 hx.2.1.2) ?_
 refine D ?_
 refine cF ?_
 refine D ?_
 refine kR (s_laws_eqWonS x.wins hx.2.2.1) ?_
 refine D ?_
 refine cF ?_
 refine D ?_
 refine kR (s_laws_eqSealS x.seals hx.2.2.2) ?_
 refine D ?_
 refine cF ?_
 refine D ?_
 exact E trivial
end Go.H
end
section
set_option maxRecDepth 100000
set_option maxHeartbeats 4000000
set_option linter.unusedVariables false
set_option linter.unusedSimpArgs false
namespace Go.H
open Go Go.Proofs.Tryz
variable [Inv prog]
theorem s_laws_eqClusterResult (x : ClusterResult) (hx : limC 2097152 x.cluster) : SemX prog 15 [aS (eClusterResult false x), aS (eClusterResult false x)] [] [rB true] [] := by
 refine goF [] [] [] func15 ?_
 refine D ?_
 refine cF ?_
 refine D ?_
 refine kR (s_laws_eqCluster x.cluster hx) ?_
 refine D ?_
 refine cF ?_
 refine D ?_
 exact E trivial
end Go.H
end
section
set_option maxRecDepth 100000
set_option maxHeartbeats 4000000
set_option linter.unusedVariables false
set_option linter.unusedSimpArgs false
namespace Go.H
open Go Go.Proofs.Tryz
variable [Inv prog]
section
attribute [local go_sem] List.set_set mkL_length
theorem s_laws_markEntryS (xs : List Entry) (k : Int) (hk : 0 ≤ k) (hl : xs.length ≤ 2097152) (hb : mkK sE xs k ≤ 9000000000000000000) : SemX prog 94 [.one (.arr 0), aI k] [.arr 9 (xs.map eEntry)] [rI (mkK sE xs k)] [.arr 9 ((mkL mE sE xs k).map eEntry)] := by
 refine goF [] [] [] func94 ?_
 refine D ?_
 refine L (α := Nat) (fun x => [(1, .int .i64 (mkK sE (xs.take x) k)), (5, .int .i64 x)]) (fun x => [(1000000, .arr ⟨9, (mkL mE sE (xs.take x) k ++ xs.drop x).map eEntry, 1 + 9 * x, none⟩)]) (fun x => xs.length - x) (fun x => x ≤ xs.length) 0 [] (fun x hI => ?_) (by simp only [go_sem] <;> and_intros <;> first | with_reducible exact rfl | (first | omega | (simp [mkL, mkK]; done)))
 refine D ?_
 refine cC (fun c0 => ?_) (fun c0 => ?_)
 · skip
   have hat := mkK_at sE_up zEntry (xs := xs) (i := x) (by omega) hb
   simp only [sE] at hat
   have hg : ∀ r, (((mkL mE sE (xs.take x) k ++ xs.drop x).map eEntry).set x r).getD x dEntry = r := fun r => getD_set_self (by simp [mkL_length]; omega) r _
   have hA := And.intro hg ((mk_getD mE sE zEntry k (show x < xs.length by omega)))
   refine D ?_
   refine lp_next (x+1) [] ?_ ?_ ?_
   · simp only [go_sem, hA] <;> and_intros <;> first | with_reducible exact rfl | (first | omega | (refine int_eq ?_; rw [mkK_succ sE zEntry (by omega)]; rfl) | (refine arr_eq ?_ (by omega); rw [← mk_step eEntry mE sE zEntry (by omega)]; simp only [eEntry, mE, mE, mC]))
   · omega
   · omega
 · skip
   obtain rfl : x = xs.length := by omega
   refine D ?_
   refine E ?_
   first
   | exact trivial
   | simp only [go_sem, List.drop_length, mkL_length]; done
   | try simp only [go_sem, List.drop_length, mkL_length]
     simp [mkL_length]
end
end Go.H
end
section
set_option maxRecDepth 100000
set_option maxHeartbeats 4000000
set_option linter.unusedVariables false
set_option linter.unusedSimpArgs false
namespace Go.H
open Go Go.Proofs.Tryz
variable [Inv prog]
section
attribute [local go_sem] List.set_set mkL_length
theorem s_laws_markInt64S (xs : List Int) (k : Int) (hk : 0 ≤ k) (hl : xs.length ≤ 2097152) (hb : mkK sI xs k ≤ 9000000000000000000) : SemX prog 95 [.one (.arr 0), aI k] [.arr 1 (xs.map eI_i64)] [rI (mkK sI xs k)] [.arr 1 ((mkL mI sI xs k).map eI_i64)] := by
 refine goF [] [] [] func95 ?_
 refine D ?_
 refine L (α := Nat) (fun x => [(1, .int .i64 (mkK sI (xs.take x) k)), (5, .int .i64 x)]) (fun x => [(1000000, .arr ⟨1, (mkL mI sI (xs.take x) k ++ xs.drop x).map eI_i64, 1 + 1 * x, none⟩)]) (fun x => xs.length - x) (fun x => x ≤ xs.length) 0 [] (fun x hI => ?_) (by simp only [go_sem] <;> and_intros <;> first | with_reducible exact rfl | (first | omega | (simp [mkL, mkK]; done)))
 refine D ?_
 refine cC (fun c0 => ?_) (fun c0 => ?_)
 · skip
   have hat := mkK_at sI_up zI_i64 (xs := xs) (i := x) (by omega) hb
   simp only [sI] at hat
   have hg : ∀ r, (((mkL mI sI (xs.take x) k ++ xs.drop x).map eI_i64).set x r).getD x dI_i64 = r := fun r => getD_set_self (by simp [mkL_length]; omega) r _
   have hA := And.intro hg ((mk_getD mI sI zI_i64 k (show x < xs.length by omega)))
   refine D ?_
   refine lp_next (x+1) [] ?_ ?_ ?_
   · simp only [go_sem, hA] <;> and_intros <;> first | with_reducible exact rfl | (first | omega | (refine int_eq ?_; rw [mkK_succ sI zI_i64 (by omega)]; rfl) | (refine arr_eq ?_ (by omega); rw [← mk_step eI_i64 mI sI zI_i64 (by omega)]; simp only [eI_i64, mI, mE, mC]))
   · omega
   · omega
 · skip
   obtain rfl : x = xs.length := by omega
   refine D ?_
   refine E ?_
   first
   | exact trivial
   | simp only [go_sem, List.drop_length, mkL_length]; done
   | try simp only [go_sem, List.drop_length, mkL_length]
     simp [mkL_length]
end
end Go.H
end
section
set_option maxRecDepth 100000
set_option maxHeartbeats 4000000
set_option linter.unusedVariables false
set_option linter.unusedSimpArgs false
namespace Go.H
open Go Go.Proofs.Tryz
variable [Inv prog]
section
attribute [local go_sem] List.set_set mkL_length
theorem s_laws_markNodeS (xs : List Node) (k : Int) (hk : 0 ≤ k) (hl : xs.length ≤ 2097152) (hb : mkK sN xs k ≤ 9000000000000000000) (hn : ∀ y ∈ xs, limN 2097152 y) : SemX prog 65 [.one (.arr 0), aI k] [.arr 10 (xs.map (eNode true))] [rI (mkK sN xs k)] [.arr 10 ((mkL mN sN xs k).map (eNode true))] := by
 refine goF [(90, ⟨some 3, some 184320, none, none⟩), (132, ⟨some 3, some 270336, none, none⟩), (146, ⟨some 3, some 299008, none, none⟩), (160, ⟨some 3, some 327680, none, none⟩)] [] [] func65 ?_
 refine D ?_
 refine L (α := Nat) (fun x => [(1, .int .i64 (mkK sN (xs.take x) k)), (5, .int .i64 x)]) (fun x => [(1000000, .arr ⟨10, (mkL mN sN (xs.take x) k ++ xs.drop x).map (eNode true), 1 + 14 * x, none⟩)]) (fun x => xs.length - x) (fun x => x ≤ xs.length) 0 [] (fun x hI => ?_) (by simp only [go_sem] <;> and_intros <;> first | with_reducible exact rfl | (first | omega | (simp [mkL, mkK]; done)))
 refine D ?_
 refine cC (fun c0 => ?_) (fun c0 => ?_)
 · skip
   have hat := mkK_at sN_up zNode (xs := xs) (i := x) (by omega) hb
   simp only [sN] at hat
   have hg : ∀ r, (((mkL mN sN (xs.take x) k ++ xs.drop x).map (eNode true)).set x r).getD x (dNode true) = r := fun r => getD_set_self (by simp [mkL_length]; omega) r _
   simp only [kN4] at hat
   have u4 := Int.le_trans (mkK_mono sI_up _ _) hat.2
   have u3 := Int.le_trans (mkK_mono sI_up _ _) u4
   have u2 := Int.le_trans (mkK_mono sI_up _ _) u3
   have u1 : mkK sE (xs.getD x zNode).log (mkK sN (xs.take x) k + 1 + 1 + 1 + 1) ≤ 9000000000000000000 := by omega
   have u0 := Int.le_trans (mkK_mono sE_up _ _) u1
   have v1 := mkK_mono sE_up (xs.getD x zNode).log (mkK sN (xs.take x) k + 1 + 1 + 1 + 1)
   have v2 := mkK_mono sI_up (xs.getD x zNode).votes (mkK sE (xs.getD x zNode).log (mkK sN (xs.take x) k + 1 + 1 + 1 + 1) + 1 + 1)
   have v3 := mkK_mono sI_up (xs.getD x zNode).next (mkK sI (xs.getD x zNode).votes (mkK sE (xs.getD x zNode).log (mkK sN (xs.take x) k + 1 + 1 + 1 + 1) + 1 + 1))
   have hA := And.intro hg ((mk_getD mN sN zNode k (show x < xs.length by omega)))
   refine D ?_
   refine RW_callBN 44 (dNode true) (by kernel_rfl) (s_laws_markEntryS (xs.getD x zNode).log _ (by omega) (hn _ (getD_mem zNode (by omega))).1 u1) true [184320] [] [] rfl rfl (by simp only [go_sem, hA] <;> and_intros <;> first | with_reducible exact rfl | omega | with_reducible trivial | (intros; simp_all; done) | grind) (by exact rfl) (by simp only [go_sem, hA] <;> and_intros <;> first | with_reducible exact rfl | omega | with_reducible trivial | (intros; simp_all; done) | grind) (by first | rfl | (simp only [go_sem, hA]; done)) (by simp only [go_sem, hA]; exact rfl) ?_
   refine D ?_
   refine RW_callBN 65 (dNode true) (by kernel_rfl) (s_laws_markInt64S (xs.getD x zNode).votes _ (by omega) (hn _ (getD_mem zNode (by omega))).2.1 u3) true [270336] [] [] rfl rfl (by simp only [go_sem, hA] <;> and_intros <;> first | with_reducible exact rfl | omega | with_reducible trivial | (intros; simp_all; done) | grind) (by exact rfl) (by simp only [go_sem, hA] <;> and_intros <;> first | with_reducible exact rfl | omega | with_reducible trivial | (intros; simp_all; done) | grind) (by first | rfl | (simp only [go_sem, hA]; done)) (by simp only [go_sem, hA]; exact rfl) ?_
   refine D ?_
   refine RW_callBN 72 (dNode true) (by kernel_rfl) (s_laws_markInt64S (xs.getD x zNode).next _ (by omega) (hn _ (getD_mem zNode (by omega))).2.2.1 u4) true [299008] [] [] rfl rfl (by simp only [go_sem, hA] <;> and_intros <;> first | with_reducible exact rfl | omega | with_reducible trivial | (intros; simp_all; done) | grind) (by exact rfl) (by simp only [go_sem, hA] <;> and_intros <;> first | with_reducible exact rfl | omega | with_reducible trivial | (intros; simp_all; done) | grind) (by first | rfl | (simp only [go_sem, hA]; done)) (by simp only [go_sem, hA]; exact rfl) ?_
   refine D ?_
   refine RW_callBN 79 (dNode true) (by kernel_rfl) (s_laws_markInt64S (xs.getD x zNode).match_ _ (by omega) (hn _ (getD_mem zNode (by omega))).2.2.2 hat.2) true [327680] [] [] rfl rfl (by simp only [go_sem, hA] <;> and_intros <;> first | with_reducible exact rfl | omega | with_reducible trivial | (intros; simp_all; done) | grind) (by exact rfl) (by simp only [go_sem, hA] <;> and_intros <;> first | with_reducible exact rfl | omega | with_reducible trivial | (intros; simp_all; done) | grind) (by first | rfl | (simp only [go_sem, hA]; done)) (by simp only [go_sem, hA]; exact rfl) ?_
   refine D ?_
   refine lp_next (x+1) [] ?_ ?_ ?_
   · simp only [go_sem, hA] <;> and_intros <;> first | with_reducible exact rfl | (first | omega | (refine int_eq ?_; rw [mkK_succ sN zNode (by omega)]; rfl) | (refine arr_eq ?_ (by omega); rw [← mk_step (eNode true) mN sN zNode (by omega)]; simp only [eNode, mN, mE, mC, kN4]))
   · omega
   · omega
 · skip
   obtain rfl : x = xs.length := by omega
   refine D ?_
   refine E ?_
   first
   | exact trivial
   | simp only [go_sem, List.drop_length, mkL_length]; done
   | try simp only [go_sem, List.drop_length, mkL_length]
     simp [mkL_length]
end
end Go.H
end
section
set_option maxRecDepth 100000
set_option maxHeartbeats 4000000
set_option linter.unusedVariables false
set_option linter.unusedSimpArgs false
namespace Go.H
open Go Go.Proofs.Tryz
variable [Inv prog]
section
attribute [local go_sem] List.set_set mkL_length
theorem s_laws_markMailS (xs : List Mail) (k : Int) (hk : 0 ≤ k) (hl : xs.length ≤ 2097152) (hb : mkK sM xs k ≤ 9000000000000000000) (hm : ∀ y ∈ xs, limM 2097152 y) : SemX prog 66 [.one (.arr 0), aI k] [.arr 9 (xs.map (eMail true))] [rI (mkK sM xs k)] [.arr 9 ((mkL mM sM xs k).map (eMail true))] := by
 refine goF [(150, ⟨some 3, some 307200, none, none⟩)] [] [] func66 ?_
 refine D ?_
 refine L (α := Nat) (fun x => [(1, .int .i64 (mkK sM (xs.take x) k)), (5, .int .i64 x)]) (fun x => [(1000000, .arr ⟨9, (mkL mM sM (xs.take x) k ++ xs.drop x).map (eMail true), 1 + 10 * x, none⟩)]) (fun x => xs.length - x) (fun x => x ≤ xs.length) 0 [] (fun x hI => ?_) (by simp only [go_sem] <;> and_intros <;> first | with_reducible exact rfl | (first | omega | (simp [mkL, mkK]; done)))
 refine D ?_
 refine cC (fun c0 => ?_) (fun c0 => ?_)
 · skip
   have hat := mkK_at sM_up zMail (xs := xs) (i := x) (by omega) hb
   simp only [sM] at hat
   have hg : ∀ r, (((mkL mM sM (xs.take x) k ++ xs.drop x).map (eMail true)).set x r).getD x (dMail true) = r := fun r => getD_set_self (by simp [mkL_length]; omega) r _
   have hup := Int.le_trans (mkK_mono sE_up _ _) hat.2
   have hA := And.intro hg ((mk_getD mM sM zMail k (show x < xs.length by omega)))
   refine D ?_
   refine RW_callBN 74 (dMail true) (by kernel_rfl) (s_laws_markEntryS (xs.getD x zMail).entries _ (by omega) (hm _ (getD_mem zMail (by omega))) hat.2) true [307200] [] [] rfl rfl (by simp only [go_sem, hA] <;> and_intros <;> first | with_reducible exact rfl | omega | with_reducible trivial | (intros; simp_all; done) | grind) (by exact rfl) (by simp only [go_sem, hA] <;> and_intros <;> first | with_reducible exact rfl | omega | with_reducible trivial | (intros; simp_all; done) | grind) (by first | rfl | (simp only [go_sem, hA]; done)) (by simp only [go_sem, hA]; exact rfl) ?_
   refine D ?_
   refine lp_next (x+1) [] ?_ ?_ ?_
   · simp only [go_sem, hA] <;> and_intros <;> first | with_reducible exact rfl | (first | omega | (refine int_eq ?_; rw [mkK_succ sM zMail (by omega)]; rfl) | (refine arr_eq ?_ (by omega); rw [← mk_step (eMail true) mM sM zMail (by omega)]; simp only [eMail, mM, mE, mC]))
   · omega
   · omega
 · skip
   obtain rfl : x = xs.length := by omega
   refine D ?_
   refine E ?_
   first
   | exact trivial
   | simp only [go_sem, List.drop_length, mkL_length]; done
   | try simp only [go_sem, List.drop_length, mkL_length]
     simp [mkL_length]
end
end Go.H
end
section
set_option maxRecDepth 100000
set_option maxHeartbeats 4000000
set_option linter.unusedVariables false
set_option linter.unusedSimpArgs false
namespace Go.H
open Go Go.Proofs.Tryz
variable [Inv prog]
section
attribute [local go_sem] List.set_set mkL_length
theorem s_laws_markWonS (xs : List Won) (k : Int) (hk : 0 ≤ k) (hl : xs.length ≤ 2097152) (hb : mkK sW xs k ≤ 9000000000000000000) : SemX prog 67 [.one (.arr 0), aI k] [.arr 2 (xs.map eWon)] [rI (mkK sW xs k)] [.arr 2 ((mkL mW sW xs k).map eWon)] := by
 refine goF [] [] [] func67 ?_
 refine D ?_
 refine L (α := Nat) (fun x => [(1, .int .i64 (mkK sW (xs.take x) k)), (5, .int .i64 x)]) (fun x => [(1000000, .arr ⟨2, (mkL mW sW (xs.take x) k ++ xs.drop x).map eWon, 1 + 2 * x, none⟩)]) (fun x => xs.length - x) (fun x => x ≤ xs.length) 0 [] (fun x hI => ?_) (by simp only [go_sem] <;> and_intros <;> first | with_reducible exact rfl | (first | omega | (simp [mkL, mkK]; done)))
 refine D ?_
 refine cC (fun c0 => ?_) (fun c0 => ?_)
 · skip
   have hat := mkK_at sW_up zWon (xs := xs) (i := x) (by omega) hb
   simp only [sW] at hat
   have hg : ∀ r, (((mkL mW sW (xs.take x) k ++ xs.drop x).map eWon).set x r).getD x dWon = r := fun r => getD_set_self (by simp [mkL_length]; omega) r _
   have hA := And.intro hg ((mk_getD mW sW zWon k (show x < xs.length by omega)))
   refine D ?_
   refine lp_next (x+1) [] ?_ ?_ ?_
   · simp only [go_sem, hA] <;> and_intros <;> first | with_reducible exact rfl | (first | omega | (refine int_eq ?_; rw [mkK_succ sW zWon (by omega)]; rfl) | (refine arr_eq ?_ (by omega); rw [← mk_step eWon mW sW zWon (by omega)]; simp only [eWon, mW, mE, mC]))
   · omega
   · omega
 · skip
   obtain rfl : x = xs.length := by omega
   refine D ?_
   refine E ?_
   first
   | exact trivial
   | simp only [go_sem, List.drop_length, mkL_length]; done
   | try simp only [go_sem, List.drop_length, mkL_length]
     simp [mkL_length]
end
end Go.H
end
section
set_option maxRecDepth 100000
set_option maxHeartbeats 4000000
set_option linter.unusedVariables false
set_option linter.unusedSimpArgs false
namespace Go.H
open Go Go.Proofs.Tryz
variable [Inv prog]
section
attribute [local go_sem] List.set_set mkL_length
theorem s_laws_markSealS (xs : List Seal) (k : Int) (hk : 0 ≤ k) (hl : xs.length ≤ 2097152) (hb : mkK sS xs k ≤ 9000000000000000000) : SemX prog 68 [.one (.arr 0), aI k] [.arr 10 (xs.map eSeal)] [rI (mkK sS xs k)] [.arr 10 ((mkL mS sS xs k).map eSeal)] := by
 refine goF [] [] [] func68 ?_
 refine D ?_
 refine L (α := Nat) (fun x => [(1, .int .i64 (mkK sS (xs.take x) k)), (5, .int .i64 x)]) (fun x => [(1000000, .arr ⟨10, (mkL mS sS (xs.take x) k ++ xs.drop x).map eSeal, 1 + 10 * x, none⟩)]) (fun x => xs.length - x) (fun x => x ≤ xs.length) 0 [] (fun x hI => ?_) (by simp only [go_sem] <;> and_intros <;> first | with_reducible exact rfl | (first | omega | (simp [mkL, mkK]; done)))
 refine D ?_
 refine cC (fun c0 => ?_) (fun c0 => ?_)
 · skip
   have hat := mkK_at sS_up zSeal (xs := xs) (i := x) (by omega) hb
   simp only [sS] at hat
   have hg : ∀ r, (((mkL mS sS (xs.take x) k ++ xs.drop x).map eSeal).set x r).getD x dSeal = r := fun r => getD_set_self (by simp [mkL_length]; omega) r _
   have hA := And.intro hg ((mk_getD mS sS zSeal k (show x < xs.length by omega)))
   refine D ?_
   refine lp_next (x+1) [] ?_ ?_ ?_
   · simp only [go_sem, hA] <;> and_intros <;> first | with_reducible exact rfl | (first | omega | (refine int_eq ?_; rw [mkK_succ sS zSeal (by omega)]; rfl) | (refine arr_eq ?_ (by omega); rw [← mk_step eSeal mS sS zSeal (by omega)]; simp only [eSeal, mS, mE, mC]))
   · omega
   · omega
 · skip
   obtain rfl : x = xs.length := by omega
   refine D ?_
   refine E ?_
   first
   | exact trivial
   | simp only [go_sem, List.drop_length, mkL_length]; done
   | try simp only [go_sem, List.drop_length, mkL_length]
     simp [mkL_length]
end
end Go.H
end
section
set_option maxRecDepth 100000
set_option maxHeartbeats 4000000
set_option linter.unusedVariables false
set_option linter.unusedSimpArgs false
namespace Go.H
open Go Go.Proofs.Tryz
variable [Inv prog]
theorem s_laws_markCluster (x : Cluster) (hx : limC 2097152 x) (k : Int) (hk : 0 ≤ k) (hb : sCl x k ≤ 9000000000000000000) : SemX prog 17 [.agg [.arr 0, .arr 1, .arr 2, .arr 3], aI k] [.arr 10 (x.nodes.map (eNode true)), .arr 9 (x.mails.map (eMail true)), .arr 2 (x.wins.map eWon), .arr 10 (x.seals.map eSeal)] [rI (sCl x k)] [.arr 10 ((mCl x k).nodes.map (eNode true)), .arr 9 ((mCl x k).mails.map (eMail true)), .arr 2 ((mCl x k).wins.map eWon), .arr 10 ((mCl x k).seals.map eSeal)] := by
 refine goF [] [] [] func17 ?_
 simp only [sCl] at hb
 have u3 := Int.le_trans (mkK_mono sS_up _ _) hb
 have u2 := Int.le_trans (mkK_mono sW_up _ _) u3
 have u1 := Int.le_trans (mkK_mono sM_up _ _) u2
 have v1 := mkK_mono sN_up x.nodes k
 have v2 := mkK_mono sM_up x.mails (mkK sN x.nodes k)
 have v3 := mkK_mono sW_up x.wins (mkK sM x.mails (mkK sN x.nodes k))
 refine D ?_
 refine kRk [1000000] [] [] (s_laws_markNodeS x.nodes k hk hx.1.1 u1 hx.1.2) ?_
 refine D ?_
 refine kRk [1001000] [] [] (s_laws_markMailS x.mails _ (by omega) hx.2.1.1 u2 hx.2.1.2) ?_
 refine D ?_
 refine kRk [1002000] [] [] (s_laws_markWonS x.wins _ (by omega) hx.2.2.1 u3) ?_
 refine D ?_
 refine kRk [1003000] [] [] (s_laws_markSealS x.seals _ (by omega) hx.2.2.2 hb) ?_
 refine D ?_
 refine E ?_
 first
 | exact trivial
 | simp only [go_sem, mCl, sCl, mkL_length]
end Go.H
end
section
set_option maxRecDepth 100000
set_option maxHeartbeats 4000000
set_option linter.unusedVariables false
set_option linter.unusedSimpArgs false
namespace Go.H
open Go Go.Proofs.Tryz
variable [Inv prog]
theorem s_laws_markClusterResult (x : Cluster) (c : Int) (hx : limC 2097152 x) (k : Int) (hk : 0 ≤ k) (hb : sCl x k ≤ 9000000000000000000) : SemX prog 18 [.agg [.t (.int .i64 c), .arr 0, .arr 1, .arr 2, .arr 3], aI k] [.arr 10 (x.nodes.map (eNode true)), .arr 9 (x.mails.map (eMail true)), .arr 2 (x.wins.map eWon), .arr 10 (x.seals.map eSeal)] [rI (sCl x k)] [.arr 10 ((mCl x k).nodes.map (eNode true)), .arr 9 ((mCl x k).mails.map (eMail true)), .arr 2 ((mCl x k).wins.map eWon), .arr 10 ((mCl x k).seals.map eSeal)] := by
 refine goF [] [] [] func18 ?_
 refine D ?_
 refine kRk [1000000, 1001000, 1002000, 1003000] [] [] (s_laws_markCluster x hx k hk hb) ?_
 refine D ?_
 refine E ?_
 first
 | exact trivial
 | simp only [go_sem, mCl, mkL_length]
end Go.H
end
section
set_option maxRecDepth 100000
set_option maxHeartbeats 4000000
set_option linter.unusedVariables false
set_option linter.unusedSimpArgs false
namespace Go.H
open Go Go.Proofs.Tryz
variable [Inv prog]
section
attribute [local go_sem] mkL_length mE mC
theorem s_laws_heldEntryS (xs : List Entry) (k : Int) (hk : 0 ≤ k) (hl : xs.length ≤ 2097152) (hb : mkK sE xs k ≤ 9000000000000000000)  : SemX prog 156 [aT (.sl false 9 ((mkL mE sE xs k).map eEntry)), aI k] [] [rI (mkK sE xs k)] [] := by
 refine goF [] [] [] func156 ?_
 refine D ?_
 refine L (α := Nat) (fun x => [(1, .int .i64 (mkK sE (xs.take x) k)), (5, .int .i64 x)]) (fun x => []) (fun x => xs.length - x) (fun x => x ≤ xs.length) 0 [] (fun x hI => ?_) (by simp only [go_sem] <;> and_intros <;> first | with_reducible exact rfl | (first | omega | (simp [mkK]; done)))
 refine D ?_
 refine cC (fun c0 => ?_) (fun c0 => ?_)
 · skip
   have hat := mkK_at sE_up zEntry (xs := xs) (i := x) (by omega) hb
   simp only [sE] at hat
   have hg := mkL_getD mE sE zEntry k (show x < xs.length by omega)
   have hA := hg
   refine D ?_
   refine cF ?_
   refine D ?_
   refine cF ?_
   refine D ?_
   refine cF ?_
   refine D ?_
   refine cF ?_
   refine D ?_
   refine cF ?_
   refine D ?_
   refine cF ?_
   refine D ?_
   refine cF ?_
   refine D ?_
   refine cF ?_
   refine D ?_
   refine cF ?_
   refine D ?_
   refine lp_next (x+1) [] ?_ ?_ ?_
   · simp only [go_sem, hA] <;> and_intros <;> first | with_reducible exact rfl | (first | omega | (refine int_eq ?_; rw [mkK_succ sE zEntry (by omega)]; rfl))
   · omega
   · omega
 · skip
   obtain rfl : x = xs.length := by omega
   refine D ?_
   refine E ?_
   first
   | exact trivial
   | simp [mkL_length]
end
end Go.H
end
section
set_option maxRecDepth 100000
set_option maxHeartbeats 4000000
set_option linter.unusedVariables false
set_option linter.unusedSimpArgs false
namespace Go.H
open Go Go.Proofs.Tryz
variable [Inv prog]
section
attribute [local go_sem] mkL_length mM mE mC
theorem s_laws_heldMailS (xs : List Mail) (k : Int) (hk : 0 ≤ k) (hl : xs.length ≤ 2097152) (hb : mkK sM xs k ≤ 9000000000000000000) (hm : ∀ y ∈ xs, limM 2097152 y) : SemX prog 97 [aT (.sl false 9 ((mkL mM sM xs k).map (eMail false))), aI k] [] [rI (mkK sM xs k)] [] := by
 refine goF [] [] [] func97 ?_
 refine D ?_
 refine L (α := Nat) (fun x => [(1, .int .i64 (mkK sM (xs.take x) k)), (5, .int .i64 x)]) (fun x => []) (fun x => xs.length - x) (fun x => x ≤ xs.length) 0 [] (fun x hI => ?_) (by simp only [go_sem] <;> and_intros <;> first | with_reducible exact rfl | (first | omega | (simp [mkK]; done)))
 refine D ?_
 refine cC (fun c0 => ?_) (fun c0 => ?_)
 · skip
   have hat := mkK_at sM_up zMail (xs := xs) (i := x) (by omega) hb
   simp only [sM] at hat
   have hg := mkL_getD mM sM zMail k (show x < xs.length by omega)
   have hup := Int.le_trans (mkK_mono sE_up _ _) hat.2
   have v1 := mkK_mono sE_up (xs.getD x zMail).entries (mkK sM (xs.take x) k + 1 + 1 + 1 + 1 + 1 + 1 + 1 + 1)
   have hA := hg
   refine D ?_
   refine cF ?_
   refine D ?_
   refine cF ?_
   refine D ?_
   refine cF ?_
   refine D ?_
   refine cF ?_
   refine D ?_
   refine cF ?_
   refine D ?_
   refine cF ?_
   refine D ?_
   refine cF ?_
   refine D ?_
   refine cF ?_
   refine D ?_
   refine kR (s_laws_heldEntryS (xs.getD x zMail).entries _ (by omega) (hm _ (getD_mem zMail (by omega))) hat.2) ?_
   refine D ?_
   refine cC (fun c9 => ?_) (fun c9 => ?_)
   · skip
     omega
   · skip
     refine D ?_
     refine lp_next (x+1) [] ?_ ?_ ?_
     · simp only [go_sem, hA] <;> and_intros <;> first | with_reducible exact rfl | (first | omega | (refine int_eq ?_; rw [mkK_succ sM zMail (by omega)]; rfl))
     · omega
     · omega
 · skip
   obtain rfl : x = xs.length := by omega
   refine D ?_
   refine E ?_
   first
   | exact trivial
   | simp [mkL_length]
end
end Go.H
end
section
set_option maxRecDepth 100000
set_option maxHeartbeats 4000000
set_option linter.unusedVariables false
set_option linter.unusedSimpArgs false
namespace Go.H
open Go Go.Proofs.Tryz
variable [Inv prog]
section
attribute [local go_sem] mkL_length mI mE mC
theorem s_laws_heldInt64S (xs : List Int) (k : Int) (hk : 0 ≤ k) (hl : xs.length ≤ 2097152) (hb : mkK sI xs k ≤ 9000000000000000000)  : SemX prog 157 [aT (.sl false 1 ((mkL mI sI xs k).map eI_i64)), aI k] [] [rI (mkK sI xs k)] [] := by
 refine goF [] [] [] func157 ?_
 refine D ?_
 refine L (α := Nat) (fun x => [(1, .int .i64 (mkK sI (xs.take x) k)), (5, .int .i64 x)]) (fun x => []) (fun x => xs.length - x) (fun x => x ≤ xs.length) 0 [] (fun x hI => ?_) (by simp only [go_sem] <;> and_intros <;> first | with_reducible exact rfl | (first | omega | (simp [mkK]; done)))
 refine D ?_
 refine cC (fun c0 => ?_) (fun c0 => ?_)
 · skip
   have hat := mkK_at sI_up zI_i64 (xs := xs) (i := x) (by omega) hb
   simp only [sI] at hat
   have hg := mkL_getD mI sI zI_i64 k (show x < xs.length by omega)
   have hA := hg
   refine D ?_
   refine cF ?_
   refine D ?_
   refine lp_next (x+1) [] ?_ ?_ ?_
   · simp only [go_sem, hA] <;> and_intros <;> first | with_reducible exact rfl | (first | omega | (refine int_eq ?_; rw [mkK_succ sI zI_i64 (by omega)]; rfl))
   · omega
   · omega
 · skip
   obtain rfl : x = xs.length := by omega
   refine D ?_
   refine E ?_
   first
   | exact trivial
   | simp [mkL_length]
end
end Go.H
end
section
set_option maxRecDepth 100000
set_option maxHeartbeats 4000000
set_option linter.unusedVariables false
set_option linter.unusedSimpArgs false
namespace Go.H
open Go Go.Proofs.Tryz
variable [Inv prog]
section
attribute [local go_sem] mkL_length mN mE mC kN4
theorem s_laws_heldNodeS (xs : List Node) (k : Int) (hk : 0 ≤ k) (hl : xs.length ≤ 2097152) (hb : mkK sN xs k ≤ 9000000000000000000) (hn : ∀ y ∈ xs, limN 2097152 y) : SemX prog 122 [aT (.sl false 10 ((mkL mN sN xs k).map (eNode false))), aI k] [] [rI (mkK sN xs k)] [] := by
 refine goF [] [] [] func122 ?_
 refine D ?_
 refine L (α := Nat) (fun x => [(1, .int .i64 (mkK sN (xs.take x) k)), (5, .int .i64 x)]) (fun x => []) (fun x => xs.length - x) (fun x => x ≤ xs.length) 0 [] (fun x hI => ?_) (by simp only [go_sem] <;> and_intros <;> first | with_reducible exact rfl | (first | omega | (simp [mkK]; done)))
 refine D ?_
 refine cC (fun c0 => ?_) (fun c0 => ?_)
 · skip
   have hat := mkK_at sN_up zNode (xs := xs) (i := x) (by omega) hb
   simp only [sN] at hat
   have hg := mkL_getD mN sN zNode k (show x < xs.length by omega)
   simp only [kN4] at hat
   have u4 := Int.le_trans (mkK_mono sI_up _ _) hat.2
   have u3 := Int.le_trans (mkK_mono sI_up _ _) u4
   have u2 := Int.le_trans (mkK_mono sI_up _ _) u3
   have u1 : mkK sE (xs.getD x zNode).log (mkK sN (xs.take x) k + 1 + 1 + 1 + 1) ≤ 9000000000000000000 := by omega
   have u0 := Int.le_trans (mkK_mono sE_up _ _) u1
   have v1 := mkK_mono sE_up (xs.getD x zNode).log (mkK sN (xs.take x) k + 1 + 1 + 1 + 1)
   have v2 := mkK_mono sI_up (xs.getD x zNode).votes (mkK sE (xs.getD x zNode).log (mkK sN (xs.take x) k + 1 + 1 + 1 + 1) + 1 + 1)
   have v3 := mkK_mono sI_up (xs.getD x zNode).next (mkK sI (xs.getD x zNode).votes (mkK sE (xs.getD x zNode).log (mkK sN (xs.take x) k + 1 + 1 + 1 + 1) + 1 + 1))
   have v4 := mkK_mono sI_up (xs.getD x zNode).match_ (mkK sI (xs.getD x zNode).next (mkK sI (xs.getD x zNode).votes (mkK sE (xs.getD x zNode).log (mkK sN (xs.take x) k + 1 + 1 + 1 + 1) + 1 + 1)))
   have hA := hg
   refine D ?_
   refine cF ?_
   refine D ?_
   refine cF ?_
   refine D ?_
   refine cF ?_
   refine D ?_
   refine cF ?_
   refine D ?_
   refine kR (s_laws_heldEntryS (xs.getD x zNode).log _ (by omega) (hn _ (getD_mem zNode (by omega))).1 u1) ?_
   refine D ?_
   refine cC (fun c5 => ?_) (fun c5 => ?_)
   · skip
     omega
   · skip
     refine D ?_
     refine cF ?_
     refine D ?_
     refine cF ?_
     refine D ?_
     refine kR (s_laws_heldInt64S (xs.getD x zNode).votes _ (by omega) (hn _ (getD_mem zNode (by omega))).2.1 u3) ?_
     refine D ?_
     refine cC (fun c8 => ?_) (fun c8 => ?_)
     · skip
       omega
     · skip
       refine D ?_
       refine kR (s_laws_heldInt64S (xs.getD x zNode).next _ (by omega) (hn _ (getD_mem zNode (by omega))).2.2.1 u4) ?_
       refine D ?_
       refine cC (fun c9 => ?_) (fun c9 => ?_)
       · skip
         omega
       · skip
         refine D ?_
         refine kR (s_laws_heldInt64S (xs.getD x zNode).match_ _ (by omega) (hn _ (getD_mem zNode (by omega))).2.2.2 hat.2) ?_
         refine D ?_
         refine cC (fun c10 => ?_) (fun c10 => ?_)
         · skip
           omega
         · skip
           refine D ?_
           refine lp_next (x+1) [] ?_ ?_ ?_
           · simp only [go_sem, hA] <;> and_intros <;> first | with_reducible exact rfl | (first | omega | (refine int_eq ?_; rw [mkK_succ sN zNode (by omega)]; rfl))
           · omega
           · omega
 · skip
   obtain rfl : x = xs.length := by omega
   refine D ?_
   refine E ?_
   first
   | exact trivial
   | simp [mkL_length]
end
end Go.H
end
section
set_option maxRecDepth 100000
set_option maxHeartbeats 4000000
set_option linter.unusedVariables false
set_option linter.unusedSimpArgs false
namespace Go.H
open Go Go.Proofs.Tryz
variable [Inv prog]
section
attribute [local go_sem] mkL_length mW mE mC
theorem s_laws_heldWonS (xs : List Won) (k : Int) (hk : 0 ≤ k) (hl : xs.length ≤ 2097152) (hb : mkK sW xs k ≤ 9000000000000000000)  : SemX prog 123 [aT (.sl false 2 ((mkL mW sW xs k).map eWon)), aI k] [] [rI (mkK sW xs k)] [] := by
 refine goF [] [] [] func123 ?_
 refine D ?_
 refine L (α := Nat) (fun x => [(1, .int .i64 (mkK sW (xs.take x) k)), (5, .int .i64 x)]) (fun x => []) (fun x => xs.length - x) (fun x => x ≤ xs.length) 0 [] (fun x hI => ?_) (by simp only [go_sem] <;> and_intros <;> first | with_reducible exact rfl | (first | omega | (simp [mkK]; done)))
 refine D ?_
 refine cC (fun c0 => ?_) (fun c0 => ?_)
 · skip
   have hat := mkK_at sW_up zWon (xs := xs) (i := x) (by omega) hb
   simp only [sW] at hat
   have hg := mkL_getD mW sW zWon k (show x < xs.length by omega)
   have hA := hg
   refine D ?_
   refine cF ?_
   refine D ?_
   refine cF ?_
   refine D ?_
   refine lp_next (x+1) [] ?_ ?_ ?_
   · simp only [go_sem, hA] <;> and_intros <;> first | with_reducible exact rfl | (first | omega | (refine int_eq ?_; rw [mkK_succ sW zWon (by omega)]; rfl))
   · omega
   · omega
 · skip
   obtain rfl : x = xs.length := by omega
   refine D ?_
   refine E ?_
   first
   | exact trivial
   | simp [mkL_length]
end
end Go.H
end
section
set_option maxRecDepth 100000
set_option maxHeartbeats 4000000
set_option linter.unusedVariables false
set_option linter.unusedSimpArgs false
namespace Go.H
open Go Go.Proofs.Tryz
variable [Inv prog]
section
attribute [local go_sem] mkL_length mS mE mC
theorem s_laws_heldSealS (xs : List Seal) (k : Int) (hk : 0 ≤ k) (hl : xs.length ≤ 2097152) (hb : mkK sS xs k ≤ 9000000000000000000)  : SemX prog 124 [aT (.sl false 10 ((mkL mS sS xs k).map eSeal)), aI k] [] [rI (mkK sS xs k)] [] := by
 refine goF [] [] [] func124 ?_
 refine D ?_
 refine L (α := Nat) (fun x => [(1, .int .i64 (mkK sS (xs.take x) k)), (5, .int .i64 x)]) (fun x => []) (fun x => xs.length - x) (fun x => x ≤ xs.length) 0 [] (fun x hI => ?_) (by simp only [go_sem] <;> and_intros <;> first | with_reducible exact rfl | (first | omega | (simp [mkK]; done)))
 refine D ?_
 refine cC (fun c0 => ?_) (fun c0 => ?_)
 · skip
   have hat := mkK_at sS_up zSeal (xs := xs) (i := x) (by omega) hb
   simp only [sS] at hat
   have hg := mkL_getD mS sS zSeal k (show x < xs.length by omega)
   have hA := hg
   refine D ?_
   refine cF ?_
   refine D ?_
   refine cF ?_
   refine D ?_
   refine cF ?_
   refine D ?_
   refine cF ?_
   refine D ?_
   refine cF ?_
   refine D ?_
   refine cF ?_
   refine D ?_
   refine cF ?_
   refine D ?_
   refine cF ?_
   refine D ?_
   refine cF ?_
   refine D ?_
   refine cF ?_
   refine D ?_
   refine lp_next (x+1) [] ?_ ?_ ?_
   · simp only [go_sem, hA] <;> and_intros <;> first | with_reducible exact rfl | (first | omega | (refine int_eq ?_; rw [mkK_succ sS zSeal (by omega)]; rfl))
   · omega
   · omega
 · skip
   obtain rfl : x = xs.length := by omega
   refine D ?_
   refine E ?_
   first
   | exact trivial
   | simp [mkL_length]
end
end Go.H
end
section
set_option maxRecDepth 100000
set_option maxHeartbeats 4000000
set_option linter.unusedVariables false
set_option linter.unusedSimpArgs false
namespace Go.H
open Go Go.Proofs.Tryz
variable [Inv prog]
section
attribute [local go_sem] mCl
theorem s_laws_heldCluster (x : Cluster) (hx : limC 2097152 x) (k : Int) (hk : 0 ≤ k) (hb : sCl x k ≤ 9000000000000000000) : SemX prog 69 [aS (eCluster false (mCl x k)), aI k] [] [rI (sCl x k)] [] := by
 refine goF [] [] [] func69 ?_
 simp only [sCl] at hb
 have u3 := Int.le_trans (mkK_mono sS_up _ _) hb
 have u2 := Int.le_trans (mkK_mono sW_up _ _) u3
 have u1 := Int.le_trans (mkK_mono sM_up _ _) u2
 have v1 := mkK_mono sN_up x.nodes k
 have v2 := mkK_mono sM_up x.mails (mkK sN x.nodes k)
 have v3 := mkK_mono sW_up x.wins (mkK sM x.mails (mkK sN x.nodes k))
 have v4 := mkK_mono sS_up x.seals (mkK sW x.wins (mkK sM x.mails (mkK sN x.nodes k)))
 refine D ?_
 refine kR (s_laws_heldNodeS x.nodes k hk hx.1.1 u1 hx.1.2) ?_
 refine D ?_
 refine cC (fun c0 => ?_) (fun c0 => ?_)
 · skip
   omega
 · skip
   refine D ?_
   refine kR (s_laws_heldMailS x.mails _ (by omega) hx.2.1.1 u2 hx.2.1.2) ?_
   refine D ?_
   refine cC (fun c1 => ?_) (fun c1 => ?_)
   · skip
     omega
   · skip
     refine D ?_
     refine kR (s_laws_heldWonS x.wins _ (by omega) hx.2.2.1 u3) ?_
     refine D ?_
     refine cC (fun c2 => ?_) (fun c2 => ?_)
     · skip
       omega
     · skip
       refine D ?_
       refine kR (s_laws_heldSealS x.seals _ (by omega) hx.2.2.2 hb) ?_
       refine D ?_
       refine cC (fun c3 => ?_) (fun c3 => ?_)
       · skip
         omega
       · skip
         refine D ?_
         refine E ?_
         first
         | exact trivial
         | simp only [go_sem, sCl]
end
end Go.H
end
section
set_option maxRecDepth 100000
set_option maxHeartbeats 4000000
set_option linter.unusedVariables false
set_option linter.unusedSimpArgs false
namespace Go.H
open Go Go.Proofs.Tryz
variable [Inv prog]
section
attribute [local go_sem] mCl
theorem s_laws_heldClusterResult (x : Cluster) (c : Int) (hx : limC 2097152 x) (k : Int) (hk : 0 ≤ k) (hb : sCl x k ≤ 9000000000000000000) : SemX prog 19 [aS (eClusterResult false ⟨c, mCl x k⟩), aI k] [] [rI (sCl x k)] [] := by
 refine goF [] [] [] func19 ?_
 refine D ?_
 refine kR (s_laws_heldCluster x hx k hk hb) ?_
 refine D ?_
 refine cC (fun c0 => ?_) (fun c0 => ?_)
 · skip
   have := sCl_up x k
   omega
 · skip
   refine D ?_
   exact E trivial
end
end Go.H
end
section
set_option maxRecDepth 100000
set_option maxHeartbeats 4000000
set_option linter.unusedVariables false
set_option linter.unusedSimpArgs false
namespace Go.H
open Go Go.Proofs.Tryz
variable [Inv prog]
theorem s_spec_l1In (a b c : Int) : SemX prog 109 [.one (.t (.int .i64 a)), .one (.t (.int .i64 b)), .one (.t (.int .i64 c))] [] [.one (.bool (inR a b c))] [] := by
 refine goF [] [] [] func109 ?_
 refine D ?_
 refine E ?_
 first
 | exact trivial
 | simp only [go_sem, inR]; done
 | try simp only [go_sem, inR]
   exact rfl
end Go.H
end
section
set_option maxRecDepth 100000
set_option maxHeartbeats 4000000
set_option linter.unusedVariables false
set_option linter.unusedSimpArgs false
namespace Go.H
open Go Go.Proofs.Tryz
variable [Inv prog]
theorem s_spec_l9Place (x : Cluster) (n : Int) (hn : x.nodes.length ≤ 2097152) : SemX prog 126 [aT (.ptr (eCluster false x)), aI n] [] [rB (place x n)] [] := by
 refine goF [(24, ⟨some 1, none, none, none⟩)] [] [] func126 ?_
 refine D ?_
 refine kR (s_spec_l1In n 0 (x.nodes.length - 1)) ?_
 refine D ?_
 refine E ?_
 first
 | exact trivial
 | simp only [go_sem, place]
end Go.H
end
section
set_option maxRecDepth 100000
set_option maxHeartbeats 4000000
set_option linter.unusedVariables false
set_option linter.unusedSimpArgs false
namespace Go.H
open Go Go.Proofs.Tryz
variable [Inv prog]
theorem s_spec_LastOf (xs : List Entry) (hl : xs.length ≤ 9223372036854775807) : SemX prog 128 [aT (.sl false 9 (xs.map eEntry))] [] [.agg (eEntry (lastE xs))] [] := by
 refine goF [] [] [] func128 ?_
 refine D ?_
 refine cC (fun c0 => ?_) (fun c0 => ?_)
 · skip
   refine D ?_
   refine E ?_
   have he : lastE xs = zEntry := by simp only [lastE]; rw [if_pos (by omega)]
   simp [he, zEntry, zCmd]
 · skip
   refine D ?_
   refine E ?_
   have he : lastE xs = xs.getD (xs.length - 1) zEntry := by simp only [lastE]; rw [if_neg (by omega)]
   simp [he]
end Go.H
end
section
set_option maxRecDepth 100000
set_option maxHeartbeats 4000000
set_option linter.unusedVariables false
set_option linter.unusedSimpArgs false
namespace Go.H
open Go Go.Proofs.Tryz
variable [Inv prog]
theorem s_spec_l8Id (x : Node) (i : Int) : SemX prog 168 [aT (.ptr (eNode false x)), aI i] [] [rB (isId x i)] [] := by
 refine goF [] [] [] func168 ?_
 refine D ?_
 refine kR (s_spec_l1In i 0 (IntKind.wrap .i64 (x.peers - 1))) ?_
 refine D ?_
 refine E ?_
 first
 | exact trivial
 | simp only [go_sem, isId]
end Go.H
end
section
set_option maxRecDepth 100000
set_option maxHeartbeats 4000000
set_option linter.unusedVariables false
set_option linter.unusedSimpArgs false
namespace Go.H
open Go Go.Proofs.Tryz
variable [Inv prog]
theorem s_spec_l5Needs (k : Int) : SemX prog 196 [aI k] [] [rB (nd1 k), rB (nd2 k), rB (nd3 k), rB (nd4 k)] [] := by
 refine goF [] [] [] func196 ?_
 refine D ?_
 refine kR (s_spec_l1In k 5 8) ?_
 refine D ?_
 refine E ?_
 first
 | exact trivial
 | simp only [go_sem, nd1, nd2, nd3, nd4, rB]; done
 | try simp only [go_sem, nd1, nd2, nd3, nd4, rB]
   simp
   rw [Bool.eq_iff_iff]
   simp [inR]
   omega
end Go.H
end
section
set_option maxRecDepth 100000
set_option maxHeartbeats 4000000
set_option linter.unusedVariables false
set_option linter.unusedSimpArgs false
namespace Go.H
open Go Go.Proofs.Tryz
variable [Inv prog]
theorem s_spec_l5Version (n : Int) : SemX prog 197 [aI n] [] [rB (inR n 0 1000000)] [] := by
 refine goF [] [] [] func197 ?_
 refine D ?_
 refine kR (s_spec_l1In n 0 1000000) ?_
 refine D ?_
 exact E trivial
end Go.H
end
section
set_option maxRecDepth 100000
set_option maxHeartbeats 4000000
set_option linter.unusedVariables false
set_option linter.unusedSimpArgs false
namespace Go.H
open Go Go.Proofs.Tryz
variable [Inv prog]
theorem s_spec_l3Name (n : Int) : SemX prog 198 [aI n] [] [rB (inR n 1 999)] [] := by
 refine goF [] [] [] func198 ?_
 refine D ?_
 refine kR (s_spec_l1In n 1 999) ?_
 refine D ?_
 exact E trivial
end Go.H
end
section
set_option maxRecDepth 100000
set_option maxHeartbeats 4000000
set_option linter.unusedVariables false
set_option linter.unusedSimpArgs false
namespace Go.H
open Go Go.Proofs.Tryz
variable [Inv prog]
theorem s_spec_l2Address (n : Int) : SemX prog 199 [aI n] [] [rB (inR n 0 4294967295)] [] := by
 refine goF [] [] [] func199 ?_
 refine D ?_
 refine kR (s_spec_l1In n 0 4294967295) ?_
 refine D ?_
 exact E trivial
end Go.H
end
section
set_option maxRecDepth 100000
set_option maxHeartbeats 4000000
set_option linter.unusedVariables false
set_option linter.unusedSimpArgs false
namespace Go.H
open Go Go.Proofs.Tryz
variable [Inv prog]
theorem s_spec_l2Port (n : Int) : SemX prog 210 [aI n] [] [rB (inR n 0 65535)] [] := by
 refine goF [] [] [] func210 ?_
 refine D ?_
 refine kR (s_spec_l1In n 0 65535) ?_
 refine D ?_
 exact E trivial
end Go.H
end
section
set_option maxRecDepth 100000
set_option maxHeartbeats 4000000
set_option linter.unusedVariables false
set_option linter.unusedSimpArgs false
namespace Go.H
open Go Go.Proofs.Tryz
variable [Inv prog]
theorem s_spec_l5Number (x : Cmd) : SemX prog 200 [aS (eCmd x)] [] [rB (isNum x)] [] := by
 refine goF [] [] [] func200 ?_
 refine D ?_
 refine cC (fun c0 => ?_) (fun c0 => ?_)
 · skip
   refine D ?_
   refine cC (fun c1 => ?_) (fun c1 => ?_)
   · skip
     refine D ?_
     refine kR (s_spec_l1In _ _ _) ?_
     refine D ?_
     refine E ?_
     first
     | exact trivial
     | simp only [go_sem, isNum]; done
     | try simp only [go_sem, isNum]
       first | (exfalso; omega) | (simp [*]; done)
   · skip
     refine D ?_
     refine cC (fun c2 => ?_) (fun c2 => ?_)
     · skip
       refine D ?_
       refine kR (s_spec_l1In _ _ _) ?_
       refine D ?_
       refine E ?_
       first
       | exact trivial
       | simp only [go_sem, isNum]; done
       | try simp only [go_sem, isNum]
         first | (exfalso; omega) | (simp [*]; done)
     · skip
       refine D ?_
       refine cC (fun c3 => ?_) (fun c3 => ?_)
       · skip
         refine D ?_
         refine kR (s_spec_l1In _ _ _) ?_
         refine D ?_
         refine E ?_
         first
         | exact trivial
         | simp only [go_sem, isNum]; done
         | try simp only [go_sem, isNum]
           first | (exfalso; omega) | (simp [*]; done)
       · skip
         refine D ?_
         refine kR (s_spec_l2Port _) ?_
         refine D ?_
         refine E ?_
         first
         | exact trivial
         | simp only [go_sem, isNum]; done
         | try simp only [go_sem, isNum]
           first | (exfalso; omega) | (simp [*]; done)
 · skip
   refine D ?_
   refine cC (fun c1 => ?_) (fun c1 => ?_)
   · skip
     refine D ?_
     refine kR (s_spec_l1In _ _ _) ?_
     refine D ?_
     refine E ?_
     first
     | exact trivial
     | simp only [go_sem, isNum]; done
     | try simp only [go_sem, isNum]
       first | (exfalso; omega) | (simp [*]; done)
   · skip
     refine D ?_
     refine cC (fun c2 => ?_) (fun c2 => ?_)
     · skip
       refine D ?_
       refine kR (s_spec_l1In _ _ _) ?_
       refine D ?_
       refine E ?_
       first
       | exact trivial
       | simp only [go_sem, isNum]; done
       | try simp only [go_sem, isNum]
         first | (exfalso; omega) | (simp [*]; done)
     · skip
       refine D ?_
       refine cC (fun c3 => ?_) (fun c3 => ?_)
       · skip
         refine D ?_
         refine kR (s_spec_l1In _ _ _) ?_
         refine D ?_
         refine E ?_
         first
         | exact trivial
         | simp only [go_sem, isNum]; done
         | try simp only [go_sem, isNum]
           first | (exfalso; omega) | (simp [*]; done)
       · skip
         refine D ?_
         refine kR (s_spec_l2Port _) ?_
         refine D ?_
         refine E ?_
         first
         | exact trivial
         | simp only [go_sem, isNum]; done
         | try simp only [go_sem, isNum]
           first | (exfalso; omega) | (simp [*]; done)
end Go.H
end
section
set_option maxRecDepth 100000
set_option maxHeartbeats 4000000
set_option linter.unusedVariables false
set_option linter.unusedSimpArgs false
namespace Go.H
open Go Go.Proofs.Tryz
variable [Inv prog]
theorem s_spec_l5Proto (n : Int) : SemX prog 201 [aI n] [] [rB (isPro n)] [] := by
 refine goF [] [] [] func201 ?_
 refine D ?_
 refine E ?_
 first
 | exact trivial
 | simp only [go_sem, isPro]; done
 | try simp only [go_sem, isPro]
   cases decide (n = 6) <;> rfl
end Go.H
end
section
set_option maxRecDepth 100000
set_option maxHeartbeats 4000000
set_option linter.unusedVariables false
set_option linter.unusedSimpArgs false
namespace Go.H
open Go Go.Proofs.Tryz
variable [Inv prog]
section
attribute [local go_sem] exp_eq
theorem s_spec_CmdFault (x : Cmd) : SemX prog 189 [aS (eCmd x)] [] [rI (cmdFault x)] [] := by
 refine goF [] [] [] func189 ?_
 refine D ?_
 refine kR (s_spec_l1In _ _ _) ?_
 refine D ?_
 refine cC (fun c0 => ?_) (fun c0 => ?_)
 · skip
   refine D ?_
   refine E ?_
   first
   | exact trivial
   | simp only [go_sem, cmdFault]; done
   | try simp only [go_sem, cmdFault]
     grind
 · skip
   refine D ?_
   refine kR (s_spec_l5Needs _) ?_
   refine D ?_
   refine kRg (s_spec_l5Version _) ?_
   refine D ?_
   refine kRg (s_spec_l3Name _) ?_
   refine D ?_
   refine kRg (s_spec_l2Address _) ?_
   refine D ?_
   refine kRg (s_spec_l5Number _) ?_
   refine D ?_
   refine kRg (s_spec_l5Proto _) ?_
   refine D ?_
   refine cC (fun c1 => ?_) (fun c1 => ?_)
   · skip
     refine D ?_
     refine E ?_
     first
     | exact trivial
     | simp only [go_sem, cmdFault]; done
     | try simp only [go_sem, cmdFault]
       grind
   · skip
     refine D ?_
     refine cC (fun c2 => ?_) (fun c2 => ?_)
     · skip
       refine D ?_
       refine E ?_
       first
       | exact trivial
       | simp only [go_sem, cmdFault]; done
       | try simp only [go_sem, cmdFault]
         grind
     · skip
       refine D ?_
       refine E ?_
       first
       | exact trivial
       | simp only [go_sem, cmdFault]; done
       | try simp only [go_sem, cmdFault]
         grind
end
end Go.H
end
section
set_option maxRecDepth 100000
set_option maxHeartbeats 4000000
set_option linter.unusedVariables false
set_option linter.unusedSimpArgs false
namespace Go.H
open Go Go.Proofs.Tryz
variable [Inv prog]
theorem s_spec_EntryFault (x : Entry) : SemX prog 158 [aS (eEntry x)] [] [rI (entryFault x)] [] := by
 refine goF [] [] [] func158 ?_
 refine D ?_
 refine kR (s_spec_l1In _ _ _) ?_
 refine D ?_
 refine kRg (s_spec_l1In _ _ _) ?_
 refine D ?_
 refine kRg (s_spec_l1In _ _ _) ?_
 refine D ?_
 refine cC (fun c0 => ?_) (fun c0 => ?_)
 · skip
   refine D ?_
   refine E ?_
   first
   | exact trivial
   | simp only [go_sem, entryFault]; done
   | try simp only [go_sem, entryFault]
     simp only [entryFault, cmdZero]
     grind
 · skip
   refine D ?_
   refine cC (fun c1 => ?_) (fun c1 => ?_)
   · skip
     refine D ?_
     refine E ?_
     first
     | exact trivial
     | simp only [go_sem, entryFault]; done
     | try simp only [go_sem, entryFault]
       simp only [entryFault, cmdZero]
       grind
   · skip
     refine D ?_
     refine cC (fun c2 => ?_) (fun c2 => ?_)
     · skip
       refine D ?_
       refine kR (s_spec_CmdFault _) ?_
       refine D ?_
       refine E ?_
       first
       | exact trivial
       | simp only [go_sem, entryFault]; done
       | try simp only [go_sem, entryFault]
         simp only [entryFault, cmdZero]
         grind
     · skip
       refine D ?_
       refine cC (fun c3 => ?_) (fun c3 => ?_)
       · skip
         refine D ?_
         refine E ?_
         first
         | exact trivial
         | simp only [go_sem, entryFault]; done
         | try simp only [go_sem, entryFault]
           simp only [entryFault, cmdZero]
           grind
       · skip
         refine D ?_
         refine E ?_
         first
         | exact trivial
         | simp only [go_sem, entryFault]; done
         | try simp only [go_sem, entryFault]
           simp only [entryFault, cmdZero]
           grind
end Go.H
end
section
set_option maxRecDepth 100000
set_option maxHeartbeats 4000000
set_option linter.unusedVariables false
set_option linter.unusedSimpArgs false
namespace Go.H
open Go Go.Proofs.Tryz
variable [Inv prog]
theorem s_spec_LogFault (xs : List Entry) (hl : xs.length ≤ 9223372036854775807) : SemX prog 169 [aT (.sl false 9 (xs.map eEntry))] [] [rI (logFault xs)] [] := by
 refine goF [] [] [] func169 ?_
 refine D ?_
 refine cC (fun c0 => ?_) (fun c0 => ?_)
 · skip
   refine D ?_
   refine E ?_
   rw [logFault, if_pos (by omega)]
 · skip
   refine D ?_
   refine L (α := Nat) (fun x => [(3, .int .i64 x)]) (fun x => []) (fun x => xs.length - x) (fun x => x ≤ xs.length ∧ logFault xs = scan (logBad xs) xs.length x) 0 [] (fun x hL => ?_) (hi := by exact ⟨Nat.zero_le _, by simp only [logFault]; rw [if_neg (by omega)]⟩)
   obtain ⟨hI, he⟩ := hL
   refine D ?_
   refine cC (fun c1 => ?_) (fun c1 => ?_)
   · skip
     refine D ?_
     refine kR (s_spec_EntryFault _) ?_
     refine D ?_
     refine cC (fun c2 => ?_) (fun c2 => ?_)
     · skip
       refine D ?_
       refine E ?_
       first
       | exact trivial
       | rw [he, scan_lt (by omega)]
         simp only [logBad]
         grind
     · skip
       refine D ?_
       refine cC (fun c3 => ?_) (fun c3 => ?_)
       · skip
         refine D ?_
         refine E ?_
         first
         | exact trivial
         | rw [he, scan_lt (by omega)]
           simp only [logBad]
           grind
       · skip
         refine D ?_
         refine N (x+1) [] (hi := ?_) (hm := ?_)
         · refine ⟨by omega, ?_⟩
           rw [he, scan_lt (by omega)]
           simp only [logBad]
           grind
         · omega
   · skip
     obtain rfl : x = xs.length := by omega
     refine D ?_
     refine E ?_
     rw [he, scan_ge (by omega)]
end Go.H
end
section
set_option maxRecDepth 100000
set_option maxHeartbeats 4000000
set_option linter.unusedVariables false
set_option linter.unusedSimpArgs false
namespace Go.H
open Go Go.Proofs.Tryz
variable [Inv prog]
theorem s_spec_l8Rises (xs : List Int) (hl : xs.length ≤ 2097152) : SemX prog 191 [aT (.sl false 1 (xs.map eI_i64))] [] [rB (decide (rises xs))] [] := by
 refine goF [] [] [] func191 ?_
 refine D ?_
 refine L (α := Nat) (fun x => [(3, .int .i64 (x + 1 : Nat))]) (fun x => []) (fun x => xs.length + 1 - x) (fun x => (x = 0 ∨ x < xs.length) ∧ ∀ i, 0 < i → i ≤ x → xs.getD (i - 1) zI_i64 < xs.getD i zI_i64) 0 [] (fun x hL => ?_) (hi := by exact ⟨.inl rfl, fun i hi h2 => absurd hi (by omega)⟩)
 obtain ⟨hI, hj⟩ := hL
 refine D ?_
 refine cC (fun c0 => ?_) (fun c0 => ?_)
 · skip
   refine D ?_
   refine cC (fun c1 => ?_) (fun c1 => ?_)
   · skip
     refine D ?_
     refine E ?_
     rw [decide_eq_false]
     intro h
     have := h (x + 1) (by omega) (by omega)
     simp only [Nat.add_sub_cancel] at this
     grind
   · skip
     refine D ?_
     refine N (x+1) [] (hi := ?_) (hm := ?_)
     · refine ⟨by omega, fun i hi h2 => ?_⟩
       rcases Nat.lt_or_ge x i with h | h
       · rw [show i = x + 1 by omega]; simp only [Nat.add_sub_cancel]; grind
       · exact hj i hi h
     · omega
 · skip
   refine D ?_
   refine E ?_
   rw [decide_eq_true]
   intro i h1 h2
   exact hj i h1 (by omega)
end Go.H
end
section
set_option maxRecDepth 100000
set_option maxHeartbeats 4000000
set_option linter.unusedVariables false
set_option linter.unusedSimpArgs false
namespace Go.H
open Go Go.Proofs.Tryz
variable [Inv prog]
theorem s_spec_l8Lists (x : Node) (hx : limN 2097152 x) : SemX prog 170 [aT (.ptr (eNode false x))] [] [rB (decide (listsOk x))] [] := by
 refine goF [] [] [] func170 ?_
 obtain ⟨hx1, hx2, hx3, hx4⟩ := id hx
 refine D ?_
 refine kR (s_spec_l8Rises x.votes hx.2.1) ?_
 refine D ?_
 refine cC (fun c0 => ?_) (fun c0 => ?_)
 · skip
   refine D ?_
   refine E ?_
   symm
   rw [decide_eq_false_iff_not]
   unfold listsOk
   grind
 · skip
   refine D ?_
   refine L (α := Nat) (fun i => [(3, .int .i64 i)]) (fun i => []) (fun i => x.votes.length - i) (fun i => i ≤ x.votes.length ∧ ∀ j, j < i → isId x (x.votes.getD j zI_i64) = true) 0 [] (fun i hL => ?_) (hi := by exact ⟨Nat.zero_le _, fun j hj => absurd hj (by omega)⟩)
   obtain ⟨hI, hj⟩ := hL
   refine D ?_
   refine cC (fun c1 => ?_) (fun c1 => ?_)
   · skip
     refine D ?_
     refine kR (s_spec_l8Id x (x.votes.getD i zI_i64)) ?_
     refine D ?_
     refine cC (fun c2 => ?_) (fun c2 => ?_)
     · skip
       refine D ?_
       refine E ?_
       symm
       rw [decide_eq_false_iff_not]
       unfold listsOk idsOk
       grind
     · skip
       refine D ?_
       refine N (i+1) [] (hi := ?_) (hm := ?_)
       · refine ⟨by omega, fun j hj2 => ?_⟩
         rcases Nat.lt_or_ge j i with h | h
         · exact hj j h
         · rw [show j = i by omega]; simpa using c2
       · omega
   · skip
     obtain rfl : i = x.votes.length := by omega
     refine D ?_
     refine cC (fun c3 => ?_) (fun c3 => ?_)
     · skip
       refine D ?_
       refine E ?_
       first
       | exact trivial
       | rw [Bool.eq_iff_iff]
         simp only [listsOk, idsOk, due]
         have hl1 := hx.2.1
         grind
     · skip
       refine D ?_
       refine E ?_
       first
       | exact trivial
       | rw [Bool.eq_iff_iff]
         simp only [listsOk, idsOk, due]
         have hl1 := hx.2.1
         grind
end Go.H
end
section
set_option maxRecDepth 100000
set_option maxHeartbeats 4000000
set_option linter.unusedVariables false
set_option linter.unusedSimpArgs false
namespace Go.H
open Go Go.Proofs.Tryz
variable [Inv prog]
theorem s_spec_l8Fault (x : Node) (hx : limN 2097152 x) : SemX prog 127 [aT (.ptr (eNode false x))] [] [rI (nodeFault x)] [] := by
 refine goF [(204, ⟨some 1, none, none, none⟩)] [] [] func127 ?_
 obtain ⟨hx1, hx2, hx3, hx4⟩ := id hx
 refine D ?_
 refine kD (s_spec_l1In _ _ _) ?_
 refine D ?_
 refine kDg (s_spec_l8Id x x.id) ?_
 refine D ?_
 refine kDg (s_spec_l1In _ _ _) ?_
 refine D ?_
 refine kDg (s_spec_l1In _ _ _) ?_
 refine D ?_
 refine kDg (s_spec_l1In _ _ _) ?_
 refine D ?_
 refine cC (fun c0 => ?_) (fun c0 => ?_)
 · skip
   have hr : nodeRange x = false := by have hv := voted_eq x; unfold nodeRange; grind
   refine D ?_
   refine E ?_
   first
   | exact trivial
   | unfold nodeFault rangeOk
     grind
 · skip
   have hr : nodeRange x = true := by have hv := voted_eq x; unfold nodeRange; grind
   refine D ?_
   refine kR (s_spec_LogFault x.log (by omega)) ?_
   refine D ?_
   refine cC (fun c1 => ?_) (fun c1 => ?_)
   · skip
     refine D ?_
     refine E ?_
     first
     | exact trivial
     | unfold nodeFault rangeOk
       grind
   · skip
     refine D ?_
     refine kD (s_spec_LastOf x.log (by omega)) ?_
     refine D ?_
     refine cC (fun c2 => ?_) (fun c2 => ?_)
     · skip
       refine D ?_
       refine E ?_
       first
       | exact trivial
       | unfold nodeFault rangeOk
         grind
     · skip
       refine D ?_
       refine kR (s_spec_l1In _ _ _) ?_
       refine D ?_
       refine cC (fun c3 => ?_) (fun c3 => ?_)
       · skip
         refine D ?_
         refine E ?_
         first
         | exact trivial
         | unfold nodeFault rangeOk
           grind
       · skip
         refine D ?_
         refine kR (s_spec_l8Lists x hx) ?_
         refine D ?_
         refine cC (fun c4 => ?_) (fun c4 => ?_)
         · skip
           refine D ?_
           refine E ?_
           first
           | exact trivial
           | unfold nodeFault rangeOk
             grind
         · skip
           have hls : listsOk x := by grind
           have hll := listsOk_len hls
           refine D ?_
           refine L (α := Nat) (fun i => [(5, .int .i64 i)]) (fun i => []) (fun i => x.next.length - i) (fun i => i ≤ x.next.length ∧ ∀ j, j < i → inR (x.next.getD j zI_i64) 1 (x.log.length + 1) = true ∧ inR (x.match_.getD j zI_i64) 0 x.log.length = true) 0 [] (fun i hL => ?_) (hi := by exact ⟨Nat.zero_le _, fun j hj => absurd hj (by omega)⟩)
           obtain ⟨hI, hj⟩ := hL
           refine D ?_
           refine cC (fun c5 => ?_) (fun c5 => ?_)
           · skip
             refine D ?_
             refine kR (s_spec_l1In _ _ _) ?_
             refine D ?_
             refine kRg (s_spec_l1In _ _ _) ?_
             refine D ?_
             refine cC (fun c6 => ?_) (fun c6 => ?_)
             · skip
               refine D ?_
               refine E ?_
               first
               | exact trivial
               | unfold nodeFault rangeOk
                 grind
             · skip
               refine D ?_
               refine N (i+1) [] (hi := ?_) (hm := ?_)
               · refine ⟨by omega, fun j hj2 => ?_⟩
                 rcases Nat.lt_or_ge j i with h | h
                 · exact hj j h
                 · rw [show j = i by omega]; grind
               · omega
           · skip
             obtain rfl : i = x.next.length := by omega
             refine D ?_
             refine cC (fun c7 => ?_) (fun c7 => ?_)
             · skip
               refine D ?_
               refine E ?_
               first
               | exact trivial
               | unfold nodeFault rangeOk
                 grind
             · skip
               refine D ?_
               refine E ?_
               first
               | exact trivial
               | unfold nodeFault rangeOk
                 grind
end Go.H
end
section
set_option maxRecDepth 100000
set_option maxHeartbeats 4000000
set_option linter.unusedVariables false
set_option linter.unusedSimpArgs false
namespace Go.H
open Go Go.Proofs.Tryz
variable [Inv prog]
theorem s_spec_l8Zeros (m : Mail) : SemX prog 176 [aS (eMail false m)] [] [rB (decide (mailZeros m))] [] := by
 refine goF [] [] [] func176 ?_
 refine D ?_
 refine cC (fun c0 => ?_) (fun c0 => ?_)
 · skip
   refine D ?_
   refine E ?_
   first
   | exact trivial
   | rw [Bool.eq_iff_iff]
     simp only [decide_eq_true_eq, mailZeros]
     grind
 · skip
   refine D ?_
   refine cC (fun c1 => ?_) (fun c1 => ?_)
   · skip
     refine D ?_
     refine E ?_
     first
     | exact trivial
     | rw [Bool.eq_iff_iff]
       simp only [decide_eq_true_eq, mailZeros]
       grind
   · skip
     refine D ?_
     refine cC (fun c2 => ?_) (fun c2 => ?_)
     · skip
       refine D ?_
       refine E ?_
       first
       | exact trivial
       | rw [Bool.eq_iff_iff]
         simp only [decide_eq_true_eq, mailZeros]
         grind
     · skip
       refine D ?_
       refine E ?_
       first
       | exact trivial
       | rw [Bool.eq_iff_iff]
         simp only [decide_eq_true_eq, mailZeros]
         grind
end Go.H
end
section
set_option maxRecDepth 100000
set_option maxHeartbeats 4000000
set_option linter.unusedVariables false
set_option linter.unusedSimpArgs false
namespace Go.H
open Go Go.Proofs.Tryz
variable [Inv prog]
theorem s_spec_l8Mail (x : Node) (m : Mail) (hm : limM 2097152 m) : SemX prog 139 [aT (.ptr (eNode false x)), aS (eMail false m)] [] [rI (mailFault x m)] [] := by
 refine goF [] [(3, 2, [16384], []), (3, 7, [16384], []), (3, 16, [16384], []), (3, 25, [16384], []), (3, 31, [16384], []), (3, 37, [16384], []), (3, 39, [16384], []), (3, 45, [16384], []), (8, 1, [16384], []), (8, 6, [16384], []), (8, 10, [16384], []), (8, 14, [16384], []), (8, 19, [16384], []), (8, 24, [16384], [])] [] func139 ?_
 have hm1 : m.entries.length ≤ 2097152 := hm
 refine D ?_
 refine kR (s_spec_l1In _ _ _) ?_
 refine D ?_
 refine cC (fun c0 => ?_) (fun c0 => ?_)
 · skip
   refine D ?_
   refine E ?_
   first
   | exact trivial
   | unfold mailFault mailForm
     grind
 · skip
   refine D ?_
   refine kD (s_spec_l8Id x m.from_) ?_
   refine D ?_
   refine kDg (s_spec_l1In _ _ _) ?_
   refine D ?_
   refine kDg (s_spec_l1In _ _ _) ?_
   refine D ?_
   refine kDg (s_spec_l1In _ _ _) ?_
   refine D ?_
   refine kDg (s_spec_l1In _ _ _) ?_
   refine D ?_
   refine cC (fun c1 => ?_) (fun c1 => ?_)
   · skip
     have hr : mailRange x m = false := by unfold mailRange; grind
     refine D ?_
     refine E ?_
     first
     | exact trivial
     | unfold mailFault mailForm
       grind
   · skip
     have hr : mailRange x m = true := by unfold mailRange; grind
     refine D ?_
     refine kR (s_spec_LogFault m.entries (by omega)) ?_
     refine D ?_
     refine cC (fun c2 => ?_) (fun c2 => ?_)
     · skip
       refine D ?_
       refine E ?_
       first
       | exact trivial
       | unfold mailFault mailForm
         grind
     · skip
       refine D ?_
       refine kDg (s_spec_LastOf m.entries (by omega)) ?_
       refine D ?_
       refine cC (fun c3 => ?_) (fun c3 => ?_)
       · skip
         have hl : ¬ mailLog m := by unfold mailLog; grind
         refine D ?_
         refine E ?_
         first
         | exact trivial
         | unfold mailFault mailForm
           grind
       · skip
         have hl : mailLog m := by unfold mailLog; grind
         refine D ?_
         refine kRg (s_spec_l8Zeros m) ?_
         refine D ?_
         refine cC (fun c4 => ?_) (fun c4 => ?_)
         · skip
           refine D ?_
           refine E ?_
           first
           | exact trivial
           | unfold mailFault mailForm
             grind
         · skip
           refine D ?_
           refine E ?_
           first
           | exact trivial
           | unfold mailFault mailForm
             grind
end Go.H
end
section
set_option maxRecDepth 100000
set_option maxHeartbeats 4000000
set_option linter.unusedVariables false
set_option linter.unusedSimpArgs false
namespace Go.H
open Go Go.Proofs.Tryz
variable [Inv prog]
theorem s_spec_l9Fault (x : Cluster) (hx : limC 2097152 x) : SemX prog 108 [aT (.ptr (eCluster false x))] [] [rI (clusterFault x)] [] := by
 refine goF [] [] [] func108 ?_
 obtain ⟨⟨hn, hN⟩, ⟨hm, hM⟩, hw, hs⟩ := id hx
 refine D ?_
 refine cC (fun c0 => ?_) (fun c0 => ?_)
 · skip
   refine D ?_
   refine E ?_
   first
   | exact trivial
   | unfold clusterFault
     grind
 · skip
   refine D ?_
   refine L (α := Nat) (fun i => [(3, .int .i64 i)]) (fun i => []) (fun i => x.nodes.length - i) (fun i => i ≤ x.nodes.length ∧ scan (nodeAt x) x.nodes.length 0 = scan (nodeAt x) x.nodes.length i) 0 [] (fun i hL => ?_) (hi := by exact ⟨Nat.zero_le _, rfl⟩)
   obtain ⟨hI, he⟩ := hL
   refine D ?_
   refine cC (fun c1 => ?_) (fun c1 => ?_)
   · skip
     have hd := nodeAt_eq x i
     have hst := scan_lt (f := nodeAt x) (show i < x.nodes.length by omega)
     refine D ?_
     refine kR (s_spec_l8Fault (x.nodes.getD i zNode) ((all_getD zNode).2 hN i (by omega))) ?_
     refine D ?_
     refine cC (fun c2 => ?_) (fun c2 => ?_)
     · skip
       refine D ?_
       refine E ?_
       first
       | exact trivial
       | unfold clusterFault
         grind
     · skip
       refine D ?_
       refine cC (fun c3 => ?_) (fun c3 => ?_)
       · skip
         refine D ?_
         refine E ?_
         first
         | exact trivial
         | unfold clusterFault
           grind
       · skip
         refine D ?_
         refine N (i+1) [] (hi := ?_) (hm := ?_)
         · refine ⟨by omega, ?_⟩
           rw [he, scan_lt (by omega), if_pos]
           rw [nodeAt_eq]
           grind
         · omega
   · skip
     have hs0 : scan (nodeAt x) x.nodes.length 0 = 0 := by rw [he, scan_ge (by omega)]
     refine D ?_
     refine L (α := Nat) (fun i => [(5, .int .i64 i)]) (fun i => []) (fun i => x.mails.length - i) (fun i => i ≤ x.mails.length ∧ scan (mailAt x) x.mails.length 0 = scan (mailAt x) x.mails.length i) 0 [] (fun i hL => ?_) (hi := by exact ⟨Nat.zero_le _, rfl⟩)
     obtain ⟨hI, he⟩ := hL
     refine D ?_
     refine cC (fun c4 => ?_) (fun c4 => ?_)
     · skip
       have hd := mailAt_eq x i
       have hst := scan_lt (f := mailAt x) (show i < x.mails.length by omega)
       refine D ?_
       refine kR (s_spec_l9Place x _ hn) ?_
       refine D ?_
       refine cC (fun c5 => ?_) (fun c5 => ?_)
       · skip
         refine D ?_
         refine E ?_
         first
         | exact trivial
         | unfold clusterFault
           grind
       · skip
         have hp : place x (x.mails.getD i zMail).to_ = true := by grind
         have hp2 := place_iff.1 hp
         have hnf := (nodes_ok hs0 (i := (x.mails.getD i zMail).to_.toNat) (by omega)).1
         refine D ?_
         refine kD (s_spec_l8Mail (x.nodes.getD (x.mails.getD i zMail).to_.toNat zNode) (x.mails.getD i zMail) ((all_getD zMail).2 hM i (by omega))) ?_
         refine D ?_
         refine cC (fun c6 => ?_) (fun c6 => ?_)
         · skip
           refine D ?_
           refine E ?_
           first
           | exact trivial
           | unfold clusterFault
             grind
         · skip
           refine D ?_
           refine N (i+1) [] (hi := ?_) (hm := ?_)
           · refine ⟨by omega, ?_⟩
             rw [he, scan_lt (by omega), if_pos]
             rw [mailAt_eq]
             grind
           · omega
     · skip
       have hs1 : scan (mailAt x) x.mails.length 0 = 0 := by rw [he, scan_ge (by omega)]
       refine D ?_
       refine cC (fun c7 => ?_) (fun c7 => ?_)
       · skip
         refine D ?_
         refine E ?_
         first
         | exact trivial
         | unfold clusterFault
           grind
       · skip
         refine D ?_
         refine L (α := Nat) (fun i => [(7, .int .i64 i)]) (fun i => []) (fun i => x.wins.length - i) (fun i => i ≤ x.wins.length ∧ scan (winAt x) x.wins.length 0 = scan (winAt x) x.wins.length i) 0 [] (fun i hL => ?_) (hi := by exact ⟨Nat.zero_le _, rfl⟩)
         obtain ⟨hI, he⟩ := hL
         refine D ?_
         refine cC (fun c8 => ?_) (fun c8 => ?_)
         · skip
           have hd := winAt_eq x i
           have hst := scan_lt (f := winAt x) (show i < x.wins.length by omega)
           refine D ?_
           refine kR (s_spec_l1In _ _ _) ?_
           refine D ?_
           refine kRg (s_spec_l9Place x _ hn) ?_
           refine D ?_
           refine cC (fun c9 => ?_) (fun c9 => ?_)
           · skip
             refine D ?_
             refine E ?_
             first
             | exact trivial
             | unfold clusterFault
               grind
           · skip
             refine D ?_
             refine N (i+1) [] (hi := ?_) (hm := ?_)
             · refine ⟨by omega, ?_⟩
               rw [he, scan_lt (by omega), if_pos]
               rw [winAt_eq]
               grind
             · omega
         · skip
           have hs2 : scan (winAt x) x.wins.length 0 = 0 := by rw [he, scan_ge (by omega)]
           refine D ?_
           refine L (α := Nat) (fun i => [(8, .int .i64 i)]) (fun i => []) (fun i => x.seals.length - i) (fun i => i ≤ x.seals.length ∧ scan (sealAt x) x.seals.length 0 = scan (sealAt x) x.seals.length i) 0 [] (fun i hL => ?_) (hi := by exact ⟨Nat.zero_le _, rfl⟩)
           obtain ⟨hI, he⟩ := hL
           refine D ?_
           refine cC (fun c10 => ?_) (fun c10 => ?_)
           · skip
             have hd := sealAt_eq x i
             have hst := scan_lt (f := sealAt x) (show i < x.seals.length by omega)
             refine D ?_
             refine kR (s_spec_l1In _ _ _) ?_
             refine D ?_
             refine cC (fun c11 => ?_) (fun c11 => ?_)
             · skip
               refine D ?_
               refine E ?_
               first
               | exact trivial
               | unfold clusterFault
                 grind
             · skip
               refine D ?_
               refine kR (s_spec_EntryFault _) ?_
               refine D ?_
               refine cC (fun c12 => ?_) (fun c12 => ?_)
               · skip
                 refine D ?_
                 refine E ?_
                 first
                 | exact trivial
                 | unfold clusterFault
                   grind
               · skip
                 refine D ?_
                 refine N (i+1) [] (hi := ?_) (hm := ?_)
                 · refine ⟨by omega, ?_⟩
                   rw [he, scan_lt (by omega), if_pos]
                   rw [sealAt_eq]
                   grind
                 · omega
           · skip
             have hs3 : scan (sealAt x) x.seals.length 0 = 0 := by rw [he, scan_ge (by omega)]
             refine D ?_
             refine E ?_
             first
             | exact trivial
             | unfold clusterFault
               grind
end Go.H
end
section
set_option maxRecDepth 100000
set_option maxHeartbeats 4000000
set_option linter.unusedVariables false
set_option linter.unusedSimpArgs false
namespace Go.H
open Go Go.Proofs.Tryz
variable [Inv prog]
theorem s_spec_l9Mail (x : Cluster) (hx : limC 2097152 x) (p : Int) : SemX prog 50 [aT (.ptr (eCluster false x)), aI p] [] [rI (mailGuard x p)] [] := by
 refine goF [(36, ⟨some 1, none, none, none⟩)] [] [] func50 ?_
 obtain ⟨⟨hn, hN⟩, ⟨hm, hM⟩, hw, hs⟩ := id hx
 refine D ?_
 refine kR (s_spec_l9Fault x hx) ?_
 refine D ?_
 refine cC (fun c0 => ?_) (fun c0 => ?_)
 · skip
   refine D ?_
   refine E ?_
   first
   | exact trivial
   | unfold mailGuard
     grind
 · skip
   refine D ?_
   refine kR (s_spec_l1In p 0 (x.mails.length - 1)) ?_
   refine D ?_
   refine cC (fun c1 => ?_) (fun c1 => ?_)
   · skip
     refine D ?_
     refine E ?_
     first
     | exact trivial
     | unfold mailGuard
       grind
   · skip
     refine D ?_
     refine E ?_
     first
     | exact trivial
     | unfold mailGuard
       grind
end Go.H
end
section
set_option maxRecDepth 100000
set_option maxHeartbeats 4000000
set_option linter.unusedVariables false
set_option linter.unusedSimpArgs false
namespace Go.H
open Go Go.Proofs.Tryz
variable [Inv prog]
theorem s_spec_l9Bad (c : Int) : SemX prog 51 [aI c] [] [.agg (eClusterResult true (bad c))] [] := by
 refine goF [] [] [] func51 ?_
 refine D ?_
 refine E ?_
 first
 | exact trivial
 | simp [bad, zCluster]
end Go.H
end
section
set_option maxRecDepth 100000
set_option maxHeartbeats 4000000
set_option linter.unusedVariables false
set_option linter.unusedSimpArgs false
namespace Go.H
open Go Go.Proofs.Tryz
variable [Inv prog]
theorem s_spec_l7Copy (xs : List Entry) (hl : xs.length ≤ 2097152) : SemX prog 111 [.one (.t (.sl false 9 (xs.map eEntry)))] [] [.one (.sl true 9 (xs.map eEntry))] [] := by
 refine goF [] [] [] func111 ?_
 refine D ?_
 exact E trivial
end Go.H
end
section
set_option maxRecDepth 100000
set_option maxHeartbeats 4000000
set_option linter.unusedVariables false
set_option linter.unusedSimpArgs false
namespace Go.H
open Go Go.Proofs.Tryz
variable [Inv prog]
theorem s_spec_l9Mails (xs : List Mail) (hl : xs.length ≤ 2097152) (hm : ∀ i < xs.length, (xs.getD i zMail).entries.length ≤ 2097152) : SemX prog 53 [.one (.t (.sl false 9 (xs.map (eMail false))))] [] [.one (.sl true 9 (xs.map (eMail true)))] [] := by
 refine goF [] [] [] func53 ?_
 refine D ?_
 refine L (α := Nat) (fun x => [(3, .ref 28672 0 x), (4, .int .i64 x)]) (fun x => [(28672, .arr ⟨9, (xs.take x).map (eMail true), 1, none⟩)]) (fun x => xs.length - x) (fun x => x ≤ xs.length) 0 [] (fun x hI => ?_)
 refine D ?_
 refine cC (fun c0 => ?_) (fun c0 => ?_)
 · skip
   refine D ?_
   refine kR (s_spec_l7Copy (xs.getD x zMail).entries (hm x (by omega))) ?_
   refine D ?_
   refine lp_next (x+1) [(28672,102400)] ?_ ?_ ?_
   · simp only [go_sem] <;> and_intros <;> first | with_reducible exact rfl | (first | omega | (rw [take_succ_map _ zMail (by omega)]; simp only [eMail]))
   · omega
   · omega
 · skip
   obtain rfl : x = xs.length := by omega
   refine D ?_
   exact E trivial
end Go.H
end
section
set_option maxRecDepth 100000
set_option maxHeartbeats 4000000
set_option linter.unusedVariables false
set_option linter.unusedSimpArgs false
namespace Go.H
open Go Go.Proofs.Tryz
variable [Inv prog]
theorem s_spec_l8Copy (x : Node) (hx : limN 2097152 x) : SemX prog 110 [aS (eNode false x)] [] [.agg (eNode true x)] [] := by
 refine goF [] [] [] func110 ?_
 obtain ⟨hx1, hx2, hx3, hx4⟩ := id hx
 refine D ?_
 refine kR (s_spec_l7Copy x.log hx.1) ?_
 refine D ?_
 exact E trivial
end Go.H
end
section
set_option maxRecDepth 100000
set_option maxHeartbeats 4000000
set_option linter.unusedVariables false
set_option linter.unusedSimpArgs false
namespace Go.H
open Go Go.Proofs.Tryz
variable [Inv prog]
theorem s_spec_l9Copy (x : Cluster) (hx : limC 2097152 x) : SemX prog 52 [aS (eCluster false x)] [] [.agg (eCluster true x)] [] := by
 refine goF [(34, ⟨some 4, some 69632, some (34, true), none⟩)] [(1, 1, [8192], []), (1, 2, [], [32768]), (1, 3, [], [36864]), (1, 5, [8192], []), (1, 6, [36864], [49152, 36864]), (1, 7, [], [53248]), (1, 9, [8192], []), (1, 10, [53248], [65536, 53248]), (1, 11, [], [69632]), (1, 12, [], [16384]), (1, 13, [16384], [16384]), (5, 1, [16384], []), (5, 3, [8192], []), (5, 7, [], [131076, 131079, 131080, 131081]), (5, 8, [131076, 131079, 131080, 131081], [135168, 131076, 131079, 131080, 131081]), (5, 9, [69632, 135168], [139264, 69632, 135168]), (5, 11, [16384], [16384])] [] func52 ?_
 obtain ⟨⟨hn, hN⟩, ⟨hm, hM⟩, hw, hs⟩ := id hx
 refine D ?_
 refine kD (s_spec_l9Mails x.mails hm ((all_getD zMail).2 hM)) ?_
 refine D ?_
 refine L (α := Nat) (fun i => [(4, .int .i64 i)]) (fun i => [(16384, .var [.ref 69632 0 i, .ref 32768 0 x.mails.length, .ref 49152 0 x.wins.length, .ref 65536 0 x.seals.length]), (69632, .arr ⟨10, (x.nodes.take i).map (eNode true), 1, none⟩)]) (fun i => x.nodes.length - i) (fun i => i ≤ x.nodes.length) 0 [] (fun i hI => ?_)
 refine D ?_
 refine cC (fun c0 => ?_) (fun c0 => ?_)
 · skip
   refine D ?_
   refine kD (s_spec_l8Copy (x.nodes.getD i zNode) ((all_getD zNode).2 hN i (by omega))) ?_
   refine D ?_
   refine lp_next (i+1) [(69632,139264)] ?_ ?_ ?_
   · simp only [go_sem] <;> and_intros <;> first | with_reducible exact rfl | (first | omega | (rw [take_succ_map _ zNode (by omega)]; simp only [eNode]))
   · omega
   · omega
 · skip
   obtain rfl : i = x.nodes.length := by omega
   refine D ?_
   exact E trivial
end Go.H
end
section
set_option maxRecDepth 100000
set_option maxHeartbeats 4000000
set_option linter.unusedVariables false
set_option linter.unusedSimpArgs false
namespace Go.H
open Go Go.Proofs.Tryz
variable [Inv prog]
theorem s_spec_l9Without (x : Cluster) (hx : limC 2097152 x) (n : Nat) (hn2 : n < x.mails.length) : SemX prog 70 [aS (eCluster false x), aI n] [] [.agg (eClusterM true (without x n))] [] := by
 refine goF [(36, ⟨some 1, none, none, none⟩)] [(2, 0, [], [36864]), (2, 2, [24576], []), (2, 5, [36864], [57344, 36864]), (2, 7, [24576], []), (2, 11, [57344], [81920, 57344]), (2, 13, [24576], [24576])] [(1, [1000000032769])] func70 ?_
 obtain ⟨⟨hn, hN⟩, ⟨hm, hM⟩, hw, hs⟩ := id hx
 have hmn : min n x.mails.length = n := by omega
 have htk : List.take (n + (x.mails.length - (n + 1))) (x.mails.take n ++ x.mails.drop (n + 1)) = x.mails.take n ++ x.mails.drop (n + 1) := List.take_of_length_le (by simp; omega)
 have hA := And.intro hmn (htk)
 refine D ?_
 refine kR (s_spec_l9Copy x hx) ?_
 refine D ?_
 refine E ?_
 first
 | exact trivial
 | simp only [go_sem, without]
end Go.H
end
section
set_option maxRecDepth 100000
set_option maxHeartbeats 4000000
set_option linter.unusedVariables false
set_option linter.unusedSimpArgs false
namespace Go.H
open Go Go.Proofs.Tryz
variable [Inv prog]
theorem s_spec_l9Do (x : Cluster) (hx : limC 2097152 x) (i : Nat) (hi : i < x.nodes.length) (r : NodeResult) (hr : limR 2097152 r) (hc : r.node.commit ≤ r.node.log.length) : SemX prog 74 [aS (eCluster false x), aI i, aS (eNodeResult true r)] [] [.agg (eClusterResult true (doR x i r))] [] := by
 refine goF [(59, ⟨some 6, none, none, some [24576]⟩), (166, ⟨some 1, none, none, none⟩)] [(6, 1, [36864], []), (6, 3, [24576], []), (6, 4, [8203], [139264]), (6, 5, [94209, 139264], [143360, 94209, 139264]), (6, 7, [36864], [36864]), (16, 1, [36864], []), (16, 4, [24576], []), (16, 7, [24576], []), (16, 9, [94208], []), (16, 10, [94208], []), (16, 12, [], [393216]), (16, 13, [94211, 393216], [397312, 94211, 393216]), (16, 15, [36864], [36864])] [] func74 ?_
 obtain ⟨⟨hn, hN⟩, ⟨hm, hM⟩, hw, hs⟩ := id hx
 obtain ⟨hrn, hrs, hrm⟩ := id hr
 obtain ⟨hr1, hr2, hr3, hr4⟩ := id hrn
 refine D ?_
 refine cC (fun c0 => ?_) (fun c0 => ?_)
 · skip
   refine D ?_
   refine kR (s_spec_l9Bad r.code) ?_
   refine D ?_
   refine E ?_
   have he : doR x i r = bad r.code := by simp [doR, doOk, c0]
   simp [he, bad, zCluster]
 · skip
   refine D ?_
   refine kR (s_spec_l9Copy x hx) ?_
   refine D ?_
   refine kD (s_spec_l9Mails r.send hrs ((all_getD zMail).2 hrm)) ?_
   refine D ?_
   refine cC (fun c1 => ?_) (fun c1 => ?_)
   · skip
     refine D ?_
     refine kR (s_spec_l9Bad 2) ?_
     refine D ?_
     refine E ?_
     have he : doR x i r = bad 2 := by unfold doR doOk; grind
     simp [he, bad, zCluster]
   · skip
     refine D ?_
     refine cC (fun c2 => ?_) (fun c2 => ?_)
     · skip
       refine D ?_
       refine cC (fun c3 => ?_) (fun c3 => ?_)
       · skip
         refine D ?_
         refine kR (s_spec_l9Bad 2) ?_
         refine D ?_
         refine E ?_
         have he : doR x i r = bad 2 := by unfold doR doOk wonBy; grind
         simp [he, bad, zCluster]
       · skip
         refine D ?_
         refine L (α := Nat) (fun k => [(9, .int .i64 k)]) (fun k => [(36864, .var [.ref 94208 0 x.nodes.length, .ref 143360 0 (x.mails.length + r.send.length), .ref 294912 0 (x.wins.length + 1), .ref 94211 0 k]), (94211, .arr ⟨10, (sealsTo x.seals r.node k).map eSeal, 1, none⟩)]) (fun k => x.seals.length + r.node.log.length - k) (fun k => x.seals.length ≤ k ∧ k ≤ max x.seals.length r.node.commit.toNat) x.seals.length [] (fun k hL => ?_) (by (simp only [go_sem, sealsTo_self x.seals r.node (Nat.le_refl _)] <;> and_intros <;> first | with_reducible exact rfl | omega | grind)) (by exact ⟨Nat.le_refl _, Nat.le_max_left _ _⟩)
         obtain ⟨hk1, hk2⟩ := hL
         have hL := sealsTo_len' x.seals r.node hk1 (by omega)
         have hT : List.take k ((sealsTo x.seals r.node k).map eSeal) = (sealsTo x.seals r.node k).map eSeal := List.take_of_length_le (by simp [hL])
         have hA := And.intro hL (hT)
         refine D ?_
         refine cC (fun c4 => ?_) (fun c4 => ?_)
         · skip
           refine D ?_
           refine lp_next (k+1) [(94211,397312)] ?_ ?_ ?_
           · simp only [go_sem, hA] <;> and_intros <;> first | with_reducible exact rfl | (first | omega | (rw [sealsTo_succ x.seals r.node hk1 (by omega)]; simp [eSeal]))
           · omega
           · omega
         · skip
           refine D ?_
           refine E ?_
           have hw2 : wonBy x i r.node = true := by unfold wonBy; grind
           have he : doR x i r = ⟨0, doC x i r⟩ := by unfold doR doOk; grind
           have hse := sealsTo_end x.seals r.node hk1 hk2 (by omega) hc
           simp [he, doC, doWins, hw2, hse, eNode, eWon, List.map_set, List.take_of_length_le]
     · skip
       refine D ?_
       refine L (α := Nat) (fun k => [(9, .int .i64 k)]) (fun k => [(36864, .var [.ref 94208 0 x.nodes.length, .ref 143360 0 (x.mails.length + r.send.length), .ref 94210 0 x.wins.length, .ref 94211 0 k]), (94211, .arr ⟨10, (sealsTo x.seals r.node k).map eSeal, 1, none⟩)]) (fun k => x.seals.length + r.node.log.length - k) (fun k => x.seals.length ≤ k ∧ k ≤ max x.seals.length r.node.commit.toNat) x.seals.length [] (fun k hL => ?_) (by (simp only [go_sem, sealsTo_self x.seals r.node (Nat.le_refl _)] <;> and_intros <;> first | with_reducible exact rfl | omega | grind)) (by exact ⟨Nat.le_refl _, Nat.le_max_left _ _⟩)
       obtain ⟨hk1, hk2⟩ := hL
       have hL := sealsTo_len' x.seals r.node hk1 (by omega)
       have hT : List.take k ((sealsTo x.seals r.node k).map eSeal) = (sealsTo x.seals r.node k).map eSeal := List.take_of_length_le (by simp [hL])
       have hA := And.intro hL (hT)
       refine D ?_
       refine cC (fun c4 => ?_) (fun c4 => ?_)
       · skip
         refine D ?_
         refine lp_next (k+1) [(94211,397312)] ?_ ?_ ?_
         · simp only [go_sem, hA] <;> and_intros <;> first | with_reducible exact rfl | (first | omega | (rw [sealsTo_succ x.seals r.node hk1 (by omega)]; simp [eSeal]))
         · omega
         · omega
       · skip
         refine D ?_
         refine E ?_
         have hw2 : wonBy x i r.node = false := by unfold wonBy; grind
         have he : doR x i r = ⟨0, doC x i r⟩ := by unfold doR doOk; grind
         have hse := sealsTo_end x.seals r.node hk1 hk2 (by omega) hc
         simp [he, doC, doWins, hw2, hse, eNode, eWon, List.map_set, List.take_of_length_le]
end Go.H
end
section
set_option maxRecDepth 100000
set_option maxHeartbeats 4000000
set_option linter.unusedVariables false
set_option linter.unusedSimpArgs false
namespace Go.H
open Go Go.Proofs.Tryz
variable [Inv prog]
theorem s_spec_l8Bad (c : Int) : SemX prog 81 [aI c] [] [.agg (eNodeResult true (badN c))] [] := by
 refine goF [] [] [] func81 ?_
 refine D ?_
 refine E ?_
 first
 | exact trivial
 | simp [badN, zNode]
end Go.H
end
section
set_option maxRecDepth 100000
set_option maxHeartbeats 4000000
set_option linter.unusedVariables false
set_option linter.unusedSimpArgs false
namespace Go.H
open Go Go.Proofs.Tryz
variable [Inv prog]
theorem s_spec_l8Quorum (x : Node) (c : Int) (h0 : 0 ≤ c) (h1 : c ≤ 4194304) : SemX prog 129 [aT (.ptr (eNode false x)), aI c] [] [rB (quor x c)] [] := by
 refine goF [(14, ⟨some 1, none, none, none⟩)] [] [] func129 ?_
 refine D ?_
 refine E ?_
 first
 | exact trivial
 | simp only [go_sem, quor]
end Go.H
end
section
set_option maxRecDepth 100000
set_option maxHeartbeats 4000000
set_option linter.unusedVariables false
set_option linter.unusedSimpArgs false
namespace Go.H
open Go Go.Proofs.Tryz
variable [Inv prog]
theorem s_spec_l8Follow (x : Node) (hx : limN 2097152 x) (c : Int) (S : List (List T)) : SemX prog 140 [.one (.ptr 0 1)] [.var (.int .i64 c :: eNode true x ++ [.sl true 9 S])] [] [.var (.int .i64 c :: eNode true (followed x) ++ [.sl true 9 S])] := by
 refine goF [] [] [] func140 ?_
 obtain ⟨hx1, hx2, hx3, hx4⟩ := id hx
 refine D ?_
 refine E ?_
 first
 | exact trivial
 | simp [followed]
theorem s_spec_l8Follow_N (x : Node) (hx : limN 2097152 x) (c : Int) : SemX prog 140 [.one (.ptr 0 1)] [.var (.int .i64 c :: eNode true x ++ [.nl])] [] [.var (.int .i64 c :: eNode true (followed x) ++ [.nl])] := by
 refine goF [] [] [] func140 ?_
 obtain ⟨hx1, hx2, hx3, hx4⟩ := id hx
 refine D ?_
 refine E ?_
 first
 | exact trivial
 | simp [followed]
end Go.H
end
section
set_option maxRecDepth 100000
set_option maxHeartbeats 4000000
set_option linter.unusedVariables false
set_option linter.unusedSimpArgs false
namespace Go.H
open Go Go.Proofs.Tryz
variable [Inv prog]
theorem s_spec_l8Agree (x : Node) (hx : limN 2097152 x) (h0 : 0 ≤ x.commit) (h1 : x.commit ≤ x.log.length) (c : Int) (S : List (List T)) : SemX prog 159 [.one (.ptr 0 1)] [.var (.int .i64 c :: eNode true x ++ [.sl true 9 S])] [] [.var (.int .i64 c :: eNode true (agreed x) ++ [.sl true 9 S])] := by
 refine goF [(36, ⟨some 1, none, none, none⟩), (76, ⟨some 1, none, none, none⟩), (96, ⟨some 1, none, none, none⟩)] [(9, 2, [1000000, 1000006, 1000009, 1000010, 1000011, 1000012], []), (9, 7, [1000000], []), (9, 10, [1000006], []), (9, 12, [1000006], []), (9, 16, [1000000], [])] [] func159 ?_
 obtain ⟨hx1, hx2, hx3, hx4⟩ := id hx
 refine D ?_
 refine L (α := Nat) (fun n => [(2, .int .i64 n)]) (fun n => []) (fun n => n) (fun n => n ≤ x.log.length ∧ x.commit ≤ n ∧ agI x = agN x x.commit.toNat n) x.log.length [] (fun n hL => ?_) (hi := by exact ⟨Nat.le_refl _, h1, rfl⟩)
 obtain ⟨hn, hc, ha⟩ := hL
 refine D ?_
 refine cC (fun c0 => ?_) (fun c0 => ?_)
 · skip
   refine D ?_
   refine L (α := Nat) (fun j => [(3, .int .i64 (cntGe (x.match_.take j) n)), (4, .int .i64 j)]) (fun j => []) (fun j => x.match_.length - j) (fun j => j ≤ x.match_.length) 0 [] (fun j hL => ?_) (by (simp only [go_sem] <;> and_intros <;> first | with_reducible exact rfl | (simp [cntGe]; done) | omega))
   obtain hj := hL
   have hcb := cntGe_take_le x.match_ n j
   refine D ?_
   refine cC (fun c1 => ?_) (fun c1 => ?_)
   · skip
     refine D ?_
     refine cC (fun c2 => ?_) (fun c2 => ?_)
     · skip
       refine D ?_
       refine lp_next (j+1) [] ?_ ?_ ?_
       · simp only [go_sem] <;> and_intros <;> first | with_reducible exact rfl | (first | omega | (refine int_eq ?_; rw [cntGe_succ (by omega)]; first | (rw [if_pos (by assumption)]; omega) | (rw [if_neg (by assumption)]; omega)))
       · omega
       · omega
     · skip
       refine D ?_
       refine lp_next (j+1) [] ?_ ?_ ?_
       · simp only [go_sem] <;> and_intros <;> first | with_reducible exact rfl | (first | omega | (refine int_eq ?_; rw [cntGe_succ (by omega)]; first | (rw [if_pos (by assumption)]; omega) | (rw [if_neg (by assumption)]; omega)))
       · omega
       · omega
   · skip
     obtain rfl : j = x.match_.length := by omega
     refine D ?_
     refine kD (s_spec_l8Quorum x (cntGe x.match_ n) (by omega) (by have := cntGe_le x.match_ n; omega)) ?_
     refine D ?_
     refine cC (fun c3 => ?_) (fun c3 => ?_)
     · skip
       refine D ?_
       refine E ?_
       have e : agI x = n := by rw [ha, agN_ok x (by omega) (by unfold agOk; simp_all)]
       simp only [agreed, e]
     · skip
       refine D ?_
       refine lp_next (n - 1) [] ?_ ?_ ?_
       · simp only [go_sem] <;> and_intros <;> first | with_reducible exact rfl | (first | omega | (refine int_eq ?_; omega))
       · refine ⟨by omega, by omega, ?_⟩
         rw [ha, agN_no x (by omega) (by unfold agOk; simp_all)]
       · omega
 · skip
   have hn2 : (n : Int) = x.commit := by omega
   refine D ?_
   refine E ?_
   have e : agI x = x.commit := by rw [ha, agN_le x (c := x.commit.toNat) (n := n) (by omega)]; omega
   simp only [agreed, e]
theorem s_spec_l8Agree_N (x : Node) (hx : limN 2097152 x) (h0 : 0 ≤ x.commit) (h1 : x.commit ≤ x.log.length) (c : Int) : SemX prog 159 [.one (.ptr 0 1)] [.var (.int .i64 c :: eNode true x ++ [.nl])] [] [.var (.int .i64 c :: eNode true (agreed x) ++ [.nl])] := by
 refine goF [(36, ⟨some 1, none, none, none⟩), (76, ⟨some 1, none, none, none⟩), (96, ⟨some 1, none, none, none⟩)] [(9, 2, [1000000, 1000006, 1000009, 1000010, 1000011], []), (9, 7, [1000000], []), (9, 10, [1000006], []), (9, 12, [1000006], []), (9, 16, [1000000], [])] [] func159 ?_
 obtain ⟨hx1, hx2, hx3, hx4⟩ := id hx
 refine D ?_
 refine L (α := Nat) (fun n => [(2, .int .i64 n)]) (fun n => []) (fun n => n) (fun n => n ≤ x.log.length ∧ x.commit ≤ n ∧ agI x = agN x x.commit.toNat n) x.log.length [] (fun n hL => ?_) (hi := by exact ⟨Nat.le_refl _, h1, rfl⟩)
 obtain ⟨hn, hc, ha⟩ := hL
 refine D ?_
 refine cC (fun c0 => ?_) (fun c0 => ?_)
 · skip
   refine D ?_
   refine L (α := Nat) (fun j => [(3, .int .i64 (cntGe (x.match_.take j) n)), (4, .int .i64 j)]) (fun j => []) (fun j => x.match_.length - j) (fun j => j ≤ x.match_.length) 0 [] (fun j hL => ?_) (by (simp only [go_sem] <;> and_intros <;> first | with_reducible exact rfl | (simp [cntGe]; done) | omega))
   obtain hj := hL
   have hcb := cntGe_take_le x.match_ n j
   refine D ?_
   refine cC (fun c1 => ?_) (fun c1 => ?_)
   · skip
     refine D ?_
     refine cC (fun c2 => ?_) (fun c2 => ?_)
     · skip
       refine D ?_
       refine lp_next (j+1) [] ?_ ?_ ?_
       · simp only [go_sem] <;> and_intros <;> first | with_reducible exact rfl | (first | omega | (refine int_eq ?_; rw [cntGe_succ (by omega)]; first | (rw [if_pos (by assumption)]; omega) | (rw [if_neg (by assumption)]; omega)))
       · omega
       · omega
     · skip
       refine D ?_
       refine lp_next (j+1) [] ?_ ?_ ?_
       · simp only [go_sem] <;> and_intros <;> first | with_reducible exact rfl | (first | omega | (refine int_eq ?_; rw [cntGe_succ (by omega)]; first | (rw [if_pos (by assumption)]; omega) | (rw [if_neg (by assumption)]; omega)))
       · omega
       · omega
   · skip
     obtain rfl : j = x.match_.length := by omega
     refine D ?_
     refine kD (s_spec_l8Quorum x (cntGe x.match_ n) (by omega) (by have := cntGe_le x.match_ n; omega)) ?_
     refine D ?_
     refine cC (fun c3 => ?_) (fun c3 => ?_)
     · skip
       refine D ?_
       refine E ?_
       have e : agI x = n := by rw [ha, agN_ok x (by omega) (by unfold agOk; simp_all)]
       simp only [agreed, e]
     · skip
       refine D ?_
       refine lp_next (n - 1) [] ?_ ?_ ?_
       · simp only [go_sem] <;> and_intros <;> first | with_reducible exact rfl | (first | omega | (refine int_eq ?_; omega))
       · refine ⟨by omega, by omega, ?_⟩
         rw [ha, agN_no x (by omega) (by unfold agOk; simp_all)]
       · omega
 · skip
   have hn2 : (n : Int) = x.commit := by omega
   refine D ?_
   refine E ?_
   have e : agI x = x.commit := by rw [ha, agN_le x (c := x.commit.toNat) (n := n) (by omega)]; omega
   simp only [agreed, e]
end Go.H
end
section
set_option maxRecDepth 100000
set_option maxHeartbeats 4000000
set_option linter.unusedVariables false
set_option linter.unusedSimpArgs false
namespace Go.H
open Go Go.Proofs.Tryz
variable [Inv prog]
section
attribute [local go_sem] rep_I set_map_I followed led
theorem s_spec_l8Lead (x : Node) (hx : limN 2097152 x) (h0 : 0 ≤ x.commit) (h1 : x.commit ≤ x.log.length) (p1 : 1 ≤ x.peers) (p2 : x.peers ≤ 5) (p3 : 0 ≤ x.id) (p4 : x.id < x.peers) (c : Int) (S : List (List T)) (hS : T.noShR S = True) : SemX prog 130 [.one (.ptr 0 1)] [.var (.int .i64 c :: eNode true x ++ [.sl true 9 S])] [] [.var (.int .i64 c :: eNode true (leadOf x) ++ [.sl true 9 S])] := by
 refine goF [(54, ⟨some 1, none, none, none⟩), (32, ⟨some 1, none, none, none⟩)] [(5, 4, [1000000], []), (5, 8, [1000000], []), (5, 11, [], [114688]), (5, 12, [21513, 114688], [118784, 21513, 114688]), (5, 15, [1000000], [1000000]), (7, 3, [1000000], []), (7, 7, [1000000], []), (7, 11, [1000000], []), (7, 13, [21514], []), (7, 14, [21514], [21514])] [] func130 ?_
 obtain ⟨hx1, hx2, hx3, hx4⟩ := id hx
 have hll : limN 2097152 (led x) := ⟨hx.1, by simp [led], by simp [led]; omega, by simp [led]; omega⟩
 have hA := hS
 refine D ?_
 refine kRk [1000000] [] [1000006, 1000009, 1000010, 1000011, 1000012] (s_spec_l8Follow x hx c S) ?_
 refine D ?_
 refine L (α := Nat) (fun i => [(2, .int .i64 i)]) (fun i => [(1000000, .var [.int .i64 c, .int .i64 x.id, .int .i64 x.peers, .int .i64 x.term, .int .i64 x.voted, .ref 21509 0 x.log.length, .int .i64 2, .int .i64 x.commit, .ref 21512 0 0, .ref 21513 0 i, .ref 21514 0 i, .ref 21515 0 S.length]), (21513, .arr ⟨1, (List.replicate i ((x.log.length : Int) + 1)).map eI_i64, 1, none⟩), (21514, .arr ⟨1, (List.replicate i (0 : Int)).map eI_i64, 1, none⟩)]) (fun i => x.peers.toNat - i) (fun i => (i : Int) ≤ x.peers) 0 [] (fun i hL => ?_) (hi := by omega)
 obtain hI := hL
 refine D ?_
 refine cC (fun c0 => ?_) (fun c0 => ?_)
 · skip
   refine D ?_
   refine lp_next (i+1) [(21513,118784),(21514,155648)] ?_ ?_ ?_
   · simp only [go_sem, hA] <;> and_intros <;> first | with_reducible exact rfl | (first | omega | (simp [rep_snoc, List.replicate_succ, eI_i64]; done))
   · omega
   · omega
 · skip
   have hi : i = x.peers.toNat := by omega
   subst hi
   refine D ?_
   refine kRk [1000000] [] [21509, 21512, 21513, 21514, 21515] (s_spec_l8Agree (led x) hll h0 h1 c S) ?_
   refine D ?_
   refine E ?_
   first
   | exact trivial
   | simp [leadOf, led]
end
section
attribute [local go_sem] rep_I set_map_I followed led
theorem s_spec_l8Lead_N (x : Node) (hx : limN 2097152 x) (h0 : 0 ≤ x.commit) (h1 : x.commit ≤ x.log.length) (p1 : 1 ≤ x.peers) (p2 : x.peers ≤ 5) (p3 : 0 ≤ x.id) (p4 : x.id < x.peers) (c : Int) : SemX prog 130 [.one (.ptr 0 1)] [.var (.int .i64 c :: eNode true x ++ [.nl])] [] [.var (.int .i64 c :: eNode true (leadOf x) ++ [.nl])] := by
 refine goF [(54, ⟨some 1, none, none, none⟩), (32, ⟨some 1, none, none, none⟩)] [(5, 4, [1000000], []), (5, 8, [1000000], []), (5, 11, [], [114688]), (5, 12, [21513, 114688], [118784, 21513, 114688]), (5, 15, [1000000], [1000000]), (7, 3, [1000000], []), (7, 7, [1000000], []), (7, 11, [1000000], []), (7, 13, [21514], []), (7, 14, [21514], [21514])] [] func130 ?_
 obtain ⟨hx1, hx2, hx3, hx4⟩ := id hx
 have hll : limN 2097152 (led x) := ⟨hx.1, by simp [led], by simp [led]; omega, by simp [led]; omega⟩
 refine D ?_
 refine kRk [1000000] [] [1000006, 1000009, 1000010, 1000011] (s_spec_l8Follow_N x hx c) ?_
 refine D ?_
 refine L (α := Nat) (fun i => [(2, .int .i64 i)]) (fun i => [(1000000, .var [.int .i64 c, .int .i64 x.id, .int .i64 x.peers, .int .i64 x.term, .int .i64 x.voted, .ref 21509 0 x.log.length, .int .i64 2, .int .i64 x.commit, .ref 21512 0 0, .ref 21513 0 i, .ref 21514 0 i, .nil]), (21513, .arr ⟨1, (List.replicate i ((x.log.length : Int) + 1)).map eI_i64, 1, none⟩), (21514, .arr ⟨1, (List.replicate i (0 : Int)).map eI_i64, 1, none⟩)]) (fun i => x.peers.toNat - i) (fun i => (i : Int) ≤ x.peers) 0 [] (fun i hL => ?_) (hi := by omega)
 obtain hI := hL
 refine D ?_
 refine cC (fun c0 => ?_) (fun c0 => ?_)
 · skip
   refine D ?_
   refine lp_next (i+1) [(21513,118784),(21514,155648)] ?_ ?_ ?_
   · simp only [go_sem] <;> and_intros <;> first | with_reducible exact rfl | (first | omega | (simp [rep_snoc, List.replicate_succ, eI_i64]; done))
   · omega
   · omega
 · skip
   have hi : i = x.peers.toNat := by omega
   subst hi
   refine D ?_
   refine kRk [1000000] [] [21509, 21512, 21513, 21514] (s_spec_l8Agree_N (led x) hll h0 h1 c) ?_
   refine D ?_
   refine E ?_
   first
   | exact trivial
   | simp [leadOf, led]
end
end Go.H
end
section
set_option maxRecDepth 100000
set_option maxHeartbeats 4000000
set_option linter.unusedVariables false
set_option linter.unusedSimpArgs false
namespace Go.H
open Go Go.Proofs.Tryz
variable [Inv prog]
theorem s_spec_l7UpToDate (log : List Entry) (hl : log.length ≤ 2097152) (index term : Int) : SemX prog 177 [aT (.sl false 9 (log.map eEntry)), aI index, aI term] [] [rB (upM log index term)] [] := by
 refine goF [] [] [] func177 ?_
 refine D ?_
 refine kR (s_spec_LastOf log (by omega)) ?_
 refine D ?_
 refine E ?_
 first
 | exact trivial
 | simp only [go_sem, upM]
end Go.H
end
